/-
  BODIES OF FUNCTIONS OF THE PROGRAM AS SMALL OPERATIONS (written by gen.py; checked by the kernel against the program). Conditions: none.
-/
import Derived.Test.YthnpflkpjimkfaaKAmH
import Derived.Test.YthnpflkpjimkfaaK04
import Derived.Test.YthnpflkpjimkfaaK05
import Derived.Test.YthnpflkpjimkfaaK03
import Derived.Test.YthnpflkpjimkfaaK00
set_option linter.all false
namespace Go.Proofs.Ythnpflkpjimkfaa
open Go.AM
open Go.Proofs.Try (prog)
set_option maxRecDepth 100000
set_option linter.all false
namespace r07_more
noncomputable section
variable (K : List Item) (s : St)
def b : Code := (Try.f63.body).getD .skip
theorem hf : prog.funcs[63]? = some Try.f63 := by kernel_rfl
def r0 := findReg b 0
def r1 := findReg b 1
def r2 := findReg b 2
def k0 := findBlk b 0
def l0 := loopOf k0
def L0 (x0 x1 x2 x7 x8 : AV) (m : Mem) (K : List Item) : Option Res := den prog ann 63 (.code l0 :: .inLoop l0 :: .inBlock 0 :: K) ⟨[(0, x0), (1, x1), (2, x2), (7, x7), (8, x8)], 72, m⟩
def r3 := findReg b 3
def i0 := findCond b 0
def i0t := thenOf i0
def i0e := elseOf i0
def k1 := findBlk b 1
def r5 := findReg b 5
def i1 := findCond b 1
def i1t := thenOf i1
def i1e := elseOf i1
def r6 := findReg b 6
def k2 := findBlk b 2
def l2 := loopOf k2
def L2 (x0 x1 x2 x7 x8 x9 x10 : AV) (m : Mem) (K : List Item) : Option Res := den prog ann 63 (.code l2 :: .inLoop l2 :: .inBlock 2 :: K) ⟨[(0, x0), (1, x1), (2, x2), (7, x7), (8, x8), (9, x9), (10, x10)], 72, m⟩
def r7 := findReg b 7
def i2 := findCond b 2
def i2t := thenOf i2
def i2e := elseOf i2
def k3 := findBlk b 3
def r8 := findReg b 8
def r9 := findReg b 9
def i3 := findCond b 3
def i3t := thenOf i3
def i3e := elseOf i3
def r10 := findReg b 10
def r4 := findReg b 4
def r11 := findReg b 11
theorem b_eq : den prog ann 63 (.code b :: K) s = den prog ann 63 (.code r0 :: .code r1 :: .code r2 :: .code k0 :: .code r11 :: .code .ret :: K) s := den_flat hf (l := [r0, r1, r2, k0, r11, .ret]) (by kernel_rfl) K s
theorem r0_eq : den prog ann 63 (.code r0 :: K) s = mreg prog ann 63 none [] none [] [qF 6 fun s => some (.nils)] K s := (den_reg hf _ K s).trans (by kernel_rfl)
theorem r1_eq : den prog ann 63 (.code r1 :: K) s = mreg prog ann 63 none [] none [] [qF 11 fun s => bslF 0 (bslA 1 0 [.str []] []),qC 12 0,qB 13 (appV 1 16) 11 12,qC 7 13] K s := (den_reg hf _ K s).trans (by kernel_rfl)
theorem r2_eq : den prog ann 63 (.code r2 :: K) s = mreg prog ann 63 none [] none [] [qF 8 fun s => some (.int .i64 0)] K s := (den_reg hf _ K s).trans (by kernel_rfl)
theorem k0_eq (K : List Item) (t : List (Nat × AV)) (m : Mem) : den prog ann 63 (.code k0 :: K) ⟨t, 72, m⟩ = L0 (get t 0) (get t 1) (get t 2) (get t 7) (get t 8) m K := den_loop_enter hf (b := l0) (id := 3) (l := [0, 1, 2, 7, 8]) (by kernel_rfl) (by kernel_rfl) (by kernel_rfl) K _
theorem l0_eq (K : List Item) (t : List (Nat × AV)) (m : Mem) : den prog ann 63 (.inLoop l0 :: .inBlock 0 :: K) ⟨t, 72, m⟩ = L0 (get t 0) (get t 1) (get t 2) (get t 7) (get t 8) m K := den_loop_again hf (id := 3) (l := [0, 1, 2, 7, 8]) (by kernel_rfl) (by kernel_rfl) (.inBlock 0 :: K) _
theorem L0_eq (x0 x1 x2 x7 x8 : AV) (m : Mem) (K : List Item) : L0 x0 x1 x2 x7 x8 m K = den prog ann 63 (.code r3 :: .code i0 :: .code k1 :: .code r4 :: .inLoop l0 :: .inBlock 0 :: K) ⟨[(0, x0), (1, x1), (2, x2), (7, x7), (8, x8)], 72, m⟩ := den_flat hf (l := [r3, i0, k1, r4]) (by kernel_rfl) _ _
theorem r3_eq : den prog ann 63 (.code r3 :: K) s = mreg prog ann 63 (some [0, 1, 2, 7, 8]) [] none [] [qC 14 8,qC 15 0,qA 16 lenSl 15,qB 17 (binA prog .lss 3) 14 16] K s := (den_reg hf _ K s).trans (by kernel_rfl)
theorem i0_eq : den prog ann 63 (.code i0 :: K) s = ifV prog ann 63 17 i0t i0e K s (s.get 17) := den_if hf (by kernel_rfl) K s
theorem i0t_eq : den prog ann 63 (.code i0t :: K) s = den prog ann 63 (K) s := den_flat hf (l := []) (by kernel_rfl) K s
theorem i0e_eq : den prog ann 63 (.code i0e :: K) s = den prog ann 63 (.code (.exit 0) :: K) s := den_flat hf (l := [(.exit 0)]) (by kernel_rfl) K s
theorem k1_eq : den prog ann 63 (.code k1 :: K) s = den prog ann 63 (.code r5 :: .code i1 :: .code r6 :: .code k2 :: .code r9 :: .code i3 :: .inBlock 1 :: K) s := den_blk hf (b := blkOf k1) (l := [r5, i1, r6, k2, r9, i3]) (by kernel_rfl) (by kernel_rfl) K s
theorem r5_eq : den prog ann 63 (.code r5 :: K) s = mreg prog ann 63 none [] none [] [qC 20 0,qC 21 8,qB 22 (idxSl 1) 20 21,qA 23 (loadF false 1) 22,qA 24 lenStr 23,qC 25 2,qB 26 (binA prog .eql 3) 24 25] K s := (den_reg hf _ K s).trans (by kernel_rfl)
theorem i1_eq : den prog ann 63 (.code i1 :: K) s = ifV prog ann 63 26 i1t i1e K s (s.get 26) := den_if hf (by kernel_rfl) K s
theorem i1t_eq : den prog ann 63 (.code i1t :: K) s = den prog ann 63 (.code (.exit 1) :: K) s := den_flat hf (l := [(.exit 1)]) (by kernel_rfl) K s
theorem i1e_eq : den prog ann 63 (.code i1e :: K) s = den prog ann 63 (K) s := den_flat hf (l := []) (by kernel_rfl) K s
theorem r6_eq : den prog ann 63 (.code r6 :: K) s = mreg prog ann 63 none [] none [] [qC 27 0,qC 28 8,qB 29 (idxSl 1) 27 28,qA 30 (loadF false 1) 29,qC 31 1,qB 32 (binA prog .add 9) 30 31,qC 9 32,qF 10 fun s => some (.int .i64 0)] K s := (den_reg hf _ K s).trans (by kernel_rfl)
theorem k2_eq (K : List Item) (t : List (Nat × AV)) (m : Mem) : den prog ann 63 (.code k2 :: K) ⟨t, 72, m⟩ = L2 (get t 0) (get t 1) (get t 2) (get t 7) (get t 8) (get t 9) (get t 10) m K := den_loop_enter hf (b := l2) (id := 7) (l := [0, 1, 2, 7, 8, 9, 10]) (by kernel_rfl) (by kernel_rfl) (by kernel_rfl) K _
theorem l2_eq (K : List Item) (t : List (Nat × AV)) (m : Mem) : den prog ann 63 (.inLoop l2 :: .inBlock 2 :: K) ⟨t, 72, m⟩ = L2 (get t 0) (get t 1) (get t 2) (get t 7) (get t 8) (get t 9) (get t 10) m K := den_loop_again hf (id := 7) (l := [0, 1, 2, 7, 8, 9, 10]) (by kernel_rfl) (by kernel_rfl) (.inBlock 2 :: K) _
theorem L2_eq (x0 x1 x2 x7 x8 x9 x10 : AV) (m : Mem) (K : List Item) : L2 x0 x1 x2 x7 x8 x9 x10 m K = den prog ann 63 (.code r7 :: .code i2 :: .code k3 :: .inLoop l2 :: .inBlock 2 :: K) ⟨[(0, x0), (1, x1), (2, x2), (7, x7), (8, x8), (9, x9), (10, x10)], 72, m⟩ := den_flat hf (l := [r7, i2, k3]) (by kernel_rfl) _ _
theorem r7_eq : den prog ann 63 (.code r7 :: K) s = mreg prog ann 63 (some [0, 1, 2, 7, 8, 9, 10]) [] none [] [qC 33 10,qC 34 7,qA 35 lenSl 34,qB 36 (binA prog .lss 3) 33 35,qC 37 36,⟨some 38, some (37, true), .v fun s => some (s.get 7)⟩,⟨some 39, some (37, true), .v fun s => some (s.get 10)⟩,⟨some 40, some (37, true), .v fun s => idxSl 1 (s.get 38) (s.get 39)⟩,⟨some 41, some (37, true), .v fun s => loadA false 1 s.m (s.get 40)⟩,⟨some 42, some (37, true), .v fun s => some (s.get 9)⟩,⟨some 43, some (37, true), .c 0 (fun s => (.fn 39 [] [])) fun s => [(s.get 41), (s.get 42)]⟩,qF 44 fun s => pickA (s.get 37) (s.get 43) (.bool false)] K s := (den_reg hf _ K s).trans (by kernel_rfl)
theorem i2_eq : den prog ann 63 (.code i2 :: K) s = ifV prog ann 63 44 i2t i2e K s (s.get 44) := den_if hf (by kernel_rfl) K s
theorem i2t_eq : den prog ann 63 (.code i2t :: K) s = den prog ann 63 (K) s := den_flat hf (l := []) (by kernel_rfl) K s
theorem i2e_eq : den prog ann 63 (.code i2e :: K) s = den prog ann 63 (.code (.exit 2) :: K) s := den_flat hf (l := [(.exit 2)]) (by kernel_rfl) K s
theorem k3_eq : den prog ann 63 (.code k3 :: K) s = den prog ann 63 (.code r8 :: .inBlock 3 :: K) s := den_blk hf (b := blkOf k3) (l := [r8]) (by kernel_rfl) (by kernel_rfl) K s
theorem r8_eq : den prog ann 63 (.code r8 :: K) s = mreg prog ann 63 none [] none [] [qC 45 10,qF 46 fun s => binA prog .add 3 (s.get 45) (.int .i64 1),qC 10 46] K s := (den_reg hf _ K s).trans (by kernel_rfl)
theorem r9_eq : den prog ann 63 (.code r9 :: K) s = mreg prog ann 63 (some [0, 1, 2, 7, 8, 9, 10]) [] none [] [qC 47 10,qC 48 7,qA 49 lenSl 48,qB 50 (binA prog .eql 3) 47 49,qC 51 50,⟨some 52, some (51, false), .v fun s => some (s.get 7)⟩,⟨some 53, some (51, false), .v fun s => some (s.get 10)⟩,⟨some 54, some (51, false), .v fun s => idxSl 1 (s.get 52) (s.get 53)⟩,⟨some 55, some (51, false), .v fun s => loadA false 1 s.m (s.get 54)⟩,⟨some 56, some (51, false), .v fun s => some (s.get 9)⟩,⟨some 57, some (51, false), .v fun s => binA prog .neq 9 (s.get 55) (s.get 56)⟩,qF 58 fun s => pickA (s.get 51) (.bool true) (s.get 57)] K s := (den_reg hf _ K s).trans (by kernel_rfl)
theorem i3_eq : den prog ann 63 (.code i3 :: K) s = ifV prog ann 63 58 i3t i3e K s (s.get 58) := den_if hf (by kernel_rfl) K s
theorem i3t_eq : den prog ann 63 (.code i3t :: K) s = den prog ann 63 (.code r10 :: K) s := den_flat hf (l := [r10]) (by kernel_rfl) K s
theorem r10_draw : drawOk (fun g => (ann g).pure) (modeOf (ann 63) (idOf r10)) (frzOf (ann 63) (idOf r10)) (opsOf r10) = true := drawOk_of (an := [0, 0, 0, 6, 15, 0, 32, 127, 0, 0, 768, 2047, 4095]) (by kernel_rfl) (by kernel_rfl)
theorem r10_eq : den prog ann 63 (.code r10 :: K) s = mreg prog ann 63 none [] (some 13) [7] [⟨some 59, none, .w false (some 0) fun s => bslM s.m 0 (bslA 1 0 [.str []] [])⟩,qC 60 7,qC 61 10,qF 62 fun s => sliceSl 1 (s.get 60) none (some (s.get 61)),⟨some 63, none, .w false (some 4) fun s => appendA 1 16 s.m (s.get 59) (s.get 62)⟩,qC 64 9,qF 65 fun s => bslF 1 (bslA 1 1 [.str []] [(0, (s.get 64))]),⟨some 66, none, .w false (some 7) fun s => appendA 1 16 s.m (s.get 63) (s.get 65)⟩,qC 67 7,qC 68 10,qF 69 fun s => sliceSl 1 (s.get 67) (some (s.get 68)) none,⟨some 70, none, .w false (some 11) fun s => appendA 1 16 s.m (s.get 66) (s.get 69)⟩,qC 7 70] K s := (den_regD hf r10_draw K s).trans (by kernel_rfl)
theorem i3e_eq : den prog ann 63 (.code i3e :: K) s = den prog ann 63 (K) s := den_flat hf (l := []) (by kernel_rfl) K s
theorem r4_eq : den prog ann 63 (.code r4 :: K) s = mreg prog ann 63 (some [0, 1, 2, 7, 8]) [] none [] [qC 18 8,qF 19 fun s => binA prog .add 3 (s.get 18) (.int .i64 1),qC 8 19] K s := (den_reg hf _ K s).trans (by kernel_rfl)
theorem r11_eq : den prog ann 63 (.code r11 :: K) s = mreg prog ann 63 (some [7]) [] none [] [qC 71 7,qC 6 71] K s := (den_reg hf _ K s).trans (by kernel_rfl)
theorem ret_eq : den prog ann 63 (.code .ret :: K) s = finM true [fun s => some (s.get 6)] s := (den_ret hf K s).trans (by kernel_rfl)
theorem nil_eq (s : St) : den prog ann 63 [] s = finM true [fun s => some (s.get 6)] s := (den_nil hf s).trans (by kernel_rfl)
theorem inBlock_eq (id : Nat) (K : List Item) (s : St) : den prog ann 63 (.inBlock id :: K) s = den prog ann 63 K s := den_inBlock hf id K s
theorem exit_eq (id : Nat) (K : List Item) (s : St) : den prog ann 63 (.code (.exit id) :: K) s = exitV prog ann 63 (exitTo id K) s := den_exitV hf id K s
theorem call_eq (v0 v1 v2 : AV) (m : Mem) (h : closedL [v0, v1, v2] = true) : denC prog ann 63 [v0, v1, v2] m = (den prog ann 63 [.code b] ⟨[(0, v0), (1, v1), (2, v2)], 72, Mem.empty⟩).bind fun r => some (r.1, m) := (denC_pure hf (b := b) (by kernel_rfl) (by kernel_rfl) (by kernel_rfl) h m).trans (by kernel_rfl)
theorem pure_eq : (ann 63).pure = true := by kernel_rfl
attribute [simp] b_eq r0_eq r1_eq r2_eq k0_eq l0_eq r3_eq i0_eq i0t_eq i0e_eq k1_eq r5_eq i1_eq i1t_eq i1e_eq r6_eq k2_eq l2_eq r7_eq i2_eq i2t_eq i2e_eq k3_eq r8_eq r9_eq i3_eq i3t_eq r10_eq i3e_eq r4_eq r11_eq ret_eq nil_eq inBlock_eq exit_eq pure_eq
end
end r07_more
namespace r07_joined
noncomputable section
variable (K : List Item) (s : St)
def b : Code := (Try.f65.body).getD .skip
theorem hf : prog.funcs[65]? = some Try.f65 := by kernel_rfl
def r0 := findReg b 0
def r1 := findReg b 1
def r2 := findReg b 2
def k0 := findBlk b 0
def l0 := loopOf k0
def L0 (x0 x3 x4 : AV) (m : Mem) (K : List Item) : Option Res := den prog ann 65 (.code l0 :: .inLoop l0 :: .inBlock 0 :: K) ⟨[(0, x0), (3, x3), (4, x4)], 19, m⟩
def r3 := findReg b 3
def i0 := findCond b 0
def i0t := thenOf i0
def i0e := elseOf i0
def k1 := findBlk b 1
def r5 := findReg b 5
def r4 := findReg b 4
def r6 := findReg b 6
theorem b_eq : den prog ann 65 (.code b :: K) s = den prog ann 65 (.code r0 :: .code r1 :: .code r2 :: .code k0 :: .code r6 :: .code .ret :: K) s := den_flat hf (l := [r0, r1, r2, k0, r6, .ret]) (by kernel_rfl) K s
theorem r0_eq : den prog ann 65 (.code r0 :: K) s = mreg prog ann 65 none [] none [] [qF 2 fun s => some (.str [])] K s := (den_reg hf _ K s).trans (by kernel_rfl)
theorem r1_eq : den prog ann 65 (.code r1 :: K) s = mreg prog ann 65 none [] none [] [qF 3 fun s => some (.str [])] K s := (den_reg hf _ K s).trans (by kernel_rfl)
theorem r2_eq : den prog ann 65 (.code r2 :: K) s = mreg prog ann 65 none [] none [] [qF 4 fun s => some (.int .i64 0)] K s := (den_reg hf _ K s).trans (by kernel_rfl)
theorem k0_eq (K : List Item) (t : List (Nat × AV)) (m : Mem) : den prog ann 65 (.code k0 :: K) ⟨t, 19, m⟩ = L0 (get t 0) (get t 3) (get t 4) m K := den_loop_enter hf (b := l0) (id := 3) (l := [0, 3, 4]) (by kernel_rfl) (by kernel_rfl) (by kernel_rfl) K _
theorem l0_eq (K : List Item) (t : List (Nat × AV)) (m : Mem) : den prog ann 65 (.inLoop l0 :: .inBlock 0 :: K) ⟨t, 19, m⟩ = L0 (get t 0) (get t 3) (get t 4) m K := den_loop_again hf (id := 3) (l := [0, 3, 4]) (by kernel_rfl) (by kernel_rfl) (.inBlock 0 :: K) _
theorem L0_eq (x0 x3 x4 : AV) (m : Mem) (K : List Item) : L0 x0 x3 x4 m K = den prog ann 65 (.code r3 :: .code i0 :: .code k1 :: .code r4 :: .inLoop l0 :: .inBlock 0 :: K) ⟨[(0, x0), (3, x3), (4, x4)], 19, m⟩ := den_flat hf (l := [r3, i0, k1, r4]) (by kernel_rfl) _ _
theorem r3_eq : den prog ann 65 (.code r3 :: K) s = mreg prog ann 65 (some [0, 3, 4]) [] none [] [qC 5 4,qC 6 0,qA 7 lenSl 6,qB 8 (binA prog .lss 3) 5 7] K s := (den_reg hf _ K s).trans (by kernel_rfl)
theorem i0_eq : den prog ann 65 (.code i0 :: K) s = ifV prog ann 65 8 i0t i0e K s (s.get 8) := den_if hf (by kernel_rfl) K s
theorem i0t_eq : den prog ann 65 (.code i0t :: K) s = den prog ann 65 (K) s := den_flat hf (l := []) (by kernel_rfl) K s
theorem i0e_eq : den prog ann 65 (.code i0e :: K) s = den prog ann 65 (.code (.exit 0) :: K) s := den_flat hf (l := [(.exit 0)]) (by kernel_rfl) K s
theorem k1_eq : den prog ann 65 (.code k1 :: K) s = den prog ann 65 (.code r5 :: .inBlock 1 :: K) s := den_blk hf (b := blkOf k1) (l := [r5]) (by kernel_rfl) (by kernel_rfl) K s
theorem r5_eq : den prog ann 65 (.code r5 :: K) s = mreg prog ann 65 none [] none [] [qC 11 3,qC 12 0,qC 13 4,qB 14 (idxSl 1) 12 13,qA 15 (loadF false 1) 14,qF 16 fun s => binA prog .add 9 (s.get 15) (.str [47]),qB 17 (binA prog .add 9) 11 16,qC 3 17] K s := (den_reg hf _ K s).trans (by kernel_rfl)
theorem r4_eq : den prog ann 65 (.code r4 :: K) s = mreg prog ann 65 (some [0, 3, 4]) [] none [] [qC 9 4,qF 10 fun s => binA prog .add 3 (s.get 9) (.int .i64 1),qC 4 10] K s := (den_reg hf _ K s).trans (by kernel_rfl)
theorem r6_eq : den prog ann 65 (.code r6 :: K) s = mreg prog ann 65 (some [3]) [] none [] [qC 18 3,qC 2 18] K s := (den_reg hf _ K s).trans (by kernel_rfl)
theorem ret_eq : den prog ann 65 (.code .ret :: K) s = finM true [fun s => some (s.get 2)] s := (den_ret hf K s).trans (by kernel_rfl)
theorem nil_eq (s : St) : den prog ann 65 [] s = finM true [fun s => some (s.get 2)] s := (den_nil hf s).trans (by kernel_rfl)
theorem inBlock_eq (id : Nat) (K : List Item) (s : St) : den prog ann 65 (.inBlock id :: K) s = den prog ann 65 K s := den_inBlock hf id K s
theorem exit_eq (id : Nat) (K : List Item) (s : St) : den prog ann 65 (.code (.exit id) :: K) s = exitV prog ann 65 (exitTo id K) s := den_exitV hf id K s
theorem call_eq (v0 : AV) (m : Mem) (h : closedL [v0] = true) : denC prog ann 65 [v0] m = (den prog ann 65 [.code b] ⟨[(0, v0)], 19, Mem.empty⟩).bind fun r => some (r.1, m) := (denC_pure hf (b := b) (by kernel_rfl) (by kernel_rfl) (by kernel_rfl) h m).trans (by kernel_rfl)
theorem pure_eq : (ann 65).pure = true := by kernel_rfl
attribute [simp] b_eq r0_eq r1_eq r2_eq k0_eq l0_eq r3_eq i0_eq i0t_eq i0e_eq k1_eq r5_eq r4_eq r6_eq ret_eq nil_eq inBlock_eq exit_eq pure_eq
end
end r07_joined
end Go.Proofs.Ythnpflkpjimkfaa

/-
  PARTS OF WORDS, AS LISTS: the small functions. Conditions: none.
-/
namespace Go.Proofs.Ythnpflkpjimkfaa
open Go.AM
open Go.Proofs.Try (prog)
set_option linter.all false
set_option maxRecDepth 100000
set_option maxHeartbeats 8000000
abbrev WL := List (List UInt8)
def sF (ex : Bool) (l : WL) : AV := .fsl ex l.length (l.map .str)
theorem sF_is (ex : Bool) (l : WL) : IsS (sF ex l) l := .inr ⟨ex, rfl⟩
def nameL (l : WL) : List UInt8 := l.flatMap fun p => 32 :: p
def joinL (l : WL) : List UInt8 := l.flatMap fun p => p ++ [47]
theorem nameL_take {l : WL} {i : Nat} (hi : i < l.length) : nameL (l.take (i + 1)) = nameL (l.take i) ++ 32 :: l[i] := by
  rw [List.take_add_one, List.getElem?_eq_getElem hi, nameL, List.flatMap_append]
  simp [nameL]
theorem joinL_take {l : WL} {i : Nat} (hi : i < l.length) : joinL (l.take (i + 1)) = joinL (l.take i) ++ (l[i] ++ [47]) := by
  rw [List.take_add_one, List.getElem?_eq_getElem hi, joinL, List.flatMap_append]
  simp [joinL]
theorem flat_le {f : List UInt8 → List UInt8} {d : Nat} : ∀ {l : WL}, (∀ w ∈ l, (f w).length ≤ d) → (l.flatMap f).length ≤ l.length * d
  | [], _ => by simp
  | a :: l, h => by
    have := flat_le (l := l) fun w hw => h w (by simp [hw])
    have := h a (by simp)
    simp only [List.flatMap_cons, List.length_append, List.length_cons, Nat.succ_mul]
    omega
theorem name_loop {ex : Bool} {l : WL} (hl : l.length ≤ 1000) (hw : ∀ w ∈ l, w.length ≤ 10) : ∀ (c i : Nat) (m : Mem), i + c = l.length →
    brand_Short_1.L0 (.str (nameL (l.take i))) (sF ex l) (.int .i64 l.length) (.int .i64 i) m [.code brand_Short_1.r7, .code .ret] = some (.str (nameL l), Mem.empty) := by
  intro c
  induction c with
  | zero =>
    intro i m h1
    have e : i = l.length := by omega
    subst e
    rw [List.take_length, brand_Short_1.L0_eq]
    simp
    done
  | succ c ih =>
    intro i m h1
    have hi : i < l.length := by omega
    have hwi : IntKind.wrap .i64 ((i : Int) + 1) = (i : Int) + 1 := wrap_id (by omega) (by omega)
    have hd := str_head hi
    have hx := List.getElem_mem hi
    have h2 := hw _ hx
    have h3 : (nameL (l.take i)).length ≤ i * 11 := by
      have := flat_le (f := fun p => 32 :: p) (d := 11) (l := l.take i) fun w h => by
        have := hw w (List.mem_of_mem_take h)
        simp; omega
      have e : (l.take i).length = i := by rw [List.length_take]; omega
      rw [e] at this
      exact this
    have st := fun m => ih (i + 1) m (by omega)
    rw [nameL_take hi] at st
    simp only [Int.natCast_add, Int.cast_ofNat_Int] at st
    generalize l[i] = p at *
    generalize nameL (l.take i) = q at *
    have b1 : 1 + p.length ≤ 4611686018427387904 := by omega
    have b2 : q.length + (1 + p.length) ≤ 4611686018427387904 := by omega
    have b3 : q.length + (p.length + 1) ≤ 4611686018427387904 := by omega
    rw [brand_Short_1.L0_eq]
    simp [hi, (sF_is ex l).idx hi, hd, hwi, st, b1, b2, b3, show p.length + 1 ≤ 4611686018427387904 by omega, -List.head?_drop, -List.map_drop]
    done
theorem name_spec {ex : Bool} {l : WL} (hl : l.length ≤ 1000) (hw : ∀ w ∈ l, w.length ≤ 10) (m : Mem) : denC prog ann 57 [sF ex l] m = some (.str (nameL l), m) := by
  have lp := fun m => name_loop (ex := ex) hl hw l.length 0 m (by omega)
  have e0 : nameL (l.take 0) = [] := by simp [nameL]
  rw [e0] at lp
  simp only [Int.ofNat_zero, Int.cast_ofNat_Int] at lp
  rw [brand_Short_1.call_eq _ _ (by simp [(sF_is ex l).closed])]
  simp [(sF_is ex l).len, lp]
  done
theorem join_loop {ex : Bool} {l : WL} (hl : l.length ≤ 1000) (hw : ∀ w ∈ l, w.length ≤ 10) : ∀ (c i : Nat) (m : Mem), i + c = l.length →
    r07_joined.L0 (sF ex l) (.str (joinL (l.take i))) (.int .i64 i) m [.code r07_joined.r6, .code .ret] = some (.str (joinL l), Mem.empty) := by
  intro c
  induction c with
  | zero =>
    intro i m h1
    have e : i = l.length := by omega
    subst e
    rw [List.take_length, r07_joined.L0_eq]
    simp [(sF_is ex l).len]
    done
  | succ c ih =>
    intro i m h1
    have hi : i < l.length := by omega
    have hwi : IntKind.wrap .i64 ((i : Int) + 1) = (i : Int) + 1 := wrap_id (by omega) (by omega)
    have hd := str_head hi
    have hx := List.getElem_mem hi
    have h2 := hw _ hx
    have h3 : (joinL (l.take i)).length ≤ i * 11 := by
      have := flat_le (f := fun p => p ++ [47]) (d := 11) (l := l.take i) fun w h => by
        have := hw w (List.mem_of_mem_take h)
        simp; omega
      have e : (l.take i).length = i := by rw [List.length_take]; omega
      rw [e] at this
      exact this
    have st := fun m => ih (i + 1) m (by omega)
    rw [joinL_take hi] at st
    simp only [Int.natCast_add, Int.cast_ofNat_Int] at st
    generalize l[i] = p at *
    generalize joinL (l.take i) = q at *
    have b2 : q.length + (p.length + 1) ≤ 4611686018427387904 := by omega
    rw [r07_joined.L0_eq]
    simp [(sF_is ex l).len, hi, (sF_is ex l).idx hi, hd, hwi, st, b2, show p.length + 1 ≤ 4611686018427387904 by omega, -List.head?_drop, -List.map_drop]
    done
theorem join_spec {ex : Bool} {l : WL} (hl : l.length ≤ 1000) (hw : ∀ w ∈ l, w.length ≤ 10) (m : Mem) : denC prog ann 65 [sF ex l] m = some (.str (joinL l), m) := by
  have lp := fun m => join_loop (ex := ex) hl hw l.length 0 m (by omega)
  have e0 : joinL (l.take 0) = [] := by simp [joinL]
  rw [e0] at lp
  simp only [Int.ofNat_zero, Int.cast_ofNat_Int] at lp
  rw [r07_joined.call_eq _ _ (by simp [(sF_is ex l).closed])]
  simp [lp]
  done
theorem long_spec {ex : Bool} {u w : List UInt8} (m : Mem) : denC prog ann 60 [.fsl ex 2 [.str u, .str w]] m = some (.int .i64 ((max u.length w.length : Nat) : Int), m) := by
  rw [brand_Short_2.call_eq _ _ (by simp)]
  simp [foldA, max2A]
  rcases Nat.le_total u.length w.length with h | h
  · simp [Nat.max_eq_right h]; try omega
  · simp [Nat.max_eq_left h]; try omega
theorem p86 : (ann 86).pure = false := by kernel_rfl
theorem cmp86 (x y : List UInt8) (m : Mem) : denC prog ann 86 [.str x, .str y] m = some (.int .i64 (cmpL x y), m) := by
  rw [denC_sort (fn := Try.f86) (by kernel_rfl) (b := (Try.f86.body).getD .skip) (by kernel_rfl) (by kernel_rfl)]
  rfl
theorem cmp_less : ∀ x y : List UInt8, decide (cmpL x y < 0) = Op.bytesLess x y
  | [], [] => rfl
  | [], _ :: _ => rfl
  | _ :: _, [] => rfl
  | a :: x, b :: y => by
    rw [cmpL, Op.bytesLess, ← cmp_less x y]
    by_cases h : a < b
    · simp [h]
    · by_cases h2 : b < a
      · have : a ≠ b := by rintro rfl; exact absurd h2 h
        simp [h, h2, this]
      · have : a = b := UInt8.le_antisymm (UInt8.not_lt.1 h2) (UInt8.not_lt.1 h)
        simp [this]
theorem compare_spec (x y : List UInt8) (hx : x.length ≤ 1000000) (hy : y.length ≤ 1000000) (m : Mem) : ∃ n : Int, denC prog ann 61 [.str x, .str y] m = some (.int .i64 n, m) ∧ decide (n < 0) = lessW x y := by
  by_cases q : x.length = y.length
  · refine ⟨cmpL x y, ?_, by rw [cmp_less, lessW, q]; simp⟩
    rw [brand_compare.call_eq _ _ _ (by simp)]
    simp [q, cmp86, p86]
    done
  · refine ⟨(x.length : Int) - y.length, ?_, by
      rw [lessW]
      simp [q]
      try omega⟩
    have q' : ¬ ((x.length : Nat) : Int) = (y.length : Nat) := by omega
    have hw : IntKind.wrap .i64 ((x.length : Int) - y.length) = (x.length : Int) - y.length := wrap_id (by omega) (by omega)
    rw [brand_compare.call_eq _ _ _ (by simp)]
    simp [q', hw]
    done
def idxS (l : WL) (x : List UInt8) : Int := if x ∈ l then ((l.idxOf x : Nat) : Int) else -1
theorem indexS_loop {ex : Bool} {l : WL} {x : List UInt8} (hl : l.length ≤ 1000) : ∀ (c j : Nat) (m : Mem), j + c = l.length → (∀ i, i < j → l[i]? ≠ some x) →
    slices_Index_string.L0 (sF ex l) (.str x) (.int .i64 l.length) (.int .i64 j) m [.code slices_Index_string.r7, .code .ret] = some (.int .i64 (idxS l x), Mem.empty) := by
  intro c
  induction c with
  | zero =>
    intro j m h1 h0
    have e : j = l.length := by omega
    subst e
    have : x ∉ l := by
      intro hs
      obtain ⟨i, hi⟩ := List.getElem?_of_mem hs
      exact h0 i (List.getElem?_eq_some_iff.1 hi).1 hi
    rw [idxS, if_neg this, slices_Index_string.L0_eq]
    simp
    done
  | succ c ih =>
    intro j m h1 h0
    have hj : j < l.length := by omega
    have hwj : IntKind.wrap .i64 ((j : Int) + 1) = (j : Int) + 1 := wrap_id (by omega) (by omega)
    have hx := List.getElem?_eq_getElem hj
    have hd := str_head hj
    generalize l[j] = y at hx hd
    by_cases q : y = x
    · subst q
      have hm := List.mem_of_getElem? hx
      have hi : l.idxOf y = j := by
        have h2 : l.idxOf y < l.length := List.idxOf_lt_length_iff.2 hm
        have h3 : l[l.idxOf y]? = some y := by rw [List.getElem?_eq_getElem h2]; simp
        rcases Nat.lt_trichotomy (l.idxOf y) j with c | c | c
        · exact absurd h3 (h0 _ c)
        · exact c
        · exfalso
          have e := (List.getElem?_eq_some_iff.1 hx).2
          have := List.not_of_lt_findIdx (xs := l) (p := (· == y)) (i := j) (by simpa [List.idxOf] using c)
          simp [e] at this
      rw [idxS, if_pos hm, hi, slices_Index_string.L0_eq]
      simp [hj, (sF_is ex l).idx hj, hd, -List.head?_drop, -List.map_drop]
      done
    · have st := fun m => ih (j + 1) m (by omega) (fun i hi => by
        by_cases e : i = j
        · subst e; rw [hx]; intro e; exact q (Option.some.inj e)
        · exact h0 i (by omega))
      simp only [Int.natCast_add, Int.cast_ofNat_Int] at st
      have q' : decide (x = y) = false := decide_eq_false fun e => q e.symm
      rw [slices_Index_string.L0_eq]
      simp only [decide_eq_false_iff_not] at q'
      simp [hj, (sF_is ex l).idx hj, hd, q', hwj, st, -List.head?_drop, -List.map_drop]
      done
theorem indexS_spec {ex : Bool} {l : WL} {x : List UInt8} (hl : l.length ≤ 1000) (m : Mem) : denC prog ann 91 [sF ex l, .str x] m = some (.int .i64 (idxS l x), m) := by
  have lp := fun m => indexS_loop (ex := ex) (x := x) hl l.length 0 m (by omega) (by omega)
  simp only [Int.ofNat_zero, Int.cast_ofNat_Int] at lp
  rw [slices_Index_string.call_eq _ _ _ (by simp [(sF_is ex l).closed])]
  simp [(sF_is ex l).len, lp]
  done
theorem containsS_spec {ex : Bool} {l : WL} {x : List UInt8} (hl : l.length ≤ 1000) (m : Mem) : denC prog ann 84 [sF ex l, .str x] m = some (.bool (decide (x ∈ l)), m) := by
  have h := fun m => indexS_spec (ex := ex) (x := x) hl m
  have e : decide (0 ≤ idxS l x) = decide (x ∈ l) := by
    unfold idxS
    by_cases q : x ∈ l <;> simp [q]
  rw [slices_Contains_string.call_eq _ _ _ (by simp [(sF_is ex l).closed])]
  simp [h, (sF_is ex l).closed, (sF_is ex l).one, ← e]
  done
end Go.Proofs.Ythnpflkpjimkfaa

/-
  PARTS OF WORDS: the program's and the specification's lists. Conditions: none.
-/
namespace Go.Proofs.Ythnpflkpjimkfaa
open Go.AM
open Go.Proofs.Try (prog)
set_option linter.all false
set_option maxRecDepth 100000
set_option maxHeartbeats 8000000
theorem u57 : prog.underlying 57 = some (.slice 9) := by kernel_rfl
@[simp] theorem nil57 (ex : Bool) (n : Nat) (cs : List AV) : binA prog .eql 57 (.fsl ex n cs) .nils = some (.bool false) := by simp [binA, eqT, eqA, u57]
@[simp] theorem nil57s (id es off n top : Nat) : binA prog .eql 57 (.sl id es off n top) .nils = some (.bool false) := by simp [binA, eqT, eqA, u57]
@[simp] theorem nil57n : binA prog .eql 57 .nils .nils = some (.bool true) := by simp [binA, eqT, eqA, u57]
theorem mapO_strs (h : Nat → Option AObj) (d : Nat) (l : WL) : mapO (AM.deep h (d + 1)) (l.map .str) = some (l.map .str) := mapO_same _ (fun x hx => by
  simp only [List.mem_map] at hx
  obtain ⟨b, _, rfl⟩ := hx
  rfl)
theorem p83 : (ann 83).pure = false := by kernel_rfl
theorem p85 : (ann 85).pure = false := by kernel_rfl
theorem strsO_map : ∀ l : WL, strsO (l.map .str) = some l
  | [] => rfl
  | a :: l => by simp [strsO, strsO_map l]
theorem clone_spec {ex : Bool} {l : WL} (hl : l.length ≤ 1000) (h0 : 0 < l.length) (m : Mem) : denC prog ann 83 [sF ex l] m = some (.sl m.nx 1 0 l.length l.length, ⟨upd m.h m.nx (some (.cells (l.map .str))), m.nx + 1⟩) := by
  have hn : (l.length == 0) = false := by simp; intro e; simp [e] at h0
  rw [slices_Clone_string.call_eq]
  simp [sF, hn, show l.length ≤ 4611686018427387904 by omega, show l.length * 16 ≤ 70368744177664 by omega]
  done
theorem sort85 {R n : Nat} {l : WL} {m : Mem} (h : m.h R = some (.cells (l.map .str))) (hn : l.length = n) (h0 : 0 < n) (h1 : n ≤ 1000000) :
    denC prog ann 85 [.sl R 1 0 n n] m = some (.tup [], ⟨upd m.h R (some (.cells ((sortS l).map .str))), m.nx⟩) := by
  rw [denC_sort (fn := Try.f85) (by kernel_rfl) (b := (Try.f85.body).getD .skip) (by kernel_rfl) (by kernel_rfl)]
  show libA (ann 85) _ _ = _
  have e1 : (ann 85).cmp = false := by kernel_rfl
  have e2 : (ann 85).sts = true := by kernel_rfl
  have hb : (Nat.blt 0 n && Nat.ble n 1000000) = true := by simp [Nat.blt_eq, h0, h1]
  simp only [libA, e1, e2, cond_false, cond_true, sortT, sortX, beq_self_eq_true, sortG, h, List.length_map, hn, hb, Bool.and_self, strsO_map, Option.bind_some]
  rfl
def addP (K : Nat) (l : WL) (x : List UInt8) : WL := sortS (l ++ (l.filter fun p => decide (p.length < K) && !decide (p ++ x ∈ l)).map (· ++ x))
def outP (K : Nat) (l : WL) (x : List UInt8) (i : Nat) : WL := l ++ ((l.take i).filter fun p => decide (p.length < K) && !decide (p ++ x ∈ l)).map (· ++ x)
theorem outP_len (K : Nat) (l : WL) (x : List UInt8) (i : Nat) : (outP K l x i).length ≤ l.length + i := by
  have := List.length_filter_le (fun p => decide (p.length < K) && !decide (p ++ x ∈ l)) (l.take i)
  rw [List.length_take] at this
  simp [outP]; omega
theorem outP_succ {K : Nat} {l : WL} {x : List UInt8} {i : Nat} (hi : i < l.length) : outP K l x (i + 1) = if (decide (l[i].length < K) && !decide (l[i] ++ x ∈ l)) = true then outP K l x i ++ [l[i] ++ x] else outP K l x i := by
  unfold outP
  rw [List.take_add_one, List.getElem?_eq_getElem hi]
  split
  · rename_i h
    simp only [Option.toList_some, List.filter_append, List.map_append]
    rw [List.filter_cons, if_pos h]
    simp
  · rename_i h
    simp only [Option.toList_some, List.filter_append, List.map_append]
    rw [List.filter_cons, if_neg h]
    simp
theorem parts_loop {ex : Bool} {l : WL} {x : List UInt8} {K : Nat} (hl : l.length ≤ 1000) (h0 : 0 < l.length) (hw : ∀ w ∈ l, w.length ≤ 10) (hx : x.length ≤ 10) : ∀ (c i R : Nat) (m : Mem), i + c = l.length → m.h R = some (.cells ((outP K l x i).map .str)) → R < m.nx →
    brand_parts.L0 (sF ex l) (.str x) (.int .i64 (K : Nat)) (.sl R 1 0 (outP K l x i).length (outP K l x i).length) (sF ex l) (.int .i64 l.length) (.int .i64 i) m [.code brand_parts.r8, .code brand_parts.r9, .code .ret] = some (sF false (addP K l x), Mem.empty) := by
  intro c
  induction c with
  | zero =>
    intro i R m h1 h2 h3
    have e : i = l.length := by omega
    subst e
    have e : outP K l x l.length = l ++ (l.filter fun p => decide (p.length < K) && !decide (p ++ x ∈ l)).map (· ++ x) := by rw [outP, List.take_length]
    have hlen := outP_len K l x l.length
    have hpos : 0 < (outP K l x l.length).length := by simp [outP]; omega
    have hs := sort85 (m := m) h2 rfl hpos (by omega)
    have hL := sortS_len (outP K l x l.length)
    rw [brand_parts.L0_eq]
    rw [addP, ← e]
    generalize outP K l x l.length = o at *
    have tk : ((sortS o).map AV.str).take o.length = (sortS o).map AV.str := List.take_of_length_le (by simp [hL])
    have hm := fun h d => mapO_strs h d (sortS o)
    simp [hs, p85, sF, hL, tk, hm, -List.map_take]
    done
  | succ c ih =>
    intro i R m h1 h2 h3
    have hi : i < l.length := by omega
    have hwi : IntKind.wrap .i64 ((i : Int) + 1) = (i : Int) + 1 := wrap_id (by omega) (by omega)
    have hd := str_head hi
    have hxx := List.getElem_mem hi
    have hlen := outP_len K l x i
    have hp := hw _ hxx
    have hc := fun y m => containsS_spec (ex := ex) (l := l) (x := y) hl m
    have os := outP_succ (K := K) (x := x) hi
    have st := ih (i + 1)
    rw [os] at st
    generalize l[i] = p at *
    have b1 : p.length + x.length ≤ 4611686018427387904 := by omega
    generalize outP K l x i = o at *
    rw [brand_parts.L0_eq]
    by_cases q : p.length < K
    · by_cases q2 : p ++ x ∈ l
      · have st := fun m => st R m (by omega)
        simp only [q, q2, decide_true, Bool.not_true, Bool.and_false, Bool.false_eq_true, if_false] at st
        simp only [Int.natCast_add, Int.cast_ofNat_Int] at st
        simp [hi, (sF_is ex l).idx hi, (sF_is ex l).one, (sF_is ex l).closed, hd, q, hc, q2, b1, hwi, st, h2, h3, -List.head?_drop, -List.map_drop]
        done
      · have st := st R (m.set R (some (.cells ((o ++ [p ++ x]).map .str)))) (by omega)
        simp only [q, q2, decide_true, decide_false, Bool.not_false, Bool.and_true, if_true] at st
        simp only [Int.natCast_add, Int.cast_ofNat_Int] at st
        simp [Mem.set, h3] at st
        simp [hi, (sF_is ex l).idx hi, (sF_is ex l).one, (sF_is ex l).closed, hd, q, hc, q2, b1, hwi, h2, show o.length ≤ 4611686018427387903 by omega, show (o.length + 1) * 16 ≤ 70368744177664 by omega, st, -List.head?_drop, -List.map_drop]
        done
    · have st := fun m => st R m (by omega)
      simp only [q, decide_false, Bool.false_and, Bool.false_eq_true, if_false] at st
      simp only [Int.natCast_add, Int.cast_ofNat_Int] at st
      simp [hi, (sF_is ex l).idx hi, (sF_is ex l).one, (sF_is ex l).closed, hd, q, hwi, st, h2, h3, -List.head?_drop, -List.map_drop]
      done
theorem parts_spec {ex : Bool} {l : WL} {x : List UInt8} {K : Nat} (hl : l.length ≤ 1000) (h0 : 0 < l.length) (hw : ∀ w ∈ l, w.length ≤ 10) (hx : x.length ≤ 10) (m : Mem) :
    denC prog ann 58 [sF ex l, .str x, .int .i64 (K : Nat)] m = some (sF false (addP K l x), m) := by
  have e0 : outP K l x 0 = l := by simp [outP]
  have lp := parts_loop (ex := ex) (x := x) (K := K) hl h0 hw hx l.length 0 0
  rw [e0] at lp
  have cl := fun m => clone_spec (ex := ex) (l := l) hl h0 m
  simp only [Int.ofNat_zero, Int.cast_ofNat_Int] at lp
  rw [brand_parts.call_eq _ _ _ _ (by simp [(sF_is ex l).closed])]
  simp [(sF_is ex l).len, cl, p83, lp]
  done
def insR (n : List UInt8) : WL → WL
  | [] => [n]
  | y :: r => if lessW y n = true then y :: insR n r else if y = n then y :: r else n :: y :: r
def atR (n : List UInt8) : WL → Nat
  | [] => 0
  | y :: r => if lessW y n = true then atR n r + 1 else 0
theorem atR_le (n : List UInt8) : ∀ l : WL, atR n l ≤ l.length
  | [] => Nat.le_refl _
  | y :: r => by have := atR_le n r; rw [atR]; split <;> simp <;> omega
theorem atR_lt (n : List UInt8) : ∀ (l : WL) (i : Nat), i < atR n l → ∃ y, l[i]? = some y ∧ lessW y n = true
  | [], i, h => by simp [atR] at h
  | y :: r, i, h => by
    rw [atR] at h
    split at h
    · rename_i g
      cases i with
      | zero => exact ⟨y, rfl, g⟩
      | succ i => obtain ⟨z, h1, h2⟩ := atR_lt n r i (by omega); exact ⟨z, by simpa using h1, h2⟩
    · omega
theorem atR_at (n : List UInt8) : ∀ (l : WL) (y : List UInt8), l[atR n l]? = some y → lessW y n = false
  | [], y, h => by simp at h
  | z :: r, y, h => by
    rw [atR] at h
    split at h
    · exact atR_at n r y (by simpa using h)
    · rename_i g
      simp at h; subst h
      simpa using g
theorem insR_at (n : List UInt8) : ∀ l : WL, insR n l = if l[atR n l]? = some n then l else l.take (atR n l) ++ n :: l.drop (atR n l)
  | [] => by simp [insR, atR]
  | y :: r => by
    rw [insR, atR]
    by_cases g : lessW y n = true
    · rw [if_pos g, if_pos g, insR_at n r]
      simp only [List.getElem?_cons_succ, List.take_succ_cons, List.drop_succ_cons]
      split <;> rfl
    · rw [if_neg g, if_neg g]
      by_cases e : y = n
      · simp [e]
      · simp [e]
def addR1 (K : Nat) (x : List UInt8) (o : WL) (p : List UInt8) : WL := if p.length = K then o else insR (p ++ x) o
def addR (K : Nat) (l : WL) (x : List UInt8) : WL := l.foldl (addR1 K x) l
theorem insR_len (n : List UInt8) (l : WL) : (insR n l).length ≤ l.length + 1 := by
  rw [insR_at]
  have := atR_le n l
  split
  · omega
  · simp [List.length_take]; omega
theorem addR_len (K : Nat) (x : List UInt8) : ∀ (l o : WL), (l.foldl (addR1 K x) o).length ≤ o.length + l.length
  | [], o => by simp
  | p :: l, o => by
    rw [List.foldl_cons]
    have := addR_len K x l (addR1 K x o p)
    have h : (addR1 K x o p).length ≤ o.length + 1 := by
      unfold addR1
      split
      · omega
      · exact insR_len _ _
    simp; omega
theorem insR_mem (n : List UInt8) (l : WL) (w : List UInt8) : w ∈ insR n l ↔ w = n ∨ w ∈ l := by
  induction l with
  | nil => simp [insR]
  | cons y r ih =>
    rw [insR]
    split
    · simp only [List.mem_cons, ih]
      constructor
      · rintro (h | h | h) <;> simp [h]
      · rintro (h | h | h) <;> simp [h]
    · split
      · rename_i e
        subst e
        simp
      · simp
theorem cutHi {ey : Bool} {o : WL} {j : Nat} (h : j ≤ o.length) : ∃ ez, sliceSl 1 (sF ey o) none (some (.int .i64 j)) = some (.fsl ez j ((o.take j).map .str)) := by
  refine ⟨ey && j == o.length, ?_⟩
  simp [sliceSl, sF, bnds, bnd, h]
theorem cutLo {ey : Bool} {o : WL} {j : Nat} (h : j ≤ o.length) : ∃ ez, sliceSl 1 (sF ey o) (some (.int .i64 j)) none = some (.fsl ez (o.length - j) ((o.drop j).map .str)) := by
  refine ⟨ey, ?_⟩
  have e : (o.drop j).map AV.str = ((o.map AV.str).drop j).take (o.length - j) := by
    rw [List.take_of_length_le (by simp), List.map_drop]
  rw [e]
  simp [sliceSl, sF, bnds, bnd, h, -List.map_drop]
theorem closed_strs : ∀ l : WL, closedL (l.map AV.str) = true
  | [] => rfl
  | a :: l => by rw [List.map_cons, closedL, closed_strs l]; rfl
noncomputable def KPm : List Item := [.code r07_more.r11, .code .ret]
noncomputable def KPn : List Item := .code r07_more.r9 :: .code r07_more.i3 :: .inBlock 1 :: .code r07_more.r4 :: .inLoop r07_more.l0 :: .inBlock 0 :: KPm
def eF (ey : Bool) (n : List UInt8) (o : WL) : Bool := if o[atR n o]? = some n then ey else false
theorem more_in {ex ey : Bool} {l o : WL} {x n : List UInt8} {K i : Nat} {r : Res} (hi : i < 1000) (ho : o.length ≤ 2000) (hw : ∀ w ∈ o, w.length ≤ 30) (hn : n.length ≤ 30)
    (hk : ∀ m, r07_more.L0 (sF ex l) (.str x) (.int .i64 (K : Nat)) (sF (eF ey n o) (insR n o)) (.int .i64 ((i : Int) + 1)) m KPm = some r) : ∀ (c j : Nat) (m : Mem), j + c = atR n o →
    r07_more.L2 (sF ex l) (.str x) (.int .i64 (K : Nat)) (sF ey o) (.int .i64 i) (.str n) (.int .i64 j) m KPn = some r := by
  intro c
  have hle := atR_le n o
  have hwi : IntKind.wrap .i64 ((i : Int) + 1) = (i : Int) + 1 := wrap_id (by omega) (by omega)
  induction c with
  | zero =>
    intro j m h1
    have e : j = atR n o := by omega
    have hat := atR_at n o
    have hin := insR_at n o
    have hf : eF ey n o = if o[atR n o]? = some n then ey else false := rfl
    rw [← e] at hat hin hle hf
    have s1 : o.length ≤ 4611686018427387904 := by omega
    have s2 : o.length * 16 ≤ 70368744177664 := by omega
    have s3 : o.length + 1 ≤ 4611686018427387904 := by omega
    have s4 : (o.length + 1) * 16 ≤ 70368744177664 := by omega
    have s5 : o.length ≤ 4611686018427387903 := by omega
    have s6 : 1 + o.length = o.length + 1 := by omega
    have t1 : j ≤ 4611686018427387904 := by omega
    have t2 : j * 16 ≤ 70368744177664 := by omega
    have t3 : j + 1 ≤ 4611686018427387904 := by omega
    have t4 : (j + 1) * 16 ≤ 70368744177664 := by omega
    have t5 : j ≤ 4611686018427387903 := by omega
    have t6 : j + 1 + (o.length - j) = o.length + 1 := by omega
    have t7 : j + (o.length - j + 1) = o.length + 1 := by omega
    rw [r07_more.L2_eq]
    by_cases q : j < o.length
    · have hd := str_head q
      have hy := hat _ (List.getElem?_eq_getElem q)
      have hyw := hw _ (List.getElem_mem q)
      have hls := fun m => less_spec o[j] n (by omega) (by omega) m
      rw [hy] at hls
      rw [List.getElem?_eq_getElem q] at hin hf
      generalize o[j] = y at *
      have q1 : ¬ ((j : Nat) : Int) = (o.length : Nat) := by omega
      by_cases q2 : y = n
      · subst q2
        rw [if_pos rfl] at hin hf
        rw [hin, hf] at hk
        simp [KPn, q, q1, (sF_is ey o).len, (sF_is ey o).idx q, hd, hls, hwi, hk, -List.head?_drop, -List.map_drop]
        done
      · rw [if_neg (by simpa using q2)] at hin hf
        rw [hin, hf] at hk
        obtain ⟨e1, c1⟩ := cutHi (ey := ey) hle
        obtain ⟨e2, c2⟩ := cutLo (ey := ey) hle
        have ta : ((o.take j).map AV.str).length = j := by rw [List.length_map, List.length_take]; omega
        have tb : ((o.drop j).map AV.str).length = o.length - j := by rw [List.length_map, List.length_drop]
        have hs : sF false (o.take j ++ n :: o.drop j) = .fsl false (o.length + 1) ((o.take j).map .str ++ .str n :: (o.drop j).map .str) := by
          unfold sF
          rw [List.map_append, List.map_cons, List.length_append, List.length_cons, List.length_take, List.length_drop]
          congr 1; omega
        rw [hs] at hk
        have b0 : (o.length - j == 0) = false := by rw [beq_eq_false_iff_ne]; omega
        have ca : closedL ((o.take j).map AV.str) = true := closed_strs _
        have cb : closedL ((o.drop j).map AV.str) = true := closed_strs _
        generalize (o.take j).map AV.str = A at *
        generalize (o.drop j).map AV.str = B at *
        have tt : (A ++ AV.str n :: B).take (o.length + 1) = A ++ AV.str n :: B := List.take_of_length_le (by simp [ta, tb]; omega)
        have ix := (sF_is ey o).idx q .i64
        by_cases q3 : j = 0
        · subst q3
          have hA : A = [] := List.length_eq_zero_iff.1 ta
          subst hA
          simp only [Int.ofNat_zero, Int.cast_ofNat_Int, List.drop_zero] at c1 c2 ix hd q1
          simp only [Nat.sub_zero] at c2 tb b0
          simp only [List.nil_append] at tt hk
          simp [KPn, cb, tt, q, q1, q2, c1, c2, (sF_is ey o).len, ix, hd, hls, hwi, hk, tb, b0, s1, s2, s3, s4, s5, s6, -List.head?_drop, -List.map_drop, -List.head?_map]
          done
        · have b1 : (j == 0) = false := by rw [beq_eq_false_iff_ne]; exact q3
          simp [KPn, q, q1, q2, c1, c2, (sF_is ey o).len, ix, hd, hls, hwi, hk, ta, tb, b0, b1, ca, cb, tt, s1, s2, s3, s4, s5, s6, t1, t2, t3, t4, t5, t6, t7, -List.take_left', -List.head?_drop, -List.map_drop]
          done
    · have q1 : j = o.length := by omega
      subst q1
      rw [if_neg (by simp)] at hin hf
      rw [hin, hf] at hk
      obtain ⟨e1, c1⟩ := cutHi (ey := ey) hle
      obtain ⟨e2, c2⟩ := cutLo (ey := ey) hle
      have ta : ((o.take o.length).map AV.str).length = o.length := by simp
      have hs : sF false (o.take o.length ++ n :: o.drop o.length) = .fsl false (o.length + 1) ((o.take o.length).map .str ++ [.str n]) := by
        unfold sF
        simp
      rw [hs] at hk
      have tb : (o.drop o.length).map AV.str = [] := by simp
      rw [tb, Nat.sub_self] at c2
      have ca : closedL ((o.take o.length).map AV.str) = true := closed_strs _
      generalize (o.take o.length).map AV.str = A at *
      have tt : (A ++ [AV.str n]).take (o.length + 1) = A ++ [AV.str n] := List.take_of_length_le (by simp [ta])
      by_cases q3 : o.length = 0
      · have hA : A = [] := List.length_eq_zero_iff.1 (by omega)
        subst hA
        simp only [q3, List.nil_append, Nat.zero_add, Int.ofNat_zero, Int.cast_ofNat_Int] at c1 c2 hk
        simp [KPn, q3, c1, c2, (sF_is ey o).len, hwi, hk, -List.head?_drop, -List.map_drop]
        done
      · have b1 : (o.length == 0) = false := by rw [beq_eq_false_iff_ne]; exact q3
        simp [KPn, c1, c2, (sF_is ey o).len, hwi, hk, ta, b1, ca, tt, s1, s2, s3, s4, s5, s6, -List.head?_drop, -List.map_drop]
        done
  | succ c ih =>
    intro j m h1
    obtain ⟨y, y1, y2⟩ := atR_lt n o j (by omega)
    have hj := (List.getElem?_eq_some_iff.1 y1).1
    have hyw := hw y (List.mem_of_getElem? y1)
    have hwj : IntKind.wrap .i64 ((j : Int) + 1) = (j : Int) + 1 := wrap_id (by omega) (by omega)
    have hd := str_head hj
    rw [(List.getElem?_eq_some_iff.1 y1).2] at hd
    have hls := fun m => less_spec y n (by omega) (by omega) m
    rw [y2] at hls
    have st := fun m => ih (j + 1) m (by omega)
    simp only [Int.natCast_add, Int.cast_ofNat_Int] at st
    rw [r07_more.L2_eq]
    simp [hj, (sF_is ey o).len, (sF_is ey o).idx hj, hd, hls, hwj, st, -List.head?_drop, -List.map_drop]
    done
theorem addR_take {K : Nat} {l : WL} {x : List UInt8} {o : WL} {i : Nat} (hi : i < l.length) : (l.take (i + 1)).foldl (addR1 K x) o = addR1 K x ((l.take i).foldl (addR1 K x) o) l[i] := by
  rw [List.take_add_one, List.getElem?_eq_getElem hi, List.foldl_append]
  rfl
theorem addR_mem (K : Nat) (x : List UInt8) (w : List UInt8) : ∀ (l o : WL), w ∈ l.foldl (addR1 K x) o ↔ w ∈ o ∨ ∃ p ∈ l, p.length ≠ K ∧ w = p ++ x
  | [], o => by simp
  | p :: l, o => by
    rw [List.foldl_cons, addR_mem K x w l]
    unfold addR1
    by_cases h : p.length = K
    · rw [if_pos h]
      constructor
      · rintro (g | ⟨q, g1, g2⟩)
        · exact .inl g
        · exact .inr ⟨q, by simp [g1], g2⟩
      · rintro (g | ⟨q, g1, g2, g3⟩)
        · exact .inl g
        · rcases List.mem_cons.1 g1 with rfl | g1
          · exact absurd h g2
          · exact .inr ⟨q, g1, g2, g3⟩
    · rw [if_neg h, insR_mem]
      constructor
      · rintro ((g | g) | ⟨q, g1, g2⟩)
        · exact .inr ⟨p, by simp, h, g⟩
        · exact .inl g
        · exact .inr ⟨q, by simp [g1], g2⟩
      · rintro (g | ⟨q, g1, g2, g3⟩)
        · exact .inl (.inr g)
        · rcases List.mem_cons.1 g1 with rfl | g1
          · exact .inl (.inl g3)
          · exact .inr ⟨q, g1, g2, g3⟩
theorem more_loop {ex : Bool} {l : WL} {x : List UInt8} {K : Nat} (hl : l.length ≤ 900) (hw : ∀ w ∈ l, w.length ≤ 10) (hx : x.length ≤ 10) : ∀ (c i : Nat) (ez : Bool), i + c = l.length →
    ∃ ez', ∀ m, r07_more.L0 (sF ex l) (.str x) (.int .i64 (K : Nat)) (sF ez ((l.take i).foldl (addR1 K x) l)) (.int .i64 i) m KPm = some (sF ez' (addR K l x), Mem.empty) := by
  intro c
  induction c with
  | zero =>
    intro i ez h1
    have e : i = l.length := by omega
    subst e
    rw [List.take_length]
    refine ⟨ez, fun m => ?_⟩
    show _ = some (sF ez (l.foldl (addR1 K x) l), Mem.empty)
    rw [r07_more.L0_eq]
    generalize l.foldl (addR1 K x) l = o
    simp [KPm, (sF_is ex l).len, (sF_is ez o).closed]
    simp [sF]
    done
  | succ c ih =>
    intro i ez h1
    have hi : i < l.length := by omega
    have hwi : IntKind.wrap .i64 ((i : Int) + 1) = (i : Int) + 1 := wrap_id (by omega) (by omega)
    have hd := str_head hi
    have hxx := List.getElem_mem hi
    have hp := hw _ hxx
    have hlen := addR_len K x (l.take i) l
    have htl : (l.take i).length = i := by rw [List.length_take]; omega
    have how : ∀ w ∈ (l.take i).foldl (addR1 K x) l, w.length ≤ 30 := fun w h => by
      rcases (addR_mem K x w _ _).1 h with h | ⟨p, h1, _, rfl⟩
      · have := hw w h; omega
      · have := hw p (List.mem_of_mem_take h1)
        simp; omega
    have st := ih (i + 1)
    rw [addR_take hi] at st
    generalize (l.take i).foldl (addR1 K x) l = o at *
    generalize l[i] = p at *
    have b1 : p.length + x.length ≤ 4611686018427387904 := by omega
    by_cases q : p.length = K
    · obtain ⟨ez', st⟩ := st ez (by omega)
      rw [addR1, if_pos q] at st
      simp only [Int.natCast_add, Int.cast_ofNat_Int] at st
      refine ⟨ez', fun m => ?_⟩
      rw [r07_more.L0_eq]
      simp [(sF_is ex l).len, (sF_is ex l).idx hi, hi, hd, q, hwi, st, -List.head?_drop, -List.map_drop]
      done
    · obtain ⟨ez', st⟩ := st (eF ez (p ++ x) o) (by omega)
      rw [addR1, if_neg q] at st
      simp only [Int.natCast_add, Int.cast_ofNat_Int] at st
      have q' : ¬ ((p.length : Nat) : Int) = (K : Nat) := by omega
      refine ⟨ez', fun m => ?_⟩
      have si := fun m => more_in (ex := ex) (ey := ez) (by omega) (by omega) how (by simp; omega) st (atR (p ++ x) o) 0 m (by omega)
      simp only [Int.ofNat_zero, Int.cast_ofNat_Int, KPn] at si
      rw [r07_more.L0_eq]
      simp [(sF_is ex l).len, (sF_is ex l).idx hi, hi, hd, q', b1, hwi, si, -List.head?_drop, -List.map_drop]
      done
theorem more_spec {ex : Bool} {l : WL} {x : List UInt8} {K : Nat} (hl : l.length ≤ 900) (h0 : 0 < l.length) (hw : ∀ w ∈ l, w.length ≤ 10) (hx : x.length ≤ 10) :
    ∃ ez, ∀ m, denC prog ann 63 [sF ex l, .str x, .int .i64 (K : Nat)] m = some (sF ez (addR K l x), m) := by
  obtain ⟨ez', lp⟩ := more_loop (ex := ex) (x := x) (K := K) hl hw hx l.length 0 false (by omega)
  refine ⟨ez', fun m => ?_⟩
  have lp := fun m => lp m
  simp only [Int.ofNat_zero, Int.cast_ofNat_Int, KPm, List.take_zero, List.foldl_nil] at lp
  have b0 : (l.length == 0) = false := by rw [beq_eq_false_iff_ne]; omega
  have ap : appV 1 16 (.fsl true 0 []) (sF ex l) = some (sF false l) := by
    simp [appV, appF, sF, closed_strs, b0, show l.length ≤ 4611686018427387904 by omega, show l.length * 16 ≤ 70368744177664 by omega]
    try exact List.take_of_length_le (by simp)
  rw [r07_more.call_eq _ _ _ _ (by simp [(sF_is ex l).closed])]
  simp [ap, lp]
  done
end Go.Proofs.Ythnpflkpjimkfaa

/-
  CLASSES: the specification's, as numbers. Conditions: none.
-/
namespace Go.Proofs.Ythnpflkpjimkfaa
open Go.AM
open Go.Proofs.Try (prog)
set_option linter.all false
set_option maxRecDepth 100000
set_option maxHeartbeats 8000000
def natL (c : List Nat) : List AV := c.map natV
@[simp] theorem natL_len (c : List Nat) : (natL c).length = c.length := by simp [natL]
end Go.Proofs.Ythnpflkpjimkfaa

/-
  CLASSES BY THEIR WORDS: the specification's. Conditions: none.
-/
namespace Go.Proofs.Ythnpflkpjimkfaa
open Go.AM
open Go.Proofs.Try (prog)
set_option linter.all false
set_option maxRecDepth 100000
set_option maxHeartbeats 8000000
@[simp] theorem clV_len (S : SM) (c : List Nat) : (clV S c).length = c.length := by simp [clV]
end Go.Proofs.Ythnpflkpjimkfaa

/-
  POWERS THAT COME AGAIN: plain law. Conditions: none.
-/
namespace Go.Proofs.Ythnpflkpjimkfaa
set_option linter.all false
set_option maxRecDepth 100000
structure IsPer (f : Nat → Nat) (N p : Nat) : Prop where
  ps : 1 ≤ p
  eq : f (N + p) = f N
  mn : ∀ q, 1 ≤ q → q < p → f (N + q) ≠ f N
theorem IsPer.uniq {f : Nat → Nat} {N p q : Nat} (h : IsPer f N p) (g : IsPer f N q) : p = q := by
  rcases Nat.lt_trichotomy p q with c | c | c
  · exact absurd h.eq (g.mn p h.ps c)
  · exact c
  · exact absurd g.eq (h.mn q g.ps c)
section
variable {f : Nat → Nat} (H : ∀ a b, f a = f b → f (a + 1) = f (b + 1))
include H
end
end Go.Proofs.Ythnpflkpjimkfaa

/-
  BODIES OF FUNCTIONS OF THE PROGRAM AS SMALL OPERATIONS (written by gen.py; checked by the kernel against the program). Conditions: none.
-/
namespace Go.Proofs.Ythnpflkpjimkfaa
open Go.AM
open Go.Proofs.Try (prog)
set_option maxRecDepth 100000
set_option linter.all false
end Go.Proofs.Ythnpflkpjimkfaa

/-
  GROUPS: what the program returns. Conditions: none.
-/
namespace Go.Proofs.Ythnpflkpjimkfaa
open Go.AM
open Go.Proofs.Try (prog)
set_option linter.all false
set_option maxRecDepth 100000
set_option maxHeartbeats 8000000
def pw (rows : List (List Int)) (S : SM) (i : Nat) : Nat → Nat
  | 0 => i
  | t + 1 => pr rows S (pw rows S i t) i
end Go.Proofs.Ythnpflkpjimkfaa

/-
  PERIODS: the specification's; SIMPLE: what the program returns. Conditions: none.
-/
namespace Go.Proofs.Ythnpflkpjimkfaa
open Go.AM
open Go.Proofs.Try (prog)
set_option linter.all false
set_option maxRecDepth 100000
set_option maxHeartbeats 8000000
end Go.Proofs.Ythnpflkpjimkfaa

/-
  POWERS: idempotent ones; how long the first word with a period is: plain law. Conditions: none.
-/
namespace Go.Proofs.Ythnpflkpjimkfaa
open Go.AM
open Go.Proofs.Try (prog)
set_option linter.all false
set_option maxRecDepth 100000
set_option maxHeartbeats 8000000
section
variable {rows : List (List Int)} {good : List Bool} {k : Nat} {S : SM}
def gi (rows : List (List Int)) (u : List UInt8) : Nat → Nat → Nat
  | 0, s => s
  | t + 1, s => goL rows u (gi rows u t s)
structure Cyc (rows : List (List Int)) (u : List UInt8) (s j : Nat) : Prop where
  lt : s < rows.length
  ne : goL rows u s ≠ s
  ps : 1 ≤ j
  bk : gi rows u j s = s
end
def arr : Nat → List Nat → List (List Nat)
  | 0, _ => [[]]
  | p + 1, av => av.flatMap fun x => (arr p (av.erase x)).map (x :: ·)
end Go.Proofs.Ythnpflkpjimkfaa

/-
  GREEN: left and right classes of a finite monoid: plain law. Conditions: none.
-/
namespace Go.Proofs.Ythnpflkpjimkfaa
open Go.AM
open Go.Proofs.Try (prog)
set_option linter.all false
set_option maxRecDepth 100000
set_option maxHeartbeats 8000000
structure FM (m : Nat → Nat → Nat) (N : Nat) : Prop where
  cl : ∀ a b, a < N → b < N → m a b < N
  asc : ∀ a b c, a < N → b < N → c < N → m (m a b) c = m a (m b c)
  ps : 0 < N
  un : ∀ a, a < N → m 0 a = a ∧ m a 0 = a
section
variable {m : Nat → Nat → Nat} {N : Nat}
def bR (m : Nat → Nat → Nat) (N x y : Nat) : Prop := ∃ u, u < N ∧ m x u = y
def bL (m : Nat → Nat → Nat) (N x y : Nat) : Prop := ∃ u, u < N ∧ m u x = y
def bJ (m : Nat → Nat → Nat) (N x y : Nat) : Prop := ∃ u, u < N ∧ ∃ v, v < N ∧ m (m u x) v = y
def eR (m : Nat → Nat → Nat) (N x y : Nat) : Prop := bR m N x y ∧ bR m N y x
def eL (m : Nat → Nat → Nat) (N x y : Nat) : Prop := bL m N x y ∧ bL m N y x
def eJ (m : Nat → Nat → Nat) (N x y : Nat) : Prop := bJ m N x y ∧ bJ m N y x
theorem bR.tr (F : FM m N) {x y z : Nat} (hx : x < N) (h : bR m N x y) (g : bR m N y z) : bR m N x z := by
  obtain ⟨u, hu, rfl⟩ := h
  obtain ⟨v, hv, rfl⟩ := g
  exact ⟨m u v, F.cl _ _ hu hv, (F.asc _ _ _ hx hu hv).symm⟩
theorem bL.tr (F : FM m N) {x y z : Nat} (hx : x < N) (h : bL m N x y) (g : bL m N y z) : bL m N x z := by
  obtain ⟨u, hu, rfl⟩ := h
  obtain ⟨v, hv, rfl⟩ := g
  exact ⟨m v u, F.cl _ _ hv hu, F.asc _ _ _ hv hu hx⟩
theorem bJ.tr (F : FM m N) {x y z : Nat} (hx : x < N) (h : bJ m N x y) (g : bJ m N y z) : bJ m N x z := by
  obtain ⟨u, hu, v, hv, rfl⟩ := h
  obtain ⟨u', hu', v', hv', rfl⟩ := g
  have h1 := F.cl _ _ hu hx
  refine ⟨m u' u, F.cl _ _ hu' hu, m v v', F.cl _ _ hv hv', ?_⟩
  rw [← F.asc u' (m u x) v hu' h1 hv, F.asc (m u' (m u x)) v v' (F.cl _ _ hu' h1) hv hv', F.asc u' u x hu' hu hx]
theorem bR.j (F : FM m N) {x y : Nat} (hx : x < N) (h : bR m N x y) : bJ m N x y := by
  obtain ⟨u, hu, e⟩ := h
  exact ⟨0, F.ps, u, hu, by rw [(F.un x hx).1]; exact e⟩
theorem bL.j (F : FM m N) {x y : Nat} (hx : x < N) (h : bL m N x y) : bJ m N x y := by
  obtain ⟨u, hu, e⟩ := h
  exact ⟨u, hu, 0, F.ps, by rw [e]; exact (F.un y (e ▸ F.cl _ _ hu hx)).2⟩
def mp (m : Nat → Nat → Nat) (x : Nat) : Nat → Nat
  | 0 => x
  | t + 1 => m (mp m x t) x
theorem eR.sy {x y : Nat} (h : eR m N x y) : eR m N y x := ⟨h.2, h.1⟩
theorem eL.sy {x y : Nat} (h : eL m N x y) : eL m N y x := ⟨h.2, h.1⟩
theorem eR.tr (F : FM m N) {x y z : Nat} (hx : x < N) (hz : z < N) (h : eR m N x y) (g : eR m N y z) : eR m N x z := ⟨h.1.tr F hx g.1, g.2.tr F hz h.2⟩
theorem eL.tr (F : FM m N) {x y z : Nat} (hx : x < N) (hz : z < N) (h : eL m N x y) (g : eL m N y z) : eL m N x z := ⟨h.1.tr F hx g.1, g.2.tr F hz h.2⟩
theorem eR.j (F : FM m N) {x y : Nat} (hx : x < N) (hy : y < N) (h : eR m N x y) : eJ m N x y := ⟨h.1.j F hx, h.2.j F hy⟩
theorem eL.j (F : FM m N) {x y : Nat} (hx : x < N) (hy : y < N) (h : eL m N x y) : eJ m N x y := ⟨h.1.j F hx, h.2.j F hy⟩
end
end Go.Proofs.Ythnpflkpjimkfaa

/-
  BODIES OF FUNCTIONS OF THE PROGRAM AS SMALL OPERATIONS (written by gen.py; checked by the kernel against the program). Conditions: none.
-/
namespace Go.Proofs.Ythnpflkpjimkfaa
open Go.AM
open Go.Proofs.Try (prog)
set_option maxRecDepth 100000
set_option linter.all false
end Go.Proofs.Ythnpflkpjimkfaa

/-
  MAPS IN MEMORY AS FUNCTIONS; WHICH CLASS EACH WORD IS IN: what the law's function returns. Conditions: none.
-/
namespace Go.Proofs.Ythnpflkpjimkfaa
open Go.AM
open Go.Proofs.Try (prog)
set_option linter.all false
set_option maxRecDepth 100000
set_option maxHeartbeats 8000000
theorem sc9 (s : List UInt8) : scV prog 9 (.str s) = true := by simp [scV, u9]
theorem keysW (ok : List UInt8 → Prop) : Keys 9 AV.str ok := by
  refine ⟨fun a b _ _ => ?_, fun a _ => sc9 a⟩
  by_cases e : a = b
  · simp [keyEq, sc9, eqSc, e]
  · simp [keyEq, sc9, eqSc, e]
section
variable {t : TypeId} {α β : Type} [DecidableEq α] {enc : α → AV} {ok : α → Prop} {ev : β → AV}
theorem lkP_app {c : α} {v : β} : ∀ {ks : List α} {vs : List β}, ks.length = vs.length → c ∉ ks → ∀ x, lkP (ks ++ [c]) (vs ++ [v]) x = if x = c then some v else lkP ks vs x
  | [], [], _, _, x => by simp [lkP]
  | [], _ :: _, h, _, _ => by simp at h
  | _ :: _, [], h, _, _ => by simp at h
  | k :: ks, w :: vs, h, hm, x => by
    simp only [List.mem_cons, not_or] at hm
    have ih := lkP_app (c := c) (v := v) (ks := ks) (vs := vs) (by simpa using h) hm.2 x
    simp only [List.cons_append, lkP, ih]
    by_cases e : x = k
    · have : ¬ x = c := fun g => hm.1 (by rw [← g, e])
      rw [if_pos e, if_neg this, if_pos e]
    · rw [if_neg e, if_neg e]
theorem setK_gen (hk : Keys t enc ok) (v : β) : ∀ {ks : List α} {vs : List β} {c : α}, (∀ a ∈ ks, ok a) → ok c → ks.length = vs.length →
    ∃ ks' vs', setK prog t (enc c) (ev v) (ks.map enc) (vs.map ev) = some (ks'.map enc, vs'.map ev) ∧ ((c ∈ ks ∧ ks' = ks) ∨ (c ∉ ks ∧ ks' = ks ++ [c])) ∧ ks'.length = vs'.length ∧ ∀ x, lkP ks' vs' x = if x = c then some v else lkP ks vs x
  | [], [], c, _, _, _ => ⟨[c], [v], rfl, .inr ⟨by simp, rfl⟩, rfl, fun x => by simp [lkP]⟩
  | [], _ :: _, _, _, _, h => by simp at h
  | _ :: _, [], _, _, _, h => by simp at h
  | k :: ks, w :: vs, c, h, hc, hl => by
    by_cases e : c = k
    · subst e
      refine ⟨c :: ks, v :: vs, ?_, .inl ⟨by simp, rfl⟩, by simpa using hl, fun x => ?_⟩
      · simp only [List.map_cons, setK, hk.eq c c hc hc, Option.bind_some]
        simp
      · simp only [lkP]
        by_cases g : x = c
        · rw [if_pos g, if_pos g]
        · rw [if_neg g, if_neg g, if_neg g]
    · obtain ⟨ks', vs', h1, h2, h3, h4⟩ := setK_gen hk v (ks := ks) (vs := vs) (c := c) (fun a ha => h a (by simp [ha])) hc (by simpa using hl)
      refine ⟨k :: ks', w :: vs', ?_, ?_, by simp [h3], fun x => ?_⟩
      · simp only [List.map_cons, setK, hk.eq c k hc (h k (by simp)), Option.bind_some]
        simp [e, h1]
      · rcases h2 with ⟨a, b⟩ | ⟨a, b⟩
        · exact .inl ⟨by simp [a], by rw [b]⟩
        · exact .inr ⟨by simp [e, a], by rw [b]; rfl⟩
      · simp only [lkP, h4 x]
        by_cases g : x = k
        · have : ¬ x = c := fun q => e (by rw [← q, g])
          rw [if_pos g, if_neg this, if_pos g]
        · rw [if_neg g, if_neg g]
structure Mf (enc : α → AV) (ok : α → Prop) (ev : β → AV) (h : Nat → Option AObj) (id : Nat) (f : α → Option β) : Prop where
  ex : ∃ g ks vs, h id = some (.map g (ks.map enc) (vs.map ev)) ∧ ks.Nodup ∧ (∀ a ∈ ks, ok a) ∧ ks.length = vs.length ∧ ∀ c, lkP ks vs c = f c
variable {h : Nat → Option AObj} {id : Nat} {f : α → Option β}
theorem Mf.fr {h' : Nat → Option AObj} (M : Mf enc ok ev h id f) (e : h' id = h id) : Mf enc ok ev h' id f := by
  obtain ⟨g, ks, vs, h1, r⟩ := M.ex
  exact ⟨g, ks, vs, by rw [e, h1], r⟩
theorem Mf.new (e : h id = some (.map 0 [] [])) : Mf enc ok ev h id (fun _ => none) := ⟨0, [], [], e, by simp, by simp, rfl, fun _ => rfl⟩
def lkZ (ev : β → AV) (z : AV) (b : Bool) : Option β → AV
  | some v => bif b then .tup [ev v, .bool true] else ev v
  | none => bif b then .tup [z, .bool false] else z
theorem Mf.look (hk : Keys t enc ok) (M : Mf enc ok ev h id f) {c : α} (hc : ok c) (z : AV) (b : Bool) (nx : Nat) : lookP prog ⟨h, nx⟩ t z (.map id) (enc c) b = some (lkZ ev z b (f c)) := by
  obtain ⟨g, ks, vs, h1, h2, h3, h4, h5⟩ := M.ex
  simp only [lookP, hk.key c hc, cond_true, lookA, h1, findK_of hk h3 hc h4, Option.bind_some, h5 c]
  cases f c <;> rfl
def putF (f : α → Option β) (c : α) (v : β) : α → Option β := fun x => if x = c then some v else f x
theorem Mf.put (hk : Keys t enc ok) (M : Mf enc ok ev h id f) {c : α} (hc : ok c) (v : β) : ∃ o, (∀ nx, updM prog ⟨h, nx⟩ t (.map id) (enc c) (ev v) = some (.tup [], ⟨upd h id o, nx⟩)) ∧ ∀ h', h' id = o → Mf enc ok ev h' id (putF f c v) := by
  obtain ⟨g, ks, vs, h1, h2, h3, h4, h5⟩ := M.ex
  obtain ⟨ks', vs', e1, e2, e3, e4⟩ := setK_gen (ev := ev) hk v h3 hc h4
  refine ⟨some (.map (g + 1) (ks'.map enc) (vs'.map ev)), fun nx => ?_, fun h' eh => ⟨g + 1, ks', vs', eh, ?_, ?_, e3, fun x => by rw [e4, h5, putF]⟩⟩
  · simp only [updM, updP, hk.key c hc, cond_true, h1, e1, Option.bind_some, Option.map_some]
    rfl
  · rcases e2 with ⟨a, b⟩ | ⟨a, b⟩
    · rw [b]; exact h2
    · rw [b, List.nodup_append]
      exact ⟨h2, by simp, fun x hx y hy => by
        simp at hy; subst hy
        intro e; subst e; exact a hx⟩
  · rcases e2 with ⟨a, b⟩ | ⟨a, b⟩
    · rw [b]; exact h3
    · rw [b]
      intro x hx
      rcases List.mem_append.1 hx with hx | hx
      · exact h3 x hx
      · simp at hx; rw [hx]; exact hc
theorem findI_gen (hk : Keys t enc ok) : ∀ {ks : List α} {c : α} (j : Nat), (∀ a ∈ ks, ok a) → ok c → findI prog t (enc c) (ks.map enc) j = some (if c ∈ ks then some (j + ks.idxOf c) else none)
  | [], c, j, _, _ => rfl
  | k :: ks, c, j, h, hc => by
    have ih := findI_gen hk (ks := ks) (c := c) (j + 1) (fun a ha => h a (by simp [ha])) hc
    by_cases e : c = k
    · subst e
      simp only [List.map_cons, findI, hk.eq c c hc hc, Option.bind_some]
      simp
    · have e' : ¬ k = c := fun g => e g.symm
      have e2 : (k == c) = false := beq_eq_false_iff_ne.2 e'
      have e3 : keyEq prog t (enc c) (enc k) = some false := by rw [hk.eq c k hc (h k (by simp)), decide_eq_false e]
      simp only [List.map_cons, findI, e3, Option.bind_some, cond_false, ih, List.mem_cons, e, false_or, List.idxOf_cons, e2]
      by_cases g : c ∈ ks
      · rw [if_pos g, if_pos g]; congr 2; omega
      · rw [if_neg g, if_neg g]
theorem lkP_mem {ks : List α} {vs : List β} {c : α} (hl : ks.length = vs.length) (hn : ks.Nodup) (hm : c ∈ ks) : ∃ w, vs[ks.idxOf c]? = some w ∧ lkP ks vs c = some w := by
  have h2 : ks.idxOf c < ks.length := List.idxOf_lt_length_iff.2 hm
  have h3 : ks[ks.idxOf c]? = some c := by rw [List.getElem?_eq_getElem h2]; simp
  have h4 : ks.idxOf c < vs.length := by omega
  exact ⟨vs[ks.idxOf c], List.getElem?_eq_getElem h4, lkP_at hn h3 (List.getElem?_eq_getElem h4)⟩
theorem lkP_set : ∀ {ks : List α} {vs : List β} {c : α} (v : β), ks.length = vs.length → ks.Nodup → c ∈ ks → ∀ x, lkP ks (vs.set (ks.idxOf c) v) x = if x = c then some v else lkP ks vs x
  | [], _, c, v, _, _, h, _ => by simp at h
  | _ :: _, [], _, _, h, _, _, _ => by simp at h
  | k :: ks, w :: vs, c, v, hl, hn, hm, x => by
    rw [List.nodup_cons] at hn
    by_cases e : c = k
    · subst e
      simp only [List.idxOf_cons_self, List.set_cons_zero, lkP]
      by_cases g : x = c
      · rw [if_pos g, if_pos g]
      · rw [if_neg g, if_neg g, if_neg g]
    · have e2 : (k == c) = false := beq_eq_false_iff_ne.2 fun g => e g.symm
      have hm' : c ∈ ks := by simpa [e] using hm
      have ih := lkP_set (vs := vs) v (by simpa using hl) hn.2 hm' x
      simp only [List.idxOf_cons, e2, cond_false, List.set_cons_succ, lkP, ih]
      by_cases g : x = k
      · have : ¬ x = c := fun q => e (by rw [← q, g])
        rw [if_pos g, if_neg this, if_pos g]
      · rw [if_neg g, if_neg g]
theorem Mf.inc (hk : Keys t enc ok) (M : Mf enc ok ev h id f) {c : α} (hc : ok c) (z : β) : ∃ o1 st ov, (∀ nx, AM.entP prog ⟨h, nx⟩ t (ev z) (.map id) (enc c) = some (.tup [ov, st], ⟨upd h id o1, nx⟩)) ∧
    ∀ v, ∃ o2, (∀ h1 nx, h1 id = o1 → entS ⟨h1, nx⟩ (.map id) st (ev v) = some (.tup [], ⟨upd h1 id o2, nx⟩)) ∧ ∀ h', h' id = o2 → Mf enc ok ev h' id (putF f c v) := by
  obtain ⟨g, ks, vs, h1, h2, h3, h4, h5⟩ := M.ex
  by_cases hm : c ∈ ks
  · obtain ⟨w, w1, w2⟩ := lkP_mem h4 h2 hm
    have hi : ks.idxOf c < ks.length := List.idxOf_lt_length_iff.2 hm
    have hset : (ks.map enc).set (ks.idxOf c) (enc c) = ks.map enc := by
      refine List.ext_getElem (by simp) fun i a b => ?_
      rw [List.getElem_set]
      split
      · rename_i e
        subst e
        simp
      · rfl
    refine ⟨some (.map (g + 1) (ks.map enc) (vs.map ev)), .int .i64 (ks.idxOf c : Nat), ev w, fun nx => ?_, fun v => ⟨some (.map (g + 1 + 1) (ks.map enc) ((vs.set (ks.idxOf c) v).map ev)), fun h' nx e => ?_, fun h' e => ⟨g + 1 + 1, ks, vs.set (ks.idxOf c) v, e, h2, h3, by simp [h4], fun x => by rw [lkP_set v h4 h2 hm, h5, putF]⟩⟩⟩
    · simp only [AM.entP, hk.key c hc, cond_true, h1, findI_gen hk 0 h3 hc, if_pos hm, Option.bind_some, Nat.zero_add, List.getElem?_map, w1, Option.map_some, hset]
      rfl
    · have hv : ks.idxOf c < vs.length := by omega
      simp [entS, entryStA, e, inR, hv, Mem.set]
  · refine ⟨some (.map (g + 1) ((ks ++ [c]).map enc) ((vs ++ [z]).map ev)), .int .i64 (ks.length : Nat), ev z, fun nx => ?_, fun v => ⟨some (.map (g + 1 + 1) ((ks ++ [c]).map enc) ((vs ++ [v]).map ev)), fun h' nx e => ?_, fun h' e => ⟨g + 1 + 1, ks ++ [c], vs ++ [v], e, ?_, ?_, by simp [h4], fun x => by rw [lkP_app h4 hm, h5, putF]⟩⟩⟩
    · simp only [AM.entP, hk.key c hc, cond_true, h1, findI_gen hk 0 h3 hc, if_neg hm, Option.bind_some, List.length_map]
      simp [Mem.set]
    · have : (vs ++ [z]).length = ks.length + 1 := by simp [h4]
      have hs : ((vs ++ [z]).map ev).set ks.length (ev v) = (vs ++ [v]).map ev := by
        rw [h4]; simp
      have h7 : ((vs.length : Nat) : Int) < (vs.length : Nat) + 1 := by omega
      simp [entS, entryStA, e, inR, Mem.set, h4, h7]
    · rw [List.nodup_append]
      exact ⟨h2, by simp, fun x hx y hy => by
        simp at hy; subst hy
        intro e; subst e; exact hm hx⟩
    · intro x hx
      rcases List.mem_append.1 hx with hx | hx
      · exact h3 x hx
      · simp at hx; rw [hx]; exact hc
end
end Go.Proofs.Ythnpflkpjimkfaa

/-
  SETS OF PARTS: their two forms, their names, and that they stand for one another. Conditions: none.
-/
namespace Go.Proofs.Ythnpflkpjimkfaa
open Go.AM
open Go.Proofs.Try (prog)
set_option linter.all false
set_option maxRecDepth 100000
set_option maxHeartbeats 8000000
theorem cmpL_eq : ∀ x y : List UInt8, cmpL x y = 0 → x = y
  | [], [], _ => rfl
  | [], _ :: _, h => by simp [cmpL] at h
  | _ :: _, [], h => by simp [cmpL] at h
  | a :: x, b :: y, h => by
    rw [cmpL] at h
    by_cases h1 : a < b
    · simp [h1] at h
    · by_cases h2 : b < a
      · simp [h1, h2] at h
      · rw [if_neg h1, if_neg h2] at h
        rw [cmpL_eq x y h, UInt8.le_antisymm (UInt8.not_lt.1 h2) (UInt8.not_lt.1 h1)]
theorem lessW_tri (x y : List UInt8) : lessW x y = true ∨ x = y ∨ lessW y x = true := by
  unfold lessW
  rw [← cmp_less, ← cmp_less, cmpL_swap x y]
  rcases Nat.lt_trichotomy x.length y.length with h | h | h
  · left; simp [h]
  · rcases Int.lt_trichotomy (cmpL x y) 0 with g | g | g
    · left; simp [h, g]
    · right; left; exact cmpL_eq x y g
    · right; right; simp [h]; omega
  · right; right; simp [h]
theorem lessW_iff (x y : List UInt8) : lessW x y = true ↔ rk x < rk y := by
  refine ⟨lessW_rk, fun h => ?_⟩
  rcases lessW_tri x y with g | g | g
  · exact g
  · subst g; omega
  · have := lessW_rk g; omega
theorem rk_inj {x y : List UInt8} (h : rk x = rk y) : x = y := by
  rcases lessW_tri x y with g | g | g
  · have := lessW_rk g; omega
  · exact g
  · have := lessW_rk g; omega
theorem sortR_uniq : ∀ {a b : WL}, a.Pairwise (fun u w => rk u < rk w) → b.Pairwise (fun u w => rk u < rk w) → (∀ w, w ∈ a ↔ w ∈ b) → a = b
  | [], [], _, _, _ => rfl
  | [], y :: b, _, _, h => by have := (h y).2 (by simp); simp at this
  | x :: a, [], _, _, h => by have := (h x).1 (by simp); simp at this
  | x :: a, y :: b, ha, hb, h => by
    have ha' := List.pairwise_cons.1 ha
    have hb' := List.pairwise_cons.1 hb
    have h1 : x ∈ y :: b := (h x).1 (by simp)
    have h2 : y ∈ x :: a := (h y).2 (by simp)
    have e : x = y := by
      rcases List.mem_cons.1 h1 with e | h1
      · exact e
      · rcases List.mem_cons.1 h2 with e | h2
        · exact e.symm
        · have := hb'.1 x h1; have := ha'.1 y h2; omega
    subst e
    have : a = b := sortR_uniq ha'.2 hb'.2 fun w => by
      constructor
      · intro hw
        rcases List.mem_cons.1 ((h w).1 (by simp [hw])) with e | g
        · subst e; have := ha'.1 w hw; omega
        · exact g
      · intro hw
        rcases List.mem_cons.1 ((h w).2 (by simp [hw])) with e | g
        · subst e; have := hb'.1 w hw; omega
        · exact g
    rw [this]
theorem sortP_uniq {a b : WL} (ha : a.Pairwise (· ≤ ·)) (hb : b.Pairwise (· ≤ ·)) (na : a.Nodup) (nb : b.Nodup) (h : ∀ w, w ∈ a ↔ w ∈ b) : a = b :=
  sortedS_uniq ha hb ((List.perm_ext_iff_of_nodup na nb).2 h)
structure PSet (k K : Nat) (l : WL) : Prop where
  nd : l.Nodup
  ok : ∀ w ∈ l, okW k w ∧ w.length ≤ K
  nil : [] ∈ l
def U3 : WL := [[]] ++ ((List.range 3).map fun a => [UInt8.ofNat (97 + a)]) ++ ((List.range 3).flatMap fun a => (List.range 3).map fun b => [UInt8.ofNat (97 + a), UInt8.ofNat (97 + b)]) ++
  ((List.range 3).flatMap fun a => (List.range 3).flatMap fun b => (List.range 3).map fun c => [UInt8.ofNat (97 + a), UInt8.ofNat (97 + b), UInt8.ofNat (97 + c)])
theorem U3_len : U3.length = 40 := by decide
theorem let3 {k : Nat} (k3 : k ≤ 3) {c : UInt8} (h : 97 ≤ c.toNat ∧ c.toNat - 97 < k) : ∃ a, a < 3 ∧ c = UInt8.ofNat (97 + a) := by
  refine ⟨c.toNat - 97, by omega, ?_⟩
  have : 97 + (c.toNat - 97) = c.toNat := by omega
  rw [this]; simp
theorem U3_mem {k K : Nat} (k3 : k ≤ 3) (K3 : K ≤ 3) {w : List UInt8} (h : okW k w) (hl : w.length ≤ K) : w ∈ U3 := by
  match w, h, hl with
  | [], _, _ => decide
  | [x], h, _ =>
    obtain ⟨a, ha, rfl⟩ := let3 k3 (h x (by simp))
    rcases (by omega : a = 0 ∨ a = 1 ∨ a = 2) with rfl | rfl | rfl <;> decide
  | [x, y], h, _ =>
    obtain ⟨a, ha, rfl⟩ := let3 k3 (h x (by simp))
    obtain ⟨b, hb, rfl⟩ := let3 k3 (h y (by simp))
    rcases (by omega : a = 0 ∨ a = 1 ∨ a = 2) with rfl | rfl | rfl <;> rcases (by omega : b = 0 ∨ b = 1 ∨ b = 2) with rfl | rfl | rfl <;> decide
  | [x, y, z], h, _ =>
    obtain ⟨a, ha, rfl⟩ := let3 k3 (h x (by simp))
    obtain ⟨b, hb, rfl⟩ := let3 k3 (h y (by simp))
    obtain ⟨c, hc, rfl⟩ := let3 k3 (h z (by simp))
    rcases (by omega : a = 0 ∨ a = 1 ∨ a = 2) with rfl | rfl | rfl <;> rcases (by omega : b = 0 ∨ b = 1 ∨ b = 2) with rfl | rfl | rfl <;> rcases (by omega : c = 0 ∨ c = 1 ∨ c = 2) with rfl | rfl | rfl <;> decide
  | _ :: _ :: _ :: _ :: _, _, hl => simp at hl; omega
theorem PSet.le {k K : Nat} (k3 : k ≤ 3) (K3 : K ≤ 3) {l : WL} (h : PSet k K l) : l.length ≤ 40 := by
  have := nodup_sub h.nd (L := U3) fun w hw => U3_mem k3 K3 (h.ok w hw).1 (h.ok w hw).2
  rwa [U3_len] at this
theorem PSet.pos {k K : Nat} {l : WL} (h : PSet k K l) : 0 < l.length := List.length_pos_of_mem h.nil
theorem PSet.wl {k K : Nat} (K3 : K ≤ 3) {l : WL} (h : PSet k K l) : ∀ w ∈ l, w.length ≤ 10 := fun w hw => by have := (h.ok w hw).2; omega
def Adds (K : Nat) (l : WL) (x : List UInt8) (o : WL) : Prop := ∀ w, w ∈ o ↔ w ∈ l ∨ ∃ p ∈ l, p.length < K ∧ w = p ++ x
theorem addP_adds (K : Nat) (l : WL) (x : List UInt8) : Adds K l x (addP K l x) := by
  intro w
  rw [addP, (sortS_perm _).mem_iff, List.mem_append, List.mem_map]
  simp only [List.mem_filter, Bool.and_eq_true, Bool.not_eq_true', decide_eq_true_eq, decide_eq_false_iff_not]
  constructor
  · rintro (h | ⟨p, ⟨h1, h2, h3⟩, rfl⟩)
    · exact .inl h
    · exact .inr ⟨p, h1, h2, rfl⟩
  · rintro (h | ⟨p, h1, h2, rfl⟩)
    · exact .inl h
    · by_cases g : p ++ x ∈ l
      · exact .inl g
      · exact .inr ⟨p, ⟨h1, h2, g⟩, rfl⟩
theorem addR_adds {k K : Nat} {l : WL} (h : PSet k K l) (x : List UInt8) : Adds K l x (addR K l x) := by
  intro w
  rw [addR, addR_mem]
  constructor
  · rintro (g | ⟨p, h1, h2, h3⟩)
    · exact .inl g
    · exact .inr ⟨p, h1, by have := (h.ok p h1).2; omega, h3⟩
  · rintro (g | ⟨p, h1, h2, h3⟩)
    · exact .inl g
    · exact .inr ⟨p, h1, by omega, h3⟩
theorem ltr_ok {k a : Nat} (ha : a < k) (k3 : k ≤ 3) : okW k (ltr a) := by
  have := okW_ext (okW_nil k) ha k3
  simpa [extL] using this
theorem Adds.pset {k K a : Nat} {l o : WL} (h : PSet k K l) (A : Adds K l (ltr a) o) (ha : a < k) (k3 : k ≤ 3) (nd : o.Nodup) : PSet k K o := by
  refine ⟨nd, fun w hw => ?_, (A []).2 (.inl h.nil)⟩
  rcases (A w).1 hw with g | ⟨p, h1, h2, rfl⟩
  · exact h.ok w g
  · exact ⟨okW_app (h.ok p h1).1 (ltr_ok ha k3), by simp [ltr]; omega⟩
theorem addP_nd {K : Nat} {l : WL} (h : l.Nodup) (x : List UInt8) : (addP K l x).Nodup := by
  rw [addP, (sortS_perm _).nodup_iff, List.nodup_append]
  refine ⟨h, ?_, ?_⟩
  · unfold List.Nodup
    rw [List.pairwise_map]
    refine (List.Pairwise.filter _ h).imp fun hne e => hne ?_
    exact List.append_cancel_right e
  · intro u hu w hw e
    subst e
    rw [List.mem_map] at hw
    obtain ⟨p, h1, rfl⟩ := hw
    rw [List.mem_filter, Bool.and_eq_true, Bool.not_eq_true', decide_eq_false_iff_not] at h1
    exact h1.2.2 hu
theorem addP_pset {k K a : Nat} {l : WL} (h : PSet k K l) (ha : a < k) (k3 : k ≤ 3) : PSet k K (addP K l (ltr a)) := (addP_adds K l (ltr a)).pset h ha k3 (addP_nd h.nd _)
theorem addP_srt (K : Nat) (l : WL) (x : List UInt8) : (addP K l x).Pairwise (· ≤ ·) := sortS_sorted _
theorem insR_srt (n : List UInt8) : ∀ {l : WL}, l.Pairwise (fun u w => rk u < rk w) → (insR n l).Pairwise (fun u w => rk u < rk w)
  | [], _ => by simp [insR]
  | y :: r, h => by
    have h' := List.pairwise_cons.1 h
    rw [insR]
    split
    · rename_i g
      have g := lessW_rk g
      refine List.pairwise_cons.2 ⟨fun z hz => ?_, insR_srt n h'.2⟩
      rcases (insR_mem n r z).1 hz with rfl | hz
      · exact g
      · exact h'.1 z hz
    · split
      · exact h
      · rename_i g e
        have g2 : rk n < rk y := by
          rcases lessW_tri y n with q | q | q
          · exact absurd q g
          · exact absurd q e
          · exact lessW_rk q
        refine List.pairwise_cons.2 ⟨fun z hz => ?_, h⟩
        rcases List.mem_cons.1 hz with rfl | hz
        · exact g2
        · have := h'.1 z hz; omega
theorem addR_srt {K : Nat} {x : List UInt8} : ∀ (l : WL) {o : WL}, o.Pairwise (fun u w => rk u < rk w) → (l.foldl (addR1 K x) o).Pairwise (fun u w => rk u < rk w)
  | [], _, h => h
  | p :: l, o, h => by
    rw [List.foldl_cons]
    refine addR_srt l ?_
    unfold addR1
    split
    · exact h
    · exact insR_srt _ h
theorem srtR_nd {l : WL} (h : l.Pairwise (fun u w => rk u < rk w)) : l.Nodup := by
  unfold List.Nodup
  exact h.imp fun g e => by subst e; omega
theorem addR_pset {k K a : Nat} {l : WL} (h : PSet k K l) (s : l.Pairwise (fun u w => rk u < rk w)) (ha : a < k) (k3 : k ≤ 3) : PSet k K (addR K l (ltr a)) := (addR_adds h (ltr a)).pset h ha k3 (srtR_nd (addR_srt l s))
theorem take_sep {s : UInt8} : ∀ {p r : List UInt8}, s ∉ p → (r = [] ∨ ∃ t, r = s :: t) → (p ++ r).takeWhile (fun c => decide (c ≠ s)) = p
  | [], r, _, h => by
    rcases h with rfl | ⟨t, rfl⟩ <;> simp
  | c :: p, r, h, h2 => by
    simp only [List.mem_cons, not_or] at h
    have : c ≠ s := fun e => h.1 e.symm
    rw [List.cons_append, List.takeWhile_cons, if_pos (by simpa using this), take_sep h.2 h2]
theorem sep_cut {s : UInt8} {p p' r r' : List UInt8} (h : s ∉ p) (h' : s ∉ p') (e : r = [] ∨ ∃ t, r = s :: t) (e' : r' = [] ∨ ∃ t, r' = s :: t) (g : p ++ r = p' ++ r') : p = p' ∧ r = r' := by
  have := take_sep h e
  rw [g, take_sep h' e'] at this
  subst this
  exact ⟨rfl, List.append_cancel_left g⟩
theorem nameL_cons (p : List UInt8) (l : WL) : nameL (p :: l) = 32 :: (p ++ nameL l) := by simp [nameL]
theorem nameL_sep : ∀ l : WL, nameL l = [] ∨ ∃ t, nameL l = 32 :: t
  | [] => .inl rfl
  | p :: l => .inr ⟨_, nameL_cons p l⟩
theorem nameL_inj : ∀ {l l' : WL}, (∀ w ∈ l, (32 : UInt8) ∉ w) → (∀ w ∈ l', (32 : UInt8) ∉ w) → nameL l = nameL l' → l = l'
  | [], [], _, _, _ => rfl
  | [], p :: l, _, _, h => by rw [nameL_cons] at h; simp [nameL] at h
  | p :: l, [], _, _, h => by rw [nameL_cons] at h; simp [nameL] at h
  | p :: l, p' :: l', h1, h2, h => by
    rw [nameL_cons, nameL_cons, List.cons.injEq] at h
    obtain ⟨rfl, e⟩ := sep_cut (h1 p (by simp)) (h2 p' (by simp)) (nameL_sep l) (nameL_sep l') h.2
    rw [nameL_inj (fun w hw => h1 w (by simp [hw])) (fun w hw => h2 w (by simp [hw])) e]
theorem joinL_cons (p : List UInt8) (l : WL) : joinL (p :: l) = p ++ (47 :: joinL l) := by simp [joinL]
theorem joinL_inj : ∀ {l l' : WL}, (∀ w ∈ l, (47 : UInt8) ∉ w) → (∀ w ∈ l', (47 : UInt8) ∉ w) → joinL l = joinL l' → l = l'
  | [], [], _, _, _ => rfl
  | [], p :: l, _, _, h => by rw [joinL_cons] at h; simp [joinL] at h
  | p :: l, [], _, _, h => by rw [joinL_cons] at h; simp [joinL] at h
  | p :: l, p' :: l', h1, h2, h => by
    rw [joinL_cons, joinL_cons] at h
    obtain ⟨rfl, e⟩ := sep_cut (h1 p (by simp)) (h2 p' (by simp)) (.inr ⟨_, rfl⟩) (.inr ⟨_, rfl⟩) h
    rw [List.cons.injEq] at e
    rw [joinL_inj (fun w hw => h1 w (by simp [hw])) (fun w hw => h2 w (by simp [hw])) e.2]
theorem okW_sep {k : Nat} {s : UInt8} (hs : s.toNat < 97) {w : List UInt8} (h : okW k w) : s ∉ w := fun g => by
  have := (h s g).1; omega
abbrev PT := Nat × WL
structure OkP (n k K : Nat) (x : PT) : Prop where
  lt : x.1 < n
  p : PSet k K x.2
  s : x.2.Pairwise (· ≤ ·)
structure OkR (n k K : Nat) (x : PT) : Prop where
  lt : x.1 < n
  p : PSet k K x.2
  s : x.2.Pairwise (fun u w => rk u < rk w)
def cN (x : PT) : List AV := [.int .i64 ((x.1 : Nat) : Int), .str (nameL x.2)]
def encN (x : PT) : AV := .agg (cN x)
def cJ (x : PT) : List AV := [.int .i64 ((x.1 : Nat) : Int), .str (joinL x.2)]
def encJ (x : PT) : AV := .agg (cJ x)
theorem nameP_inj {n k K : Nat} {x y : PT} (h : OkP n k K x) (g : OkP n k K y) (e : nameL x.2 = nameL y.2) : x.2 = y.2 :=
  nameL_inj (fun w hw => okW_sep (by decide) (h.p.ok w hw).1) (fun w hw => okW_sep (by decide) (g.p.ok w hw).1) e
theorem joinR_inj {n k K : Nat} {x y : PT} (h : OkR n k K x) (g : OkR n k K y) (e : joinL x.2 = joinL y.2) : x.2 = y.2 :=
  joinL_inj (fun w hw => okW_sep (by decide) (h.p.ok w hw).1) (fun w hw => okW_sep (by decide) (g.p.ok w hw).1) e
theorem keysIS {t : TypeId} (h : flatT prog t = some [3, 9]) {ok : PT → Prop} {nm : WL → List UInt8} (inj : ∀ a b, ok a → ok b → nm a.2 = nm b.2 → a.2 = b.2) : Keys t (fun x : PT => .agg [.int .i64 ((x.1 : Nat) : Int), .str (nm x.2)]) ok := by
  refine ⟨fun a b ha hb => ?_, fun a _ => ?_⟩
  · obtain ⟨a1, a2⟩ := a
    obtain ⟨b1, b2⟩ := b
    by_cases e1 : a1 = b1
    · by_cases e2 : nm a2 = nm b2
      · have e3 := inj _ _ ha hb e2
        simp only at e3
        simp [keyEq, h, eqCs, sc3, sc9, eqSc, e1, e3]
      · have : ¬ a2 = b2 := fun e => e2 (by rw [e])
        have e4 : (nm a2 == nm b2) = false := beq_eq_false_iff_ne.2 e2
        simp [keyEq, h, eqCs, sc3, sc9, eqSc, e1, e4, -beq_eq_false_iff_ne, Prod.ext_iff, this]
    · have : ((a1 : Int) == (b1 : Int)) = false := by rw [beq_eq_false_iff_ne]; omega
      simp [keyEq, h, eqCs, sc3, sc9, eqSc, e1, Prod.ext_iff, this]
  · obtain ⟨a1, a2⟩ := a
    simp [keyT, h, scL, sc3, sc9]
theorem fl93 : flatT prog 93 = some [3, 9] := by kernel_rfl
theorem fl104 : flatT prog 104 = some [3, 9] := by kernel_rfl
theorem keysN (n k K : Nat) : Keys 93 encN (OkP n k K) := keysIS fl93 fun a b ha hb e => nameP_inj ha hb e
theorem keysJ (n k K : Nat) : Keys 104 encJ (OkR n k K) := keysIS fl104 fun a b ha hb e => joinR_inj ha hb e
end Go.Proofs.Ythnpflkpjimkfaa

/-
  THE SEARCH THAT GIVES UP AT 5000; WHAT COMES FIRST; THE LEAST PAIR. Conditions: none.
-/
namespace Go.Proofs.Ythnpflkpjimkfaa
open Go.AM
open Go.Proofs.Try (prog)
set_option linter.all false
set_option maxRecDepth 100000
set_option maxHeartbeats 8000000
section
variable {α β : Type} [DecidableEq α] (nxt : α → Nat → α) (ext : β → Nat → β)
def bInF (x : α) (w : β) : Nat → Nat → List α × List β → Option (List α × List β)
  | 0, _, s => some s
  | j + 1, a, s => if nxt x a ∈ s.1 then bInF x w j (a + 1) s else if 5000 ≤ s.1.length then none else bInF x w j (a + 1) (s.1 ++ [nxt x a], s.2 ++ [ext w a])
def bfsF (k : Nat) : Nat → Nat → List α × List β → Option (List α × List β)
  | 0, _, _ => none
  | f + 1, i, s => match s.1[i]?, s.2[i]? with
    | some x, some w => (bInF nxt ext x w k 0 s).bind (bfsF k f (i + 1))
    | _, _ => some s
variable {nxt} {ext}
theorem bInF_bIn {x : α} {w : β} : ∀ {j a : Nat} {s s' : List α × List β}, bInF nxt ext x w j a s = some s' → s' = bIn nxt ext x w j a s
  | 0, _, s, s', h => by simp only [bInF, Option.some.injEq] at h; exact h.symm
  | j + 1, a, s, s', h => by
    rw [bInF] at h
    rw [bIn]
    split at h
    · rename_i g
      rw [if_pos g]
      exact bInF_bIn h
    · rename_i g
      rw [if_neg g]
      split at h
      · cases h
      · exact bInF_bIn h
theorem bInF_le {x : α} {w : β} : ∀ {j a : Nat} {s s' : List α × List β}, bInF nxt ext x w j a s = some s' → s.1.length ≤ 5000 → s'.1.length ≤ 5000
  | 0, _, s, s', h, g => by simp only [bInF, Option.some.injEq] at h; subst h; exact g
  | j + 1, a, s, s', h, g => by
    rw [bInF] at h
    split at h
    · exact bInF_le h g
    · split at h
      · cases h
      · exact bInF_le h (by simp; omega)
theorem bInF_pre {x : α} {w : β} {j a : Nat} {s s' : List α × List β} (h : bInF nxt ext x w j a s = some s') : ∃ p q, s'.1 = s.1 ++ p ∧ s'.2 = s.2 ++ q := by
  rw [bInF_bIn h]; exact bIn_pre nxt ext x w j a s
theorem bfsF_pre {k : Nat} : ∀ {f i : Nat} {s S : List α × List β}, bfsF nxt ext k f i s = some S → ∃ p q, S.1 = s.1 ++ p ∧ S.2 = s.2 ++ q
  | 0, _, _, _, h => by cases h
  | f + 1, i, s, S, h => by
    rw [bfsF] at h
    split at h
    · rw [Option.bind_eq_some_iff] at h
      obtain ⟨s', h1, h2⟩ := h
      obtain ⟨p, q, e1, e2⟩ := bInF_pre h1
      obtain ⟨p', q', e3, e4⟩ := bfsF_pre h2
      exact ⟨p ++ p', q ++ q', by rw [e3, e1, List.append_assoc], by rw [e4, e2, List.append_assoc]⟩
    · cases h; exact ⟨[], [], by simp, by simp⟩
structure FOk (ok : α → Prop) (Q : α → β → Prop) (s : List α × List β) : Prop where
  nd : s.1.Nodup
  len : s.1.length = s.2.length
  all : ∀ (i : Nat) x w, s.1[i]? = some x → s.2[i]? = some w → ok x ∧ Q x w
theorem FOk.add {ok : α → Prop} {Q : α → β → Prop} {s : List α × List β} (h : FOk ok Q s) {x : α} {w : β} (hx : ok x) (hq : Q x w) (hn : x ∉ s.1) : FOk ok Q (s.1 ++ [x], s.2 ++ [w]) := by
  refine ⟨?_, by simp [h.len], fun i y v h1 h2 => ?_⟩
  · rw [List.nodup_append]
    refine ⟨h.nd, by simp, ?_⟩
    intro a ha b hb
    simp at hb
    subst hb
    exact fun e => hn (e ▸ ha)
  · by_cases q : i < s.1.length
    · rw [List.getElem?_append_left q] at h1
      rw [List.getElem?_append_left (by rw [← h.len]; exact q)] at h2
      exact h.all i y v h1 h2
    · have hi := (List.getElem?_eq_some_iff.1 h1).1
      simp at hi
      have e : i = s.1.length := by omega
      subst e
      simp at h1
      rw [h.len] at h2
      simp at h2
      subst h1 h2
      exact ⟨hx, hq⟩
end
section
variable {α α' β : Type} [DecidableEq α] [DecidableEq α'] {nxt : α → Nat → α} {nxt' : α' → Nat → α'} {ext : β → Nat → β} {R : α → α' → Prop} {ok : α → Prop} {ok' : α' → Prop} {k : Nat}
structure Two (R : α → α' → Prop) (ok : α → Prop) (ok' : α' → Prop) (s : List α × List β) (s' : List α' × List β) : Prop where
  w : s.2 = s'.2
  l : s.1.length = s'.1.length
  r : ∀ (i : Nat) x y, s.1[i]? = some x → s'.1[i]? = some y → R x y ∧ ok x ∧ ok' y
theorem Two.mem {s : List α × List β} {s' : List α' × List β} (T : Two R ok ok' s s') (eq : ∀ x y u v, ok x → ok u → ok' y → ok' v → R x y → R u v → (x = u ↔ y = v)) {x : α} {y : α'} (hx : ok x) (hy : ok' y) (h : R x y) : x ∈ s.1 ↔ y ∈ s'.1 := by
  constructor
  · intro hm
    obtain ⟨i, hi⟩ := List.getElem?_of_mem hm
    have hl := (List.getElem?_eq_some_iff.1 hi).1
    have hl' : i < s'.1.length := by have := T.l; omega
    obtain ⟨r1, r2, r3⟩ := T.r i x _ hi (List.getElem?_eq_getElem hl')
    have := (eq x y x _ hx r2 hy r3 h r1).1 rfl
    rw [this]; exact List.getElem_mem _
  · intro hm
    obtain ⟨i, hi⟩ := List.getElem?_of_mem hm
    have hl := (List.getElem?_eq_some_iff.1 hi).1
    have hl' : i < s.1.length := by have := T.l; omega
    obtain ⟨r1, r2, r3⟩ := T.r i _ y (List.getElem?_eq_getElem hl') hi
    have := (eq x y _ y hx r2 hy r3 h r1).2 rfl
    rw [this]; exact List.getElem_mem _
def Rel2 (R : α → α' → Prop) (ok : α → Prop) (ok' : α' → Prop) : Option (List α × List β) → Option (List α' × List β) → Prop
  | none, none => True
  | some s, some s' => Two R ok ok' s s'
  | _, _ => False
theorem two_in (eq : ∀ x y u v, ok x → ok u → ok' y → ok' v → R x y → R u v → (x = u ↔ y = v)) (nR : ∀ x y a, ok x → ok' y → R x y → a < k → R (nxt x a) (nxt' y a) ∧ ok (nxt x a) ∧ ok' (nxt' y a)) {x : α} {y : α'} {w : β} (hx : ok x) (hy : ok' y) (h : R x y) :
    ∀ (j a : Nat) (s : List α × List β) (s' : List α' × List β), a + j ≤ k → Two R ok ok' s s' → Rel2 R ok ok' (bInF nxt ext x w j a s) (bInF nxt' ext y w j a s')
  | 0, _, s, s', _, T => T
  | j + 1, a, s, s', ha, T => by
    obtain ⟨n1, n2, n3⟩ := nR x y a hx hy h (by omega)
    have hm := T.mem eq n2 n3 n1
    rw [bInF, bInF]
    by_cases q : nxt x a ∈ s.1
    · rw [if_pos q, if_pos (hm.1 q)]
      exact two_in eq nR hx hy h j (a + 1) s s' (by omega) T
    · rw [if_neg q, if_neg (fun g => q (hm.2 g)), ← T.l]
      split
      · exact trivial
      · refine two_in eq nR hx hy h j (a + 1) _ _ (by omega) ⟨by simp [T.w], by simp [T.l], fun i u v h1 h2 => ?_⟩
        by_cases c : i < s.1.length
        · rw [List.getElem?_append_left c] at h1
          rw [List.getElem?_append_left (by have := T.l; omega)] at h2
          exact T.r i u v h1 h2
        · have hi := (List.getElem?_eq_some_iff.1 h1).1
          simp at hi
          have e : i = s.1.length := by omega
          subst e
          simp at h1
          rw [T.l] at h2
          simp at h2
          subst h1 h2
          exact ⟨n1, n2, n3⟩
theorem two_bfs (eq : ∀ x y u v, ok x → ok u → ok' y → ok' v → R x y → R u v → (x = u ↔ y = v)) (nR : ∀ x y a, ok x → ok' y → R x y → a < k → R (nxt x a) (nxt' y a) ∧ ok (nxt x a) ∧ ok' (nxt' y a)) :
    ∀ (f i : Nat) (s : List α × List β) (s' : List α' × List β), Two R ok ok' s s' → Rel2 R ok ok' (bfsF nxt ext k f i s) (bfsF nxt' ext k f i s')
  | 0, _, _, _, _ => trivial
  | f + 1, i, s, s', T => by
    rw [bfsF, bfsF]
    by_cases q : i < s.1.length
    · have q' : i < s'.1.length := by have := T.l; omega
      rw [List.getElem?_eq_getElem q, List.getElem?_eq_getElem q', T.w]
      by_cases q2 : i < s'.2.length
      · rw [List.getElem?_eq_getElem q2]
        obtain ⟨r1, r2, r3⟩ := T.r i _ _ (List.getElem?_eq_getElem q) (List.getElem?_eq_getElem q')
        have t := two_in (ext := ext) eq nR (w := s'.2[i]) r2 r3 r1 k 0 s s' (by omega) T
        simp only []
        revert t
        generalize bInF nxt ext s.1[i] s'.2[i] k 0 s = o
        generalize bInF nxt' ext s'.1[i] s'.2[i] k 0 s' = o'
        intro t
        match o, o', t with
        | none, none, _ => exact trivial
        | some u, some u', t => exact two_bfs eq nR f (i + 1) u u' t
        | none, some _, t => exact t.elim
        | some _, none, t => exact t.elim
      · rw [List.getElem?_eq_none (show s'.2.length ≤ i by omega)]
        exact T
    · have q' : ¬ i < s'.1.length := by have := T.l; omega
      rw [List.getElem?_eq_none (show s.1.length ≤ i by omega), List.getElem?_eq_none (show s'.1.length ≤ i by omega)]
      exact T
end
structure Inc (l : WL) (b : Nat) : Prop where
  s : l.Pairwise fun u w => rk u < rk w
  b : ∀ y ∈ l, rk y < b
section
variable {α : Type} [DecidableEq α] {nxt : α → Nat → α}
theorem inc_in {x : α} {w : List UInt8} : ∀ {c a : Nat} {s s' : List α × WL}, bInF nxt extL x w c a s = some s' → a + c ≤ 3 → Inc s.2 (rk w * 256 + (98 + a)) → Inc s'.2 (rk w * 256 + (98 + (a + c)))
  | 0, a, s, s', h, _, g => by simp only [bInF, Option.some.injEq] at h; subst h; exact g
  | c + 1, a, s, s', h, ha, g => by
    rw [bInF] at h
    have e : a + (c + 1) = a + 1 + c := by omega
    rw [e]
    split at h
    · exact inc_in h (by omega) ⟨g.s, fun y hy => by have := g.b y hy; omega⟩
    · split at h
      · cases h
      · have hr : rk (extL w a) = rk w * 256 + (98 + a) := rk_ltr w (by omega)
        refine inc_in h (by omega) ⟨?_, fun y hy => ?_⟩
        · rw [List.pairwise_append]
          refine ⟨g.s, by simp, fun u hu v hv => ?_⟩
          simp at hv
          subst hv
          rw [hr]; exact g.b u hu
        · rcases List.mem_append.1 hy with hy | hy
          · have := g.b y hy; omega
          · simp at hy; subst hy; rw [hr]; omega
theorem inc_bfs {k : Nat} (k3 : k ≤ 3) : ∀ {f i : Nat} {s S : List α × WL}, bfsF nxt extL k f i s = some S → (∀ w, s.2[i]? = some w → Inc s.2 (rk w * 256 + 98)) → s.2.Pairwise (fun u w => rk u < rk w) → S.2.Pairwise fun u w => rk u < rk w
  | 0, _, _, _, h, _, _ => by cases h
  | f + 1, i, s, S, h, g, p => by
    rw [bfsF] at h
    split at h
    · rename_i x w h1 h2
      rw [Option.bind_eq_some_iff] at h
      obtain ⟨s', h3, h4⟩ := h
      have r := inc_in h3 (by omega) (by simpa using g w h2)
      refine inc_bfs k3 h4 (fun v hv => ⟨r.s, fun y hy => ?_⟩) r.s
      have := r.b y hy
      obtain ⟨_, q, _, e2⟩ := bInF_pre h3
      have hlt : rk w < rk v := by
        have hi := (List.getElem?_eq_some_iff.1 h2).1
        have hi' := (List.getElem?_eq_some_iff.1 hv).1
        have w2 : s'.2[i]? = some w := by rw [e2, List.getElem?_append_left hi]; exact h2
        have hi2 : i < s'.2.length := (List.getElem?_eq_some_iff.1 w2).1
        have := List.pairwise_iff_getElem.1 r.s i (i + 1) hi2 hi' (by omega)
        rw [(List.getElem?_eq_some_iff.1 w2).2, (List.getElem?_eq_some_iff.1 hv).2] at this
        exact this
      omega
    · cases h; exact p
end
end Go.Proofs.Ythnpflkpjimkfaa

/-
  WHAT COMES FIRST; THE LEAST PAIR. Conditions: none.
-/
namespace Go.Proofs.Ythnpflkpjimkfaa
open Go.AM
open Go.Proofs.Try (prog)
set_option linter.all false
set_option maxRecDepth 100000
set_option maxHeartbeats 8000000
abbrev WFn := List UInt8 → Option (List UInt8)
abbrev GT := WFn × WFn × WL
section
variable {α : Type} (κ : α → List UInt8) (sd : α → Bool)
def fcS (G : GT) (q : α × List UInt8) : GT :=
  if sd q.1 = true then (if G.1 (κ q.1) = none then (putF G.1 (κ q.1) q.2, G.2.1, G.2.2 ++ [κ q.1]) else G)
  else (if G.2.1 (κ q.1) = none then (G.1, putF G.2.1 (κ q.1) q.2, G.2.2 ++ [κ q.1]) else G)
def G0 : GT := (fun _ => none, fun _ => none, [])
def fcA (L : List (α × List UInt8)) : GT := L.foldl (fcS κ sd) G0
def fnd (b : Bool) (L : List (α × List UInt8)) (p : List UInt8) : Option (List UInt8) := (L.find? fun q => decide (sd q.1 = b) && decide (κ q.1 = p)).map (·.2)
variable {κ sd}
theorem fc_good : ∀ (L : List (α × List UInt8)) (G : GT) (p : List UInt8), (L.foldl (fcS κ sd) G).1 p = (G.1 p).or (fnd κ sd true L p)
  | [], G, p => by simp [fnd]
  | q :: L, G, p => by
    rw [List.foldl_cons, fc_good L]
    unfold fnd
    rw [List.find?_cons]
    unfold fcS
    by_cases h : sd q.1 = true
    · rw [if_pos h]
      by_cases e : κ q.1 = p
      · subst e
        by_cases g : G.1 (κ q.1) = none
        · rw [if_pos g]
          simp [putF, g, h]
        · rw [if_neg g]
          obtain ⟨w, hw⟩ := Option.ne_none_iff_exists'.1 g
          simp [hw]
      · have e' : ¬ p = κ q.1 := fun x => e x.symm
        split
        · simp [putF, e, e']
        · simp [e]
    · rw [if_neg h]
      split <;> simp [h]
theorem fc_bad : ∀ (L : List (α × List UInt8)) (G : GT) (p : List UInt8), (L.foldl (fcS κ sd) G).2.1 p = (G.2.1 p).or (fnd κ sd false L p)
  | [], G, p => by simp [fnd]
  | q :: L, G, p => by
    rw [List.foldl_cons, fc_bad L]
    unfold fnd
    rw [List.find?_cons]
    unfold fcS
    by_cases h : sd q.1 = true
    · rw [if_pos h]
      split <;> simp [h]
    · rw [if_neg h]
      by_cases e : κ q.1 = p
      · subst e
        by_cases g : G.2.1 (κ q.1) = none
        · rw [if_pos g]
          simp [putF, g, h]
        · rw [if_neg g]
          obtain ⟨w, hw⟩ := Option.ne_none_iff_exists'.1 g
          simp [hw]
      · have e' : ¬ p = κ q.1 := fun x => e x.symm
        split
        · simp [putF, e, e']
        · simp [e]
theorem fc_names : ∀ (L : List (α × List UInt8)) (G : GT), (∀ p, G.1 p ≠ none ∨ G.2.1 p ≠ none → p ∈ G.2.2) → ∀ p, p ∈ (L.foldl (fcS κ sd) G).2.2 ↔ p ∈ G.2.2 ∨ ∃ q ∈ L, κ q.1 = p
  | [], G, _, p => by simp
  | q :: L, G, h, p => by
    rw [List.foldl_cons]
    have key : (∀ p, (fcS κ sd G q).1 p ≠ none ∨ (fcS κ sd G q).2.1 p ≠ none → p ∈ (fcS κ sd G q).2.2) ∧ ∀ p, p ∈ (fcS κ sd G q).2.2 ↔ p ∈ G.2.2 ∨ κ q.1 = p := by
      unfold fcS
      split
      · split
        · refine ⟨fun p hp => ?_, fun p => by simp [eq_comm]⟩
          simp only [List.mem_append, List.mem_singleton]
          by_cases e : p = κ q.1
          · exact .inr e
          · simp only [putF, if_neg e] at hp
            exact .inl (h p hp)
        · rename_i g
          refine ⟨h, fun p => ⟨.inl, ?_⟩⟩
          rintro (g2 | rfl)
          · exact g2
          · exact h _ (.inl g)
      · split
        · refine ⟨fun p hp => ?_, fun p => by simp [eq_comm]⟩
          simp only [List.mem_append, List.mem_singleton]
          by_cases e : p = κ q.1
          · exact .inr e
          · simp only [putF, if_neg e] at hp
            exact .inl (h p hp)
        · rename_i g
          refine ⟨h, fun p => ⟨.inl, ?_⟩⟩
          rintro (g2 | rfl)
          · exact g2
          · exact h _ (.inr g)
    rw [fc_names L _ key.1, key.2]
    simp only [List.mem_cons, exists_eq_or_imp]
    rw [or_assoc]
def rcS (G : WFn × WFn) (q : α × List UInt8) : WFn × WFn :=
  let F := if sd q.1 = true then G.1 else G.2
  if (match F (κ q.1) with | none => true | some w => lessW q.2 w) = true then (if sd q.1 = true then (putF G.1 (κ q.1) q.2, G.2) else (G.1, putF G.2 (κ q.1) q.2)) else G
theorem rc_fc : ∀ (L : List (α × List UInt8)) (G : GT) (b : Nat), (L.map (·.2)).Pairwise (fun u w => rk u < rk w) → (∀ q ∈ L, b < rk q.2 + 1) → (∀ p w, G.1 p = some w ∨ G.2.1 p = some w → rk w ≤ b) →
    L.foldl (rcS (κ := κ) (sd := sd)) (G.1, G.2.1) = ((L.foldl (fcS κ sd) G).1, (L.foldl (fcS κ sd) G).2.1)
  | [], G, b, _, _, _ => rfl
  | q :: L, G, b, hs, hb, hG => by
    rw [List.map_cons, List.pairwise_cons] at hs
    have h1 : rcS (κ := κ) (sd := sd) (G.1, G.2.1) q = ((fcS κ sd G q).1, (fcS κ sd G q).2.1) := by
      have nl : ∀ w, rk w ≤ b → lessW q.2 w = false := fun w hw => by
        cases g : lessW q.2 w with
        | false => rfl
        | true => have := lessW_rk g; have := hb q (by simp); omega
      unfold rcS fcS
      by_cases h : sd q.1 = true
      · simp only [if_pos h]
        cases e : G.1 (κ q.1) with
        | none => simp
        | some w => simp [nl w (hG _ _ (.inl e))]
      · simp only [if_neg h]
        cases e : G.2.1 (κ q.1) with
        | none => simp
        | some w => simp [nl w (hG _ _ (.inr e))]
    have hmap : ∀ p w, (fcS κ sd G q).1 p = some w ∨ (fcS κ sd G q).2.1 p = some w → rk w ≤ rk q.2 := by
      intro p w
      have hq := hb q (by simp)
      unfold fcS
      split
      · split
        · simp only [putF]
          split
          · rintro (e | e)
            · cases e; exact Nat.le_refl _
            · have := hG _ _ (.inr e); omega
          · rintro e; have := hG _ _ e; omega
        · intro e; have := hG _ _ e; omega
      · split
        · simp only [putF]
          split
          · rintro (e | e)
            · have := hG _ _ (.inl e); omega
            · cases e; exact Nat.le_refl _
          · rintro e; have := hG _ _ e; omega
        · intro e; have := hG _ _ e; omega
    rw [List.foldl_cons, List.foldl_cons, h1, rc_fc L _ (rk q.2) hs.2 (fun q' hq' => by
      have := hs.1 q'.2 (List.mem_map.2 ⟨q', hq', rfl⟩); omega) hmap]
end
abbrev WW := List UInt8 × List UInt8
def mxl (p : WW) : Nat := max p.1.length p.2.length
def btr (p q : WW) : Bool := decide (mxl p < mxl q) || (decide (mxl p = mxl q) && (lessW p.1 q.1 || (decide (p.1 = q.1) && lessW p.2 q.2)))
theorem btr_iff (p q : WW) : btr p q = true ↔ mxl p < mxl q ∨ (mxl p = mxl q ∧ (rk p.1 < rk q.1 ∨ (rk p.1 = rk q.1 ∧ rk p.2 < rk q.2))) := by
  unfold btr
  simp only [Bool.or_eq_true, Bool.and_eq_true, decide_eq_true_eq, lessW_iff]
  constructor
  · rintro (h | ⟨h1, h2 | ⟨h2, h3⟩⟩)
    · exact .inl h
    · exact .inr ⟨h1, .inl h2⟩
    · exact .inr ⟨h1, .inr ⟨by rw [h2], h3⟩⟩
  · rintro (h | ⟨h1, h2 | ⟨h2, h3⟩⟩)
    · exact .inl h
    · exact .inr ⟨h1, .inl h2⟩
    · exact .inr ⟨h1, .inr ⟨rk_inj h2, h3⟩⟩
def selS (o : Option WW) (p : WW) : Option WW := match o with
  | none => some p
  | some q => if btr p q = true then some p else some q
def sel (l : List WW) : Option WW := l.foldl selS none
theorem sel_some : ∀ (l : List WW) (q : WW), ∃ p, l.foldl selS (some q) = some p ∧ (p = q ∨ p ∈ l) ∧ btr q p = false ∧ ∀ r ∈ l, btr r p = false
  | [], q => ⟨q, rfl, .inl rfl, by
      cases h : btr q q with
      | false => rfl
      | true => rw [btr_iff] at h; omega, by simp⟩
  | x :: l, q => by
    rw [List.foldl_cons]
    unfold selS
    simp only []
    by_cases h : btr x q = true
    · rw [if_pos h]
      obtain ⟨p, h1, h2, h3, h4⟩ := sel_some l x
      refine ⟨p, h1, .inr ?_, ?_, fun r hr => ?_⟩
      · rcases h2 with rfl | h2 <;> simp_all
      · cases g : btr q p with
        | false => rfl
        | true =>
          have : btr x p = true := by rw [btr_iff] at *; omega
          rw [this] at h3; cases h3
      · rcases List.mem_cons.1 hr with rfl | hr
        · exact h3
        · exact h4 r hr
    · rw [if_neg h]
      obtain ⟨p, h1, h2, h3, h4⟩ := sel_some l q
      refine ⟨p, h1, ?_, h3, fun r hr => ?_⟩
      · rcases h2 with rfl | h2
        · exact .inl rfl
        · exact .inr (by simp [h2])
      · rcases List.mem_cons.1 hr with rfl | hr
        · cases g : btr r p with
          | false => rfl
          | true =>
            have h5 : ¬ btr q p = true := by rw [h3]; simp
            rw [btr_iff] at g h5 h
            omega
        · exact h4 r hr
theorem sel_cons (x : WW) (l : List WW) : ∃ p, sel (x :: l) = some p ∧ p ∈ x :: l ∧ ∀ r ∈ x :: l, btr r p = false := by
  obtain ⟨p, h1, h2, h3, h4⟩ := sel_some l x
  refine ⟨p, h1, ?_, fun r hr => ?_⟩
  · rcases h2 with rfl | h2
    · simp
    · simp [h2]
  · rcases List.mem_cons.1 hr with rfl | hr
    · exact h3
    · exact h4 r hr
theorem sel_eq {l l' : List WW} (h : ∀ p, p ∈ l ↔ p ∈ l') : sel l = sel l' := by
  match l, l', h with
  | [], [], _ => rfl
  | [], x :: l', h => have := (h x).2 (by simp); simp at this
  | x :: l, [], h => have := (h x).1 (by simp); simp at this
  | x :: l, y :: l', h =>
    obtain ⟨p, h1, h2, h3⟩ := sel_cons x l
    obtain ⟨q, g1, g2, g3⟩ := sel_cons y l'
    rw [h1, g1]
    have a := h3 q ((h q).2 g2)
    have b := g3 p ((h p).1 h2)
    have a' : ¬ btr q p = true := by rw [a]; simp
    have b' : ¬ btr p q = true := by rw [b]; simp
    rw [btr_iff] at a' b'
    have e1 : p.1 = q.1 := rk_inj (by omega)
    have e2 : p.2 = q.2 := rk_inj (by omega)
    rw [Prod.ext e1 e2]
def cdP (Fg Fb : WFn) (p : List UInt8) : Option WW := match Fg p, Fb p with
  | some u, some v => some (u, v)
  | _, _ => none
theorem cdP_some {Fg Fb : WFn} {p : List UInt8} {x : WW} : cdP Fg Fb p = some x ↔ Fg p = some x.1 ∧ Fb p = some x.2 := by
  unfold cdP
  split
  · rename_i u v h1 h2
    rw [h1, h2]
    constructor
    · intro h; cases h; exact ⟨rfl, rfl⟩
    · rintro ⟨h, g⟩; cases h; cases g; rfl
  · rename_i h
    constructor
    · intro g; cases g
    · rintro ⟨h1, h2⟩; exact absurd h2 (h _ _ h1)
def cand (Fg Fb : WFn) (l : WL) : List WW := l.filterMap (cdP Fg Fb)
theorem cand_mem {Fg Fb : WFn} {l : WL} {x : WW} : x ∈ cand Fg Fb l ↔ ∃ p ∈ l, Fg p = some x.1 ∧ Fb p = some x.2 := by
  unfold cand
  rw [List.mem_filterMap]
  simp only [cdP_some]
end Go.Proofs.Ythnpflkpjimkfaa

/-
  BODIES OF FUNCTIONS OF THE PROGRAM AS SMALL OPERATIONS (written by gen.py; checked by the kernel against the program). Conditions: none.
-/
namespace Go.Proofs.Ythnpflkpjimkfaa
open Go.AM
open Go.Proofs.Try (prog)
set_option maxRecDepth 100000
set_option linter.all false
end Go.Proofs.Ythnpflkpjimkfaa

/-
  THE LEAST WORD THAT LEADS ALL STATES TO ONE: the program's search. Conditions: none.
-/
namespace Go.Proofs.Ythnpflkpjimkfaa
open Go.AM
open Go.Proofs.Try (prog)
set_option linter.all false
set_option maxRecDepth 100000
set_option maxHeartbeats 8000000
end Go.Proofs.Ythnpflkpjimkfaa

/-
  THE LEAST WORD THAT ONLY ONE OF TWO BRANDS ACCEPTS: the specification's search. Conditions: none.
-/
namespace Go.Proofs.Ythnpflkpjimkfaa
open Go.AM
open Go.Proofs.Try (prog)
set_option linter.all false
set_option maxRecDepth 100000
set_option maxHeartbeats 8000000
structure Rd (m : Mem) (x6 x7 : AV) (i6 i7 i8 : Nat) (S : List PN × List (List UInt8)) : Prop where
  p : Gl m x6 i6 2 S.1.length (flP S.1)
  w : Gl m x7 i7 1 S.2.length (S.2.map .str)
  k : Mp m i8 (S.1.map encP) ((S.1.map fun _ => true).map .bool)
  d1 : i6 ≠ i7
  d2 : i6 ≠ i8
  d3 : i7 ≠ i8
end Go.Proofs.Ythnpflkpjimkfaa

/-
  THE LEAST WORD THAT LEADS ALL STATES TO ONE: the specification's search. Conditions: none.
-/
namespace Go.Proofs.Ythnpflkpjimkfaa
open Go.AM
open Go.Proofs.Try (prog)
set_option linter.all false
set_option maxRecDepth 100000
set_option maxHeartbeats 8000000
structure Rs (m : Mem) (x6 x7 : AV) (i6 i7 i8 : Nat) (S : List Nat × List (List UInt8)) : Prop where
  p : Gl m x6 i6 1 S.1.length (S.1.map encS)
  w : Gl m x7 i7 1 S.2.length (S.2.map .str)
  k : Mp m i8 (S.1.map encS) ((S.1.map fun _ => true).map .bool)
  d1 : i6 ≠ i7
  d2 : i6 ≠ i8
  d3 : i7 ≠ i8
end Go.Proofs.Ythnpflkpjimkfaa

/-
  BrandAccepts: the law answers true. Conditions: none.
-/
namespace Go.Proofs.Ythnpflkpjimkfaa
open Go.AM
open Go.Proofs.Try (prog)
set_option linter.all false
set_option maxRecDepth 100000
set_option maxHeartbeats 8000000
theorem IsRows.cells {v : AV} {ps : List AV} {rows : List (List Int)} (h : IsRows v ps rows) : v.cells = [v] := by rcases h.val with ⟨rfl, _⟩ | ⟨_, rfl⟩ <;> rfl
end Go.Proofs.Ythnpflkpjimkfaa

/-
  BrandSmallest: the law answers true. Conditions: none.
-/
namespace Go.Proofs.Ythnpflkpjimkfaa
open Go.AM
open Go.Proofs.Try (prog)
set_option linter.all false
set_option maxRecDepth 100000
set_option maxHeartbeats 8000000
end Go.Proofs.Ythnpflkpjimkfaa
