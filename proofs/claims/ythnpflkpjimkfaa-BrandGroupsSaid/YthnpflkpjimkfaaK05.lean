/-
  BODIES OF FUNCTIONS OF THE PROGRAM AS SMALL OPERATIONS (written by gen.py; checked by the kernel against the program). Conditions: none.
-/
import Derived.Test.YthnpflkpjimkfaaKAmH
import Derived.Test.YthnpflkpjimkfaaK04
import Derived.Test.YthnpflkpjimkfaaK03
set_option linter.all false
namespace Go.Proofs.Ythnpflkpjimkfaa
open Go.AM
open Go.Proofs.Try (prog)
set_option maxRecDepth 100000
set_option linter.all false
namespace r07_Of
noncomputable section
variable (K : List Item) (s : St)
def b : Code := (Try.f41.body).getD .skip
theorem hf : prog.funcs[41]? = some Try.f41 := by kernel_rfl
def r0 := findReg b 0
def r1 := findReg b 1
def r2 := findReg b 2
def k0 := findBlk b 0
def l0 := loopOf k0
def L0 (x1 x2 x4 x5 : AV) (m : Mem) (K : List Item) : Option Res := den prog ann 41 (.code l0 :: .inLoop l0 :: .inBlock 0 :: K) ⟨[(1, x1), (2, x2), (4, x4), (5, x5)], 89, m⟩
def r3 := findReg b 3
def i0 := findCond b 0
def i0t := thenOf i0
def i0e := elseOf i0
def k1 := findBlk b 1
def r5 := findReg b 5
def k2 := findBlk b 2
def l2 := loopOf k2
def L2 (x1 x2 x4 x5 x6 : AV) (m : Mem) (K : List Item) : Option Res := den prog ann 41 (.code l2 :: .inLoop l2 :: .inBlock 2 :: K) ⟨[(1, x1), (2, x2), (4, x4), (5, x5), (6, x6)], 89, m⟩
def r6 := findReg b 6
def i1 := findCond b 1
def i1t := thenOf i1
def i1e := elseOf i1
def k3 := findBlk b 3
def r8 := findReg b 8
def r9 := findReg b 9
def k4 := findBlk b 4
def l4 := loopOf k4
def L4 (x1 x2 x4 x5 x6 x7 x8 : AV) (m : Mem) (K : List Item) : Option Res := den prog ann 41 (.code l4 :: .inLoop l4 :: .inBlock 4 :: K) ⟨[(1, x1), (2, x2), (4, x4), (5, x5), (6, x6), (7, x7), (8, x8)], 89, m⟩
def r10 := findReg b 10
def i2 := findCond b 2
def i2t := thenOf i2
def i2e := elseOf i2
def k5 := findBlk b 5
def r12 := findReg b 12
def r11 := findReg b 11
def r13 := findReg b 13
def i3 := findCond b 3
def i3t := thenOf i3
def i3e := elseOf i3
def r14 := findReg b 14
def r15 := findReg b 15
def i4 := findCond b 4
def i4t := thenOf i4
def i4e := elseOf i4
def r16 := findReg b 16
def r7 := findReg b 7
def r4 := findReg b 4
def r17 := findReg b 17
theorem b_eq : den prog ann 41 (.code b :: K) s = den prog ann 41 (.code r0 :: .code r1 :: .code r2 :: .code k0 :: .code r17 :: .code .ret :: K) s := den_flat hf (l := [r0, r1, r2, k0, r17, .ret]) (by kernel_rfl) K s
theorem r0_eq : den prog ann 41 (.code r0 :: K) s = mreg prog ann 41 none [] none [] [qA 1 frozenPtr 0,⟨some 2, none, .w false none fun s => newPtr s.m [.nils, .nils]⟩,qF 3 fun s => some (.bool false)] K s := (den_reg hf _ K s).trans (by kernel_rfl)
theorem r1_eq : den prog ann 41 (.code r1 :: K) s = mreg prog ann 41 none [] none [] [qA 9 (fieldA 0) 1,qA 10 (loadF false 1) 9,qA 11 lenSl 10,⟨some 12, none, .c 0 (fun s => (.fn 72 [] [])) fun s => [(s.get 11)]⟩,qF 13 fun s => bslF 1 (bslA 1 1 [.str []] [(0, (s.get 12))]),qF 14 fun s => bslF 1 (bslA 1 1 [.str []] [(0, (.str []))]),qF 15 fun s => bldA (plc [(0, 1), (1, 1)]) [.nils, .nils] [(0, (s.get 13)), (1, (s.get 14))],⟨some 4, none, .w false none fun s => newPtr s.m [.nils, .nils]⟩,⟨none, none, .w false none fun s => stA true 2 s.m (s.get 4) (s.get 15)⟩] K s := (den_reg hf _ K s).trans (by kernel_rfl)
theorem r2_eq : den prog ann 41 (.code r2 :: K) s = mreg prog ann 41 none [] none [] [qF 5 fun s => some (.int .i64 0)] K s := (den_reg hf _ K s).trans (by kernel_rfl)
theorem k0_eq (K : List Item) (t : List (Nat × AV)) (m : Mem) : den prog ann 41 (.code k0 :: K) ⟨t, 89, m⟩ = L0 (get t 1) (get t 2) (get t 4) (get t 5) m K := den_loop_enter hf (b := l0) (id := 3) (l := [1, 2, 4, 5]) (by kernel_rfl) (by kernel_rfl) (by kernel_rfl) K _
theorem l0_eq (K : List Item) (t : List (Nat × AV)) (m : Mem) : den prog ann 41 (.inLoop l0 :: .inBlock 0 :: K) ⟨t, 89, m⟩ = L0 (get t 1) (get t 2) (get t 4) (get t 5) m K := den_loop_again hf (id := 3) (l := [1, 2, 4, 5]) (by kernel_rfl) (by kernel_rfl) (.inBlock 0 :: K) _
theorem L0_eq (x1 x2 x4 x5 : AV) (m : Mem) (K : List Item) : L0 x1 x2 x4 x5 m K = den prog ann 41 (.code r3 :: .code i0 :: .code k1 :: .code r4 :: .inLoop l0 :: .inBlock 0 :: K) ⟨[(1, x1), (2, x2), (4, x4), (5, x5)], 89, m⟩ := den_flat hf (l := [r3, i0, k1, r4]) (by kernel_rfl) _ _
theorem r3_eq : den prog ann 41 (.code r3 :: K) s = mreg prog ann 41 (some [1, 2, 4, 5]) [] none [] [qC 16 5,qA 17 (fieldA 0) 4,qF 18 fun s => loadA false 1 s.m (s.get 17),qA 19 lenSl 18,qB 20 (binA prog .lss 3) 16 19] K s := (den_reg hf _ K s).trans (by kernel_rfl)
theorem i0_eq : den prog ann 41 (.code i0 :: K) s = ifV prog ann 41 20 i0t i0e K s (s.get 20) := den_if hf (by kernel_rfl) K s
theorem i0t_eq : den prog ann 41 (.code i0t :: K) s = den prog ann 41 (K) s := den_flat hf (l := []) (by kernel_rfl) K s
theorem i0e_eq : den prog ann 41 (.code i0e :: K) s = den prog ann 41 (.code (.exit 0) :: K) s := den_flat hf (l := [(.exit 0)]) (by kernel_rfl) K s
theorem k1_eq : den prog ann 41 (.code k1 :: K) s = den prog ann 41 (.code r5 :: .code k2 :: .inBlock 1 :: K) s := den_blk hf (b := blkOf k1) (l := [r5, k2]) (by kernel_rfl) (by kernel_rfl) K s
theorem r5_eq : den prog ann 41 (.code r5 :: K) s = mreg prog ann 41 none [] none [] [qF 6 fun s => some (.int .i64 0)] K s := (den_reg hf _ K s).trans (by kernel_rfl)
theorem k2_eq (K : List Item) (t : List (Nat × AV)) (m : Mem) : den prog ann 41 (.code k2 :: K) ⟨t, 89, m⟩ = L2 (get t 1) (get t 2) (get t 4) (get t 5) (get t 6) m K := den_loop_enter hf (b := l2) (id := 6) (l := [1, 2, 4, 5, 6]) (by kernel_rfl) (by kernel_rfl) (by kernel_rfl) K _
theorem l2_eq (K : List Item) (t : List (Nat × AV)) (m : Mem) : den prog ann 41 (.inLoop l2 :: .inBlock 2 :: K) ⟨t, 89, m⟩ = L2 (get t 1) (get t 2) (get t 4) (get t 5) (get t 6) m K := den_loop_again hf (id := 6) (l := [1, 2, 4, 5, 6]) (by kernel_rfl) (by kernel_rfl) (.inBlock 2 :: K) _
theorem L2_eq (x1 x2 x4 x5 x6 : AV) (m : Mem) (K : List Item) : L2 x1 x2 x4 x5 x6 m K = den prog ann 41 (.code r6 :: .code i1 :: .code k3 :: .code r7 :: .inLoop l2 :: .inBlock 2 :: K) ⟨[(1, x1), (2, x2), (4, x4), (5, x5), (6, x6)], 89, m⟩ := den_flat hf (l := [r6, i1, k3, r7]) (by kernel_rfl) _ _
theorem r6_eq : den prog ann 41 (.code r6 :: K) s = mreg prog ann 41 (some [1, 2, 4, 5, 6]) [] none [] [qC 23 6,qA 24 (fieldA 0) 1,qA 25 (loadF false 1) 24,qF 26 fun s => idxSl 1 (s.get 25) (.int .i64 0),qA 27 (loadF false 1) 26,qA 28 lenSl 27,qB 29 (binA prog .lss 3) 23 28] K s := (den_reg hf _ K s).trans (by kernel_rfl)
theorem i1_eq : den prog ann 41 (.code i1 :: K) s = ifV prog ann 41 29 i1t i1e K s (s.get 29) := den_if hf (by kernel_rfl) K s
theorem i1t_eq : den prog ann 41 (.code i1t :: K) s = den prog ann 41 (K) s := den_flat hf (l := []) (by kernel_rfl) K s
theorem i1e_eq : den prog ann 41 (.code i1e :: K) s = den prog ann 41 (.code (.exit 2) :: K) s := den_flat hf (l := [(.exit 2)]) (by kernel_rfl) K s
theorem k3_eq : den prog ann 41 (.code k3 :: K) s = den prog ann 41 (.code r8 :: .code r9 :: .code k4 :: .code r13 :: .code i3 :: .inBlock 3 :: K) s := den_blk hf (b := blkOf k3) (l := [r8, r9, k4, r13, i3]) (by kernel_rfl) (by kernel_rfl) K s
theorem r8_eq : den prog ann 41 (.code r8 :: K) s = mreg prog ann 41 none [] none [] [⟨some 32, none, .w false none fun s => bslM s.m 0 (bslA 1 0 [.int .u8 0] [])⟩,qC 7 32] K s := (den_reg hf _ K s).trans (by kernel_rfl)
theorem r9_eq : den prog ann 41 (.code r9 :: K) s = mreg prog ann 41 none [] none [] [qF 8 fun s => some (.int .i64 0)] K s := (den_reg hf _ K s).trans (by kernel_rfl)
theorem k4_eq (K : List Item) (t : List (Nat × AV)) (m : Mem) : den prog ann 41 (.code k4 :: K) ⟨t, 89, m⟩ = L4 (get t 1) (get t 2) (get t 4) (get t 5) (get t 6) (get t 7) (get t 8) m K := den_loop_enter hf (b := l4) (id := 10) (l := [1, 2, 4, 5, 6, 7, 8]) (by kernel_rfl) (by kernel_rfl) (by kernel_rfl) K _
theorem l4_eq (K : List Item) (t : List (Nat × AV)) (m : Mem) : den prog ann 41 (.inLoop l4 :: .inBlock 4 :: K) ⟨t, 89, m⟩ = L4 (get t 1) (get t 2) (get t 4) (get t 5) (get t 6) (get t 7) (get t 8) m K := den_loop_again hf (id := 10) (l := [1, 2, 4, 5, 6, 7, 8]) (by kernel_rfl) (by kernel_rfl) (.inBlock 4 :: K) _
theorem L4_eq (x1 x2 x4 x5 x6 x7 x8 : AV) (m : Mem) (K : List Item) : L4 x1 x2 x4 x5 x6 x7 x8 m K = den prog ann 41 (.code r10 :: .code i2 :: .code k5 :: .code r11 :: .inLoop l4 :: .inBlock 4 :: K) ⟨[(1, x1), (2, x2), (4, x4), (5, x5), (6, x6), (7, x7), (8, x8)], 89, m⟩ := den_flat hf (l := [r10, i2, k5, r11]) (by kernel_rfl) _ _
theorem r10_eq : den prog ann 41 (.code r10 :: K) s = mreg prog ann 41 (some [1, 2, 4, 5, 6, 7, 8]) [] none [] [qC 33 8,qA 34 (fieldA 0) 1,qA 35 (loadF false 1) 34,qA 36 lenSl 35,qB 37 (binA prog .lss 3) 33 36] K s := (den_reg hf _ K s).trans (by kernel_rfl)
theorem i2_eq : den prog ann 41 (.code i2 :: K) s = ifV prog ann 41 37 i2t i2e K s (s.get 37) := den_if hf (by kernel_rfl) K s
theorem i2t_eq : den prog ann 41 (.code i2t :: K) s = den prog ann 41 (K) s := den_flat hf (l := []) (by kernel_rfl) K s
theorem i2e_eq : den prog ann 41 (.code i2e :: K) s = den prog ann 41 (.code (.exit 4) :: K) s := den_flat hf (l := [(.exit 4)]) (by kernel_rfl) K s
theorem k5_eq : den prog ann 41 (.code k5 :: K) s = den prog ann 41 (.code r12 :: .inBlock 5 :: K) s := den_blk hf (b := blkOf k5) (l := [r12]) (by kernel_rfl) (by kernel_rfl) K s
theorem r12_draw : drawOk (fun g => (ann g).pure) (modeOf (ann 41) (idOf r12)) (frzOf (ann 41) (idOf r12)) (opsOf r12) = true := drawOk_of (an := [0, 0, 2, 0, 8, 0, 56, 120, 0, 504, 1022, 2046, 0, 8190, 16382, 32766, 65534, 131071, 262143]) (by kernel_rfl) (by kernel_rfl)
theorem r12_eq : den prog ann 41 (.code r12 :: K) s = mreg prog ann 41 none [] (some 19) [] [qC 40 7,qA 41 (fieldA 0) 1,qA 42 (loadF false 1) 41,qA 43 (fieldA 0) 4,qF 44 fun s => loadA false 1 s.m (s.get 43),qC 45 5,qB 46 (idxSl 1) 44 45,qF 47 fun s => loadA false 1 s.m (s.get 46),qC 48 8,qB 49 idxStr 47 48,qB 50 (idxSl 1) 42 49,qA 51 (loadF false 1) 50,qC 52 6,qB 53 (idxSl 1) 51 52,qA 54 (loadF false 1) 53,qA 55 (convInt .u8) 54,qF 56 fun s => bslF 1 (bslA 1 1 [.int .u8 0] [(0, (s.get 55))]),⟨some 57, none, .w false (some 17) fun s => appendA 1 1 s.m (s.get 40) (s.get 56)⟩,qC 7 57] K s := (den_regD hf r12_draw K s).trans (by kernel_rfl)
theorem r11_eq : den prog ann 41 (.code r11 :: K) s = mreg prog ann 41 (some [1, 2, 4, 5, 6, 7, 8]) [] none [] [qC 38 8,qF 39 fun s => binA prog .add 3 (s.get 38) (.int .i64 1),qC 8 39] K s := (den_reg hf _ K s).trans (by kernel_rfl)
theorem r13_eq : den prog ann 41 (.code r13 :: K) s = mreg prog ann 41 (some [1, 2, 4, 5, 6, 7]) [] none [] [qF 58 fun s => loadA true 2 s.m (s.get 4),qC 59 7,qF 60 fun s => convStr s.m (s.get 59),⟨some 61, none, .c 0 (fun s => (.fn 73 [] [])) fun s => [(s.get 58), (s.get 60)]⟩,qF 62 fun s => binA prog .lss 3 (s.get 61) (.int .i64 0)] K s := (den_reg hf _ K s).trans (by kernel_rfl)
theorem i3_eq : den prog ann 41 (.code i3 :: K) s = ifV prog ann 41 62 i3t i3e K s (s.get 62) := den_if hf (by kernel_rfl) K s
theorem i3t_eq : den prog ann 41 (.code i3t :: K) s = den prog ann 41 (.code r14 :: .code r15 :: .code i4 :: K) s := den_flat hf (l := [r14, r15, i4]) (by kernel_rfl) K s
theorem r14_draw : drawOk (fun g => (ann g).pure) (modeOf (ann 41) (idOf r14)) (frzOf (ann 41) (idOf r14)) (opsOf r14) = true := drawOk_of (an := [0, 1, 0, 4, 12, 31, 0, 64, 0, 256, 0, 1792, 3840, 0, 8255, 32575, 65343, 131071, 1023, 524287, 1048575, 2097151]) (by kernel_rfl) (by kernel_rfl)
theorem r14_eq : den prog ann 41 (.code r14 :: K) s = mreg prog ann 41 none [] (some 22) [3064069, 2000067, 3064071, 3064074] [qA 63 (fieldA 0) 4,qF 64 fun s => loadA false 1 s.m (s.get 63),qC 65 7,qF 66 fun s => convStr s.m (s.get 65),qF 67 fun s => bslF 1 (bslA 1 1 [.str []] [(0, (s.get 66))]),⟨some 68, none, .w false (some 5) fun s => appendA 1 16 s.m (s.get 64) (s.get 67)⟩,qA 69 (fieldA 1) 4,qF 70 fun s => loadA false 1 s.m (s.get 69),qA 71 (fieldA 1) 4,qF 72 fun s => loadA false 1 s.m (s.get 71),qC 73 5,qB 74 (idxSl 1) 72 73,qF 75 fun s => loadA false 1 s.m (s.get 74),qC 76 6,⟨some 77, none, .c 0 (fun s => (.fn 64 [] [])) fun s => [(s.get 76)]⟩,qB 78 (binA prog .add 9) 75 77,qF 79 fun s => bslF 1 (bslA 1 1 [.str []] [(0, (s.get 78))]),⟨some 80, none, .w false (some 17) fun s => appendA 1 16 s.m (s.get 70) (s.get 79)⟩,qA 81 (fieldA 0) 4,⟨none, none, .w false (some 19) fun s => stA false 1 s.m (s.get 81) (s.get 68)⟩,qA 82 (fieldA 1) 4,⟨none, none, .w false (some 21) fun s => stA false 1 s.m (s.get 82) (s.get 80)⟩] K s := (den_regD hf r14_draw K s).trans (by kernel_rfl)
theorem r15_eq : den prog ann 41 (.code r15 :: K) s = mreg prog ann 41 none [] none [] [qA 83 (fieldA 0) 4,qF 84 fun s => loadA false 1 s.m (s.get 83),qA 85 lenSl 84,qF 86 fun s => binA prog .gtr 3 (s.get 85) (.int .i64 400)] K s := (den_reg hf _ K s).trans (by kernel_rfl)
theorem i4_eq : den prog ann 41 (.code i4 :: K) s = ifV prog ann 41 86 i4t i4e K s (s.get 86) := den_if hf (by kernel_rfl) K s
theorem i4t_eq : den prog ann 41 (.code i4t :: K) s = den prog ann 41 (.code r16 :: .code .ret :: K) s := den_flat hf (l := [r16, .ret]) (by kernel_rfl) K s
theorem r16_eq : den prog ann 41 (.code r16 :: K) s = mreg prog ann 41 none [] none [] [qF 87 fun s => loadA true 2 s.m (s.get 4),⟨none, none, .w false none fun s => stA true 2 s.m (s.get 2) (s.get 87)⟩,qF 3 fun s => some (.bool false)] K s := (den_reg hf _ K s).trans (by kernel_rfl)
theorem i4e_eq : den prog ann 41 (.code i4e :: K) s = den prog ann 41 (K) s := den_flat hf (l := []) (by kernel_rfl) K s
theorem i3e_eq : den prog ann 41 (.code i3e :: K) s = den prog ann 41 (K) s := den_flat hf (l := []) (by kernel_rfl) K s
theorem r7_eq : den prog ann 41 (.code r7 :: K) s = mreg prog ann 41 (some [1, 2, 4, 5, 6]) [] none [] [qC 30 6,qF 31 fun s => binA prog .add 3 (s.get 30) (.int .i64 1),qC 6 31] K s := (den_reg hf _ K s).trans (by kernel_rfl)
theorem r4_eq : den prog ann 41 (.code r4 :: K) s = mreg prog ann 41 (some [1, 2, 4, 5]) [] none [] [qC 21 5,qF 22 fun s => binA prog .add 3 (s.get 21) (.int .i64 1),qC 5 22] K s := (den_reg hf _ K s).trans (by kernel_rfl)
theorem r17_eq : den prog ann 41 (.code r17 :: K) s = mreg prog ann 41 (some [2, 4]) [] none [] [qF 88 fun s => loadA true 2 s.m (s.get 4),⟨none, none, .w false none fun s => stA true 2 s.m (s.get 2) (s.get 88)⟩,qF 3 fun s => some (.bool true)] K s := (den_reg hf _ K s).trans (by kernel_rfl)
theorem ret_eq : den prog ann 41 (.code .ret :: K) s = finM true [fun s => loadA true 2 s.m (s.get 2), fun s => some (s.get 3)] s := (den_ret hf K s).trans (by kernel_rfl)
theorem nil_eq (s : St) : den prog ann 41 [] s = finM true [fun s => loadA true 2 s.m (s.get 2), fun s => some (s.get 3)] s := (den_nil hf s).trans (by kernel_rfl)
theorem inBlock_eq (id : Nat) (K : List Item) (s : St) : den prog ann 41 (.inBlock id :: K) s = den prog ann 41 K s := den_inBlock hf id K s
theorem exit_eq (id : Nat) (K : List Item) (s : St) : den prog ann 41 (.code (.exit id) :: K) s = exitV prog ann 41 (exitTo id K) s := den_exitV hf id K s
theorem call_eq (v0 : AV) (m : Mem) (h : closedL [v0] = true) : denC prog ann 41 [v0] m = (den prog ann 41 [.code b] ⟨[(0, v0)], 89, Mem.empty⟩).bind fun r => some (r.1, m) := (denC_pure hf (b := b) (by kernel_rfl) (by kernel_rfl) (by kernel_rfl) h m).trans (by kernel_rfl)
theorem pure_eq : (ann 41).pure = true := by kernel_rfl
attribute [simp] b_eq r0_eq r1_eq r2_eq k0_eq l0_eq r3_eq i0_eq i0t_eq i0e_eq k1_eq r5_eq k2_eq l2_eq r6_eq i1_eq i1t_eq i1e_eq k3_eq r8_eq r9_eq k4_eq l4_eq r10_eq i2_eq i2t_eq i2e_eq k5_eq r12_eq r11_eq r13_eq i3_eq i3t_eq r14_eq r15_eq i4_eq i4t_eq r16_eq i4e_eq i3e_eq r7_eq r4_eq r17_eq ret_eq nil_eq inBlock_eq exit_eq pure_eq
end
end r07_Of
namespace r07_nothing
noncomputable section
variable (K : List Item) (s : St)
def b : Code := (Try.f72.body).getD .skip
theorem hf : prog.funcs[72]? = some Try.f72 := by kernel_rfl
def r0 := findReg b 0
def r1 := findReg b 1
def r2 := findReg b 2
def k0 := findBlk b 0
def l0 := loopOf k0
def L0 (x0 x3 x4 : AV) (m : Mem) (K : List Item) : Option Res := den prog ann 72 (.code l0 :: .inLoop l0 :: .inBlock 0 :: K) ⟨[(0, x0), (3, x3), (4, x4)], 18, m⟩
def r3 := findReg b 3
def i0 := findCond b 0
def i0t := thenOf i0
def i0e := elseOf i0
def k1 := findBlk b 1
def r5 := findReg b 5
def r4 := findReg b 4
def r6 := findReg b 6
theorem b_eq : den prog ann 72 (.code b :: K) s = den prog ann 72 (.code r0 :: .code r1 :: .code r2 :: .code k0 :: .code r6 :: .code .ret :: K) s := den_flat hf (l := [r0, r1, r2, k0, r6, .ret]) (by kernel_rfl) K s
theorem r0_eq : den prog ann 72 (.code r0 :: K) s = mreg prog ann 72 none [] none [] [qF 2 fun s => some (.str [])] K s := (den_reg hf _ K s).trans (by kernel_rfl)
theorem r1_eq : den prog ann 72 (.code r1 :: K) s = mreg prog ann 72 none [] none [] [⟨some 5, none, .w false none fun s => bslM s.m 0 (bslA 1 0 [.int .u8 0] [])⟩,qC 3 5] K s := (den_reg hf _ K s).trans (by kernel_rfl)
theorem r2_eq : den prog ann 72 (.code r2 :: K) s = mreg prog ann 72 none [] none [] [qF 4 fun s => some (.int .i64 0)] K s := (den_reg hf _ K s).trans (by kernel_rfl)
theorem k0_eq (K : List Item) (t : List (Nat × AV)) (m : Mem) : den prog ann 72 (.code k0 :: K) ⟨t, 18, m⟩ = L0 (get t 0) (get t 3) (get t 4) m K := den_loop_enter hf (b := l0) (id := 3) (l := [0, 3, 4]) (by kernel_rfl) (by kernel_rfl) (by kernel_rfl) K _
theorem l0_eq (K : List Item) (t : List (Nat × AV)) (m : Mem) : den prog ann 72 (.inLoop l0 :: .inBlock 0 :: K) ⟨t, 18, m⟩ = L0 (get t 0) (get t 3) (get t 4) m K := den_loop_again hf (id := 3) (l := [0, 3, 4]) (by kernel_rfl) (by kernel_rfl) (.inBlock 0 :: K) _
theorem L0_eq (x0 x3 x4 : AV) (m : Mem) (K : List Item) : L0 x0 x3 x4 m K = den prog ann 72 (.code r3 :: .code i0 :: .code k1 :: .code r4 :: .inLoop l0 :: .inBlock 0 :: K) ⟨[(0, x0), (3, x3), (4, x4)], 18, m⟩ := den_flat hf (l := [r3, i0, k1, r4]) (by kernel_rfl) _ _
theorem r3_eq : den prog ann 72 (.code r3 :: K) s = mreg prog ann 72 (some [0, 3, 4]) [] none [] [qC 6 4,qC 7 0,qB 8 (binA prog .lss 3) 6 7] K s := (den_reg hf _ K s).trans (by kernel_rfl)
theorem i0_eq : den prog ann 72 (.code i0 :: K) s = ifV prog ann 72 8 i0t i0e K s (s.get 8) := den_if hf (by kernel_rfl) K s
theorem i0t_eq : den prog ann 72 (.code i0t :: K) s = den prog ann 72 (K) s := den_flat hf (l := []) (by kernel_rfl) K s
theorem i0e_eq : den prog ann 72 (.code i0e :: K) s = den prog ann 72 (.code (.exit 0) :: K) s := den_flat hf (l := [(.exit 0)]) (by kernel_rfl) K s
theorem k1_eq : den prog ann 72 (.code k1 :: K) s = den prog ann 72 (.code r5 :: .inBlock 1 :: K) s := den_blk hf (b := blkOf k1) (l := [r5]) (by kernel_rfl) (by kernel_rfl) K s
theorem r5_eq : den prog ann 72 (.code r5 :: K) s = mreg prog ann 72 none [] none [] [qC 11 3,qC 12 4,qA 13 (convInt .u8) 12,qF 14 fun s => bslF 1 (bslA 1 1 [.int .u8 0] [(0, (s.get 13))]),⟨some 15, none, .w false none fun s => appendA 1 1 s.m (s.get 11) (s.get 14)⟩,qC 3 15] K s := (den_reg hf _ K s).trans (by kernel_rfl)
theorem r4_eq : den prog ann 72 (.code r4 :: K) s = mreg prog ann 72 (some [0, 3, 4]) [] none [] [qC 9 4,qF 10 fun s => binA prog .add 3 (s.get 9) (.int .i64 1),qC 4 10] K s := (den_reg hf _ K s).trans (by kernel_rfl)
theorem r6_eq : den prog ann 72 (.code r6 :: K) s = mreg prog ann 72 (some [3]) [] none [] [qC 16 3,qF 17 fun s => convStr s.m (s.get 16),qC 2 17] K s := (den_reg hf _ K s).trans (by kernel_rfl)
theorem ret_eq : den prog ann 72 (.code .ret :: K) s = finM true [fun s => some (s.get 2)] s := (den_ret hf K s).trans (by kernel_rfl)
theorem nil_eq (s : St) : den prog ann 72 [] s = finM true [fun s => some (s.get 2)] s := (den_nil hf s).trans (by kernel_rfl)
theorem inBlock_eq (id : Nat) (K : List Item) (s : St) : den prog ann 72 (.inBlock id :: K) s = den prog ann 72 K s := den_inBlock hf id K s
theorem exit_eq (id : Nat) (K : List Item) (s : St) : den prog ann 72 (.code (.exit id) :: K) s = exitV prog ann 72 (exitTo id K) s := den_exitV hf id K s
theorem call_eq (v0 : AV) (m : Mem) (h : closedL [v0] = true) : denC prog ann 72 [v0] m = (den prog ann 72 [.code b] ⟨[(0, v0)], 18, Mem.empty⟩).bind fun r => some (r.1, m) := (denC_pure hf (b := b) (by kernel_rfl) (by kernel_rfl) (by kernel_rfl) h m).trans (by kernel_rfl)
theorem pure_eq : (ann 72).pure = true := by kernel_rfl
attribute [simp] b_eq r0_eq r1_eq r2_eq k0_eq l0_eq r3_eq i0_eq i0t_eq i0e_eq k1_eq r5_eq r4_eq r6_eq ret_eq nil_eq inBlock_eq exit_eq pure_eq
end
end r07_nothing
namespace r07_Monoid_Find
noncomputable section
variable (K : List Item) (s : St)
def b : Code := (Try.f73.body).getD .skip
theorem hf : prog.funcs[73]? = some Try.f73 := by kernel_rfl
def r0 := findReg b 0
def r1 := findReg b 1
def k0 := findBlk b 0
def l0 := loopOf k0
def L0 (x1 x2 x5 : AV) (m : Mem) (K : List Item) : Option Res := den prog ann 73 (.code l0 :: .inLoop l0 :: .inBlock 0 :: K) ⟨[(1, x1), (2, x2), (5, x5)], 21, m⟩
def r2 := findReg b 2
def i0 := findCond b 0
def i0t := thenOf i0
def i0e := elseOf i0
def k1 := findBlk b 1
def r4 := findReg b 4
def i1 := findCond b 1
def i1t := thenOf i1
def i1e := elseOf i1
def r5 := findReg b 5
def r3 := findReg b 3
def r6 := findReg b 6
theorem b_eq : den prog ann 73 (.code b :: K) s = den prog ann 73 (.code r0 :: .code r1 :: .code k0 :: .code r6 :: .code .ret :: K) s := den_flat hf (l := [r0, r1, k0, r6, .ret]) (by kernel_rfl) K s
theorem r0_eq : den prog ann 73 (.code r0 :: K) s = mreg prog ann 73 none [] none [] [qA 2 frozenPtr 0,qF 4 fun s => some (.int .i64 0)] K s := (den_reg hf _ K s).trans (by kernel_rfl)
theorem r1_eq : den prog ann 73 (.code r1 :: K) s = mreg prog ann 73 none [] none [] [qF 5 fun s => some (.int .i64 0)] K s := (den_reg hf _ K s).trans (by kernel_rfl)
theorem k0_eq (K : List Item) (t : List (Nat × AV)) (m : Mem) : den prog ann 73 (.code k0 :: K) ⟨t, 21, m⟩ = L0 (get t 1) (get t 2) (get t 5) m K := den_loop_enter hf (b := l0) (id := 2) (l := [1, 2, 5]) (by kernel_rfl) (by kernel_rfl) (by kernel_rfl) K _
theorem l0_eq (K : List Item) (t : List (Nat × AV)) (m : Mem) : den prog ann 73 (.inLoop l0 :: .inBlock 0 :: K) ⟨t, 21, m⟩ = L0 (get t 1) (get t 2) (get t 5) m K := den_loop_again hf (id := 2) (l := [1, 2, 5]) (by kernel_rfl) (by kernel_rfl) (.inBlock 0 :: K) _
theorem L0_eq (x1 x2 x5 : AV) (m : Mem) (K : List Item) : L0 x1 x2 x5 m K = den prog ann 73 (.code r2 :: .code i0 :: .code k1 :: .code r3 :: .inLoop l0 :: .inBlock 0 :: K) ⟨[(1, x1), (2, x2), (5, x5)], 21, m⟩ := den_flat hf (l := [r2, i0, k1, r3]) (by kernel_rfl) _ _
theorem r2_eq : den prog ann 73 (.code r2 :: K) s = mreg prog ann 73 (some [1, 2, 5]) [] none [] [qC 6 5,qA 7 (fieldA 0) 2,qA 8 (loadF false 1) 7,qA 9 lenSl 8,qB 10 (binA prog .lss 3) 6 9] K s := (den_reg hf _ K s).trans (by kernel_rfl)
theorem i0_eq : den prog ann 73 (.code i0 :: K) s = ifV prog ann 73 10 i0t i0e K s (s.get 10) := den_if hf (by kernel_rfl) K s
theorem i0t_eq : den prog ann 73 (.code i0t :: K) s = den prog ann 73 (K) s := den_flat hf (l := []) (by kernel_rfl) K s
theorem i0e_eq : den prog ann 73 (.code i0e :: K) s = den prog ann 73 (.code (.exit 0) :: K) s := den_flat hf (l := [(.exit 0)]) (by kernel_rfl) K s
theorem k1_eq : den prog ann 73 (.code k1 :: K) s = den prog ann 73 (.code r4 :: .code i1 :: .inBlock 1 :: K) s := den_blk hf (b := blkOf k1) (l := [r4, i1]) (by kernel_rfl) (by kernel_rfl) K s
theorem r4_eq : den prog ann 73 (.code r4 :: K) s = mreg prog ann 73 none [] none [] [qA 13 (fieldA 0) 2,qA 14 (loadF false 1) 13,qC 15 5,qB 16 (idxSl 1) 14 15,qA 17 (loadF false 1) 16,qC 18 1,qB 19 (binA prog .eql 9) 17 18] K s := (den_reg hf _ K s).trans (by kernel_rfl)
theorem i1_eq : den prog ann 73 (.code i1 :: K) s = ifV prog ann 73 19 i1t i1e K s (s.get 19) := den_if hf (by kernel_rfl) K s
theorem i1t_eq : den prog ann 73 (.code i1t :: K) s = den prog ann 73 (.code r5 :: .code .ret :: K) s := den_flat hf (l := [r5, .ret]) (by kernel_rfl) K s
theorem r5_eq : den prog ann 73 (.code r5 :: K) s = mreg prog ann 73 none [] none [] [qC 20 5,qC 4 20] K s := (den_reg hf _ K s).trans (by kernel_rfl)
theorem i1e_eq : den prog ann 73 (.code i1e :: K) s = den prog ann 73 (K) s := den_flat hf (l := []) (by kernel_rfl) K s
theorem r3_eq : den prog ann 73 (.code r3 :: K) s = mreg prog ann 73 (some [1, 2, 5]) [] none [] [qC 11 5,qF 12 fun s => binA prog .add 3 (s.get 11) (.int .i64 1),qC 5 12] K s := (den_reg hf _ K s).trans (by kernel_rfl)
theorem r6_eq : den prog ann 73 (.code r6 :: K) s = mreg prog ann 73 (some []) [] none [] [qF 4 fun s => some (.int .i64 (-1))] K s := (den_reg hf _ K s).trans (by kernel_rfl)
theorem ret_eq : den prog ann 73 (.code .ret :: K) s = finM true [fun s => some (s.get 4)] s := (den_ret hf K s).trans (by kernel_rfl)
theorem nil_eq (s : St) : den prog ann 73 [] s = finM true [fun s => some (s.get 4)] s := (den_nil hf s).trans (by kernel_rfl)
theorem inBlock_eq (id : Nat) (K : List Item) (s : St) : den prog ann 73 (.inBlock id :: K) s = den prog ann 73 K s := den_inBlock hf id K s
theorem exit_eq (id : Nat) (K : List Item) (s : St) : den prog ann 73 (.code (.exit id) :: K) s = exitV prog ann 73 (exitTo id K) s := den_exitV hf id K s
theorem call_eq (v0 v1 : AV) (m : Mem) (h : closedL [v0, v1] = true) : denC prog ann 73 [v0, v1] m = (den prog ann 73 [.code b] ⟨[(0, v0), (1, v1)], 21, Mem.empty⟩).bind fun r => some (r.1, m) := (denC_pure hf (b := b) (by kernel_rfl) (by kernel_rfl) (by kernel_rfl) h m).trans (by kernel_rfl)
theorem pure_eq : (ann 73).pure = true := by kernel_rfl
attribute [simp] b_eq r0_eq r1_eq k0_eq l0_eq r2_eq i0_eq i0t_eq i0e_eq k1_eq r4_eq i1_eq i1t_eq r5_eq i1e_eq r3_eq r6_eq ret_eq nil_eq inBlock_eq exit_eq pure_eq
end
end r07_Monoid_Find
namespace r07_Monoid_Times
noncomputable section
variable (K : List Item) (s : St)
def b : Code := (Try.f74.body).getD .skip
theorem hf : prog.funcs[74]? = some Try.f74 := by kernel_rfl
def r0 := findReg b 0
def r1 := findReg b 1
def r2 := findReg b 2
def k0 := findBlk b 0
def l0 := loopOf k0
def L0 (x1 x2 x3 x7 x8 : AV) (m : Mem) (K : List Item) : Option Res := den prog ann 74 (.code l0 :: .inLoop l0 :: .inBlock 0 :: K) ⟨[(1, x1), (2, x2), (3, x3), (7, x7), (8, x8)], 40, m⟩
def r3 := findReg b 3
def i0 := findCond b 0
def i0t := thenOf i0
def i0e := elseOf i0
def k1 := findBlk b 1
def r5 := findReg b 5
def r4 := findReg b 4
def r6 := findReg b 6
theorem b_eq : den prog ann 74 (.code b :: K) s = den prog ann 74 (.code r0 :: .code r1 :: .code r2 :: .code k0 :: .code r6 :: .code .ret :: K) s := den_flat hf (l := [r0, r1, r2, k0, r6, .ret]) (by kernel_rfl) K s
theorem r0_eq : den prog ann 74 (.code r0 :: K) s = mreg prog ann 74 none [] none [] [qA 3 frozenPtr 0,qF 6 fun s => some (.int .i64 0)] K s := (den_reg hf _ K s).trans (by kernel_rfl)
theorem r1_eq : den prog ann 74 (.code r1 :: K) s = mreg prog ann 74 none [] none [] [⟨some 9, none, .w false none fun s => bslM s.m 0 (bslA 1 0 [.int .u8 0] [])⟩,qC 7 9] K s := (den_reg hf _ K s).trans (by kernel_rfl)
theorem r2_eq : den prog ann 74 (.code r2 :: K) s = mreg prog ann 74 none [] none [] [qF 8 fun s => some (.int .i64 0)] K s := (den_reg hf _ K s).trans (by kernel_rfl)
theorem k0_eq (K : List Item) (t : List (Nat × AV)) (m : Mem) : den prog ann 74 (.code k0 :: K) ⟨t, 40, m⟩ = L0 (get t 1) (get t 2) (get t 3) (get t 7) (get t 8) m K := den_loop_enter hf (b := l0) (id := 3) (l := [1, 2, 3, 7, 8]) (by kernel_rfl) (by kernel_rfl) (by kernel_rfl) K _
theorem l0_eq (K : List Item) (t : List (Nat × AV)) (m : Mem) : den prog ann 74 (.inLoop l0 :: .inBlock 0 :: K) ⟨t, 40, m⟩ = L0 (get t 1) (get t 2) (get t 3) (get t 7) (get t 8) m K := den_loop_again hf (id := 3) (l := [1, 2, 3, 7, 8]) (by kernel_rfl) (by kernel_rfl) (.inBlock 0 :: K) _
theorem L0_eq (x1 x2 x3 x7 x8 : AV) (m : Mem) (K : List Item) : L0 x1 x2 x3 x7 x8 m K = den prog ann 74 (.code r3 :: .code i0 :: .code k1 :: .code r4 :: .inLoop l0 :: .inBlock 0 :: K) ⟨[(1, x1), (2, x2), (3, x3), (7, x7), (8, x8)], 40, m⟩ := den_flat hf (l := [r3, i0, k1, r4]) (by kernel_rfl) _ _
theorem r3_eq : den prog ann 74 (.code r3 :: K) s = mreg prog ann 74 (some [1, 2, 3, 7, 8]) [] none [] [qC 10 8,qA 11 (fieldA 0) 3,qA 12 (loadF false 1) 11,qC 13 1,qB 14 (idxSl 1) 12 13,qA 15 (loadF false 1) 14,qA 16 lenStr 15,qB 17 (binA prog .lss 3) 10 16] K s := (den_reg hf _ K s).trans (by kernel_rfl)
theorem i0_eq : den prog ann 74 (.code i0 :: K) s = ifV prog ann 74 17 i0t i0e K s (s.get 17) := den_if hf (by kernel_rfl) K s
theorem i0t_eq : den prog ann 74 (.code i0t :: K) s = den prog ann 74 (K) s := den_flat hf (l := []) (by kernel_rfl) K s
theorem i0e_eq : den prog ann 74 (.code i0e :: K) s = den prog ann 74 (.code (.exit 0) :: K) s := den_flat hf (l := [(.exit 0)]) (by kernel_rfl) K s
theorem k1_eq : den prog ann 74 (.code k1 :: K) s = den prog ann 74 (.code r5 :: .inBlock 1 :: K) s := den_blk hf (b := blkOf k1) (l := [r5]) (by kernel_rfl) (by kernel_rfl) K s
theorem r5_draw : drawOk (fun g => (ann g).pure) (modeOf (ann 74) (idOf r5)) (frzOf (ann 74) (idOf r5)) (opsOf r5) = true := drawOk_of (an := [0, 0, 2, 0, 14, 30, 0, 64, 0, 448, 960, 0, 4032, 8190, 16382, 32767, 65535]) (by kernel_rfl) (by kernel_rfl)
theorem r5_eq : den prog ann 74 (.code r5 :: K) s = mreg prog ann 74 none [] (some 17) [] [qC 20 7,qA 21 (fieldA 0) 3,qA 22 (loadF false 1) 21,qC 23 2,qB 24 (idxSl 1) 22 23,qA 25 (loadF false 1) 24,qA 26 (fieldA 0) 3,qA 27 (loadF false 1) 26,qC 28 1,qB 29 (idxSl 1) 27 28,qA 30 (loadF false 1) 29,qC 31 8,qB 32 idxStr 30 31,qB 33 idxStr 25 32,qF 34 fun s => bslF 1 (bslA 1 1 [.int .u8 0] [(0, (s.get 33))]),⟨some 35, none, .w false (some 15) fun s => appendA 1 1 s.m (s.get 20) (s.get 34)⟩,qC 7 35] K s := (den_regD hf r5_draw K s).trans (by kernel_rfl)
theorem r4_eq : den prog ann 74 (.code r4 :: K) s = mreg prog ann 74 (some [1, 2, 3, 7, 8]) [] none [] [qC 18 8,qF 19 fun s => binA prog .add 3 (s.get 18) (.int .i64 1),qC 8 19] K s := (den_reg hf _ K s).trans (by kernel_rfl)
theorem r6_eq : den prog ann 74 (.code r6 :: K) s = mreg prog ann 74 (some [3, 7]) [] none [] [qA 36 (loadF true 2) 3,qC 37 7,qF 38 fun s => convStr s.m (s.get 37),⟨some 39, none, .c 0 (fun s => (.fn 73 [] [])) fun s => [(s.get 36), (s.get 38)]⟩,qC 6 39] K s := (den_reg hf _ K s).trans (by kernel_rfl)
theorem ret_eq : den prog ann 74 (.code .ret :: K) s = finM true [fun s => some (s.get 6)] s := (den_ret hf K s).trans (by kernel_rfl)
theorem nil_eq (s : St) : den prog ann 74 [] s = finM true [fun s => some (s.get 6)] s := (den_nil hf s).trans (by kernel_rfl)
theorem inBlock_eq (id : Nat) (K : List Item) (s : St) : den prog ann 74 (.inBlock id :: K) s = den prog ann 74 K s := den_inBlock hf id K s
theorem exit_eq (id : Nat) (K : List Item) (s : St) : den prog ann 74 (.code (.exit id) :: K) s = exitV prog ann 74 (exitTo id K) s := den_exitV hf id K s
theorem call_eq (v0 v1 v2 : AV) (m : Mem) (h : closedL [v0, v1, v2] = true) : denC prog ann 74 [v0, v1, v2] m = (den prog ann 74 [.code b] ⟨[(0, v0), (1, v1), (2, v2)], 40, Mem.empty⟩).bind fun r => some (r.1, m) := (denC_pure hf (b := b) (by kernel_rfl) (by kernel_rfl) (by kernel_rfl) h m).trans (by kernel_rfl)
theorem pure_eq : (ann 74).pure = true := by kernel_rfl
attribute [simp] b_eq r0_eq r1_eq r2_eq k0_eq l0_eq r3_eq i0_eq i0t_eq i0e_eq k1_eq r5_eq r4_eq r6_eq ret_eq nil_eq inBlock_eq exit_eq pure_eq
end
end r07_Monoid_Times
end Go.Proofs.Ythnpflkpjimkfaa

/-
  WHAT WORDS DO, AS STRINGS OF STATES: the specification's. Conditions: none.
-/
namespace Go.Proofs.Ythnpflkpjimkfaa
open Go.AM
open Go.Proofs.Try (prog)
set_option linter.all false
set_option maxRecDepth 100000
set_option maxHeartbeats 8000000
def bysV (l : List UInt8) : List AV := l.map fun b => .int .u8 (b.toNat : Nat)
theorem bytesOf_bys : ∀ l : List UInt8, bytesOf (bysV l) = some l
  | [] => rfl
  | a :: l => by
    have ih := bytesOf_bys l
    simp only [bysV] at ih
    simp [bysV, bytesOf, ih]
@[simp] theorem bysV_len (l : List UInt8) : (bysV l).length = l.length := by simp [bysV]
theorem bysV_app (l : List UInt8) (x : UInt8) : bysV l ++ [.int .u8 (x.toNat : Nat)] = bysV (l ++ [x]) := by simp [bysV]
def doF (f : Nat → Nat) (c : Nat) : List UInt8 := (List.range c).map fun s => UInt8.ofNat (f s)
def doS (rows : List (List Int)) (w : List UInt8) : List UInt8 := doF (fun s => goL rows w s) rows.length
def encD (n : Nat) (t : List Nat) : List UInt8 := doF (fun s => t.getD s 0) n
@[simp] theorem doF_len (f : Nat → Nat) (c : Nat) : (doF f c).length = c := by simp [doF]
theorem doF_succ (f : Nat → Nat) (c : Nat) : doF f (c + 1) = doF f c ++ [UInt8.ofNat (f c)] := by simp [doF, List.range_succ]
theorem ofNat6 {x : Nat} (h : x < 256) : (UInt8.ofNat x).toNat = x := by simp; omega
theorem doF_cell {f : Nat → Nat} {c : Nat} (h : f c < 256) : bysV (doF f c) ++ [.int .u8 ((f c : Nat) : Int)] = bysV (doF f (c + 1)) := by
  rw [doF_succ, ← bysV_app, ofNat6 h]
theorem wrap8n {x : Nat} (h : x < 256) : IntKind.wrap .u8 (x : Int) = x := wrap8 (by omega)
theorem encD_mv6 {rows : List (List Int)} (n6 : rows.length ≤ 6) (w : List UInt8) : encD rows.length (mv6 rows w) = doS rows w := by
  rw [encD, doS, doF, doF]
  refine List.map_congr_left fun s hs => ?_
  have : s < rows.length := by simpa using hs
  rw [mv6, mvF_at (by omega) this]
theorem goL_lt6 {rows : List (List Int)} {good : List Bool} {k : Nat} (v : VB rows good k) {w : List UInt8} (hw : okW k w) {s : Nat} (hs : s < rows.length) : goL rows w s < rows.length := by
  have := goL_lt v w w.length 0 s (by omega) hs ((letF_iff k w).2 hw)
  rw [goF_goL rows w w.length 0 s (by omega)] at this
  simpa using this
theorem doF_at {f : Nat → Nat} {c s : Nat} (h : s < c) : (doF f c)[s]? = some (UInt8.ofNat (f s)) := by simp [doF, h]
theorem doS_inj {rows : List (List Int)} {good : List Bool} {k : Nat} (v : VB rows good k) {u w : List UInt8} (hu : okW k u) (hw : okW k w) (h : doS rows u = doS rows w) : mv6 rows u = mv6 rows w := by
  have n6 := v.n6
  rw [mv6, mv6, mvF, mvF]
  refine List.map_congr_left fun s hs => ?_
  by_cases q : s < rows.length
  · rw [if_pos q, if_pos q]
    have e1 : (doS rows u)[s]? = some (UInt8.ofNat (goL rows u s)) := doF_at q
    have e2 : (doS rows w)[s]? = some (UInt8.ofNat (goL rows w s)) := doF_at q
    rw [h, e2] at e1
    have e := congrArg UInt8.toNat (Option.some.inj e1)
    have a1 := goL_lt6 v hu q
    have a2 := goL_lt6 v hw q
    rw [ofNat6 (by omega), ofNat6 (by omega)] at e
    exact e.symm
  · rw [if_neg q, if_neg q]
theorem nothing_loop {n : Nat} (n6 : n ≤ 6) : ∀ (c s nx0 : Nat) (h : Nat → Option AObj), s + c = n → h 0 = some (.cells (bysV (doF (fun s => s) s))) →
    r07_nothing.L0 (.int .i64 n) (.sl 0 1 0 s s) (.int .i64 s) ⟨h, nx0⟩ [.code r07_nothing.r6, .code .ret] = some (.str (doF (fun s => s) n), Mem.empty) := by
  intro c
  induction c with
  | zero =>
    intro s nx0 h h1 h0
    have e : s = n := by omega
    subst e
    have tk : (bysV (doF (fun s => s) s)).take s = bysV (doF (fun s => s) s) := List.take_of_length_le (by simp)
    rw [r07_nothing.L0_eq]
    simp [convStr, srcA, h0, tk, bytesOf_bys]
    done
  | succ c ih =>
    intro s nx0 h h1 h0
    have hs : s < n := by omega
    have hws : IntKind.wrap .i64 ((s : Int) + 1) = (s : Int) + 1 := wrap_id (by omega) (by omega)
    have hw8 := wrap8n (x := s) (by omega)
    have hc := doF_cell (f := fun s => s) (c := s) (by omega)
    have st := ih (s + 1) nx0 (upd h 0 (some (.cells (bysV (doF (fun s => s) (s + 1)))))) (by omega) (by simp)
    simp only [Int.natCast_add, Int.cast_ofNat_Int] at st
    rw [r07_nothing.L0_eq]
    simp [hs, hw8, h0, hc, hws, show s ≤ 4611686018427387903 by omega, show s + 1 ≤ 70368744177664 by omega, st]
    done
theorem nothing_spec {n : Nat} (n6 : n ≤ 6) (m : Mem) : denC prog ann 72 [.int .i64 (n : Int)] m = some (.str (doF (fun s => s) n), m) := by
  rw [r07_nothing.call_eq _ _ (by simp)]
  have lp := nothing_loop n6 n 0 1 (upd Mem.empty.h 0 (some (.cells []))) (by omega) (by simp [doF, bysV])
  simp only [Int.ofNat_zero, Int.cast_ofNat_Int] at lp
  simp [lp]
  done
def fndI (L : List (List UInt8)) (s : List UInt8) : Int := if s ∈ L then ((L.idxOf s : Nat) : Int) else -1
theorem find_loop {ex : Bool} {wv : AV} {L : List (List UInt8)} {s : List UInt8} (hl : L.length ≤ 1000) : ∀ (c j : Nat) (m : Mem), j + c = L.length → (∀ i, i < j → L[i]? ≠ some s) →
    r07_Monoid_Find.L0 (.str s) (.fptr [.fsl ex L.length (L.map .str), wv]) (.int .i64 j) m [.code r07_Monoid_Find.r6, .code .ret] = some (.int .i64 (fndI L s), Mem.empty) := by
  intro c
  induction c with
  | zero =>
    intro j m h1 h0
    have e : j = L.length := by omega
    subst e
    have : s ∉ L := by
      intro hs
      obtain ⟨i, hi⟩ := List.getElem?_of_mem hs
      exact h0 i (List.getElem?_eq_some_iff.1 hi).1 hi
    rw [fndI, if_neg this, r07_Monoid_Find.L0_eq]
    simp
    done
  | succ c ih =>
    intro j m h1 h0
    have hj : j < L.length := by omega
    have hwj : IntKind.wrap .i64 ((j : Int) + 1) = (j : Int) + 1 := wrap_id (by omega) (by omega)
    have hx := List.getElem?_eq_getElem hj
    generalize L[j] = x at hx
    have hd : ((L.map AV.str).drop j).head? = some (.str x) := by rw [List.head?_drop, List.getElem?_map, hx]; rfl
    by_cases q : x = s
    · subst q
      have hm := List.mem_of_getElem? hx
      have hi : L.idxOf x = j := by
        have h2 : L.idxOf x < L.length := List.idxOf_lt_length_iff.2 hm
        have h3 : L[L.idxOf x]? = some x := by rw [List.getElem?_eq_getElem h2]; simp
        rcases Nat.lt_trichotomy (L.idxOf x) j with c | c | c
        · exact absurd h3 (h0 _ c)
        · exact c
        · exfalso
          have e := (List.getElem?_eq_some_iff.1 hx).2
          have := List.not_of_lt_findIdx (xs := L) (p := (· == x)) (i := j) (by simpa [List.idxOf] using c)
          simp [e] at this
      rw [fndI, if_pos hm, hi, r07_Monoid_Find.L0_eq]
      simp [hj, hd, -List.head?_drop, -List.map_drop]
      done
    · have st := fun m => ih (j + 1) m (by omega) (fun i hi => by
        by_cases e : i = j
        · subst e; rw [hx]; intro e; exact q (Option.some.inj e)
        · exact h0 i (by omega))
      simp only [Int.natCast_add, Int.cast_ofNat_Int] at st
      rw [r07_Monoid_Find.L0_eq]
      simp [hj, hd, q, hwj, st, -List.head?_drop, -List.map_drop]
      done
theorem find_spec' {ex : Bool} {wv : AV} (hw1 : wv.one = true) (hwc : wv.closed = true) {L : List (List UInt8)} {s : List UInt8} (hl : L.length ≤ 1000) (m : Mem) :
    denC prog ann 73 [.agg [.fsl ex L.length (L.map .str), wv], .str s] m = some (.int .i64 (fndI L s), m) := by
  have lp := fun m => find_loop (ex := ex) (wv := wv) (s := s) hl L.length 0 m (by omega) (by omega)
  simp only [Int.ofNat_zero, Int.cast_ofNat_Int] at lp
  rw [r07_Monoid_Find.call_eq _ _ _ (by simp [hwc])]
  simp [hwc, hw1, lp]
  done
end Go.Proofs.Ythnpflkpjimkfaa

/-
  ALL ELEMENTS OF A MONOID: the specification's search. Conditions: none.
-/
namespace Go.Proofs.Ythnpflkpjimkfaa
open Go.AM
open Go.Proofs.Try (prog)
set_option linter.all false
set_option maxRecDepth 100000
set_option maxHeartbeats 8000000
def bInE (rows : List (List Int)) (x : List Nat) (w : List UInt8) : Nat → Nat → SM → SM × Bool
  | 0, _, S => (S, true)
  | c + 1, a, S => if nxM rows x a ∈ S.1 then bInE rows x w c (a + 1) S else if S.1.length = 400 then ((S.1 ++ [nxM rows x a], S.2 ++ [extL w a]), false) else bInE rows x w c (a + 1) (S.1 ++ [nxM rows x a], S.2 ++ [extL w a])
def bfsE (rows : List (List Int)) (k : Nat) : Nat → Nat → SM → SM × Bool
  | 0, _, S => (S, true)
  | f + 1, i, S => match S.1[i]?, S.2[i]? with
    | some x, some w => if (bInE rows x w k 0 S).2 = true then bfsE rows k f (i + 1) (bInE rows x w k 0 S).1 else ((bInE rows x w k 0 S).1, false)
    | _, _ => (S, true)
theorem bInE_M (rows : List (List Int)) (x : List Nat) (w : List UInt8) : ∀ (c a : Nat) (S : SM), bInM rows x w c a S = if (bInE rows x w c a S).2 = true then some (bInE rows x w c a S).1 else none
  | 0, a, S => rfl
  | c + 1, a, S => by
    rw [bInM, bInE]
    split
    · exact bInE_M rows x w c (a + 1) S
    · split
      · rfl
      · exact bInE_M rows x w c (a + 1) _
theorem bfsE_M (rows : List (List Int)) (k : Nat) : ∀ (f i : Nat) (S : SM), bfsM rows k f i S = if (bfsE rows k f i S).2 = true then some (bfsE rows k f i S).1 else none
  | 0, i, S => rfl
  | f + 1, i, S => by
    rw [bfsM, bfsE]
    cases h1 : S.1[i]? with
    | none => rfl
    | some x =>
      cases h2 : S.2[i]? with
      | none => rfl
      | some w =>
        simp only []
        rw [bInE_M]
        by_cases q : (bInE rows x w k 0 S).2 = true
        · rw [if_pos q, if_pos q, Option.bind_some]; exact bfsE_M rows k f (i + 1) _
        · rw [if_neg q, if_neg q]; rfl
def tat (x : List Nat) (s : Nat) : Nat := x.getD s 0
structure Dw (h : Nat → Option AObj) (M : Nat) (dv wv : AV) (n : Nat) (S : SM) (lo hi : Nat) : Prop where
  o : h M = some (.cells [dv, wv])
  d : Nf h dv ((S.1.map (encD n)).map .str) lo hi
  w : Nf h wv (S.2.map .str) lo hi
  dj : ∀ y, objId dv = some y → objId wv ≠ some y
  z : h 0 = some (.cells [.nils, .nils])
  mo : M < lo ∧ 0 < M
  x : isF dv = decide (S.2.length = 1) ∧ isF wv = decide (S.2.length = 1)
theorem of_row {nv gv : AV} {ps : List AV} {rows : List (List Int)} {good : List Bool} {k : Nat} (hn : IsRows nv ps rows) (v : VB rows good k) {M lo i a : Nat} {x : List Nat} (hx : ∀ s, s < rows.length → tat x s < rows.length) (ha : a < k) {x2 dv wv : AV} {S : SM} (hS : S.1[i]? = some x) {R : Nat} (hR : lo ≤ R) {r : Option Res} {K : List Item} :
    ∀ (c s : Nat) (h : Nat → Option AObj) (nx0 : Nat), s + c = rows.length → Dw h M dv wv rows.length S lo R → h R = some (.cells (bysV (doF (fun s => nx rows (tat x s) a) s))) → R < nx0 →
    (∀ h' nx', Dw h' M dv wv rows.length S lo R → h' R = some (.cells (bysV (doF (fun s => nx rows (tat x s) a) rows.length))) → nx0 ≤ nx' →
      r07_Of.L4 (.fptr [nv, gv]) x2 (.ptr M 0 2) (.int .i64 i) (.int .i64 a) (.sl R 1 0 rows.length rows.length) (.int .i64 rows.length) ⟨h', nx'⟩ K = r) →
    r07_Of.L4 (.fptr [nv, gv]) x2 (.ptr M 0 2) (.int .i64 i) (.int .i64 a) (.sl R 1 0 s s) (.int .i64 s) ⟨h, nx0⟩ K = r := by
  intro c
  have n6 := v.n6
  induction c with
  | zero =>
    intro s h nx0 h1 D h0 hn0 hk
    have e : s = rows.length := by omega
    subst e
    exact hk h nx0 D h0 (Nat.le_refl _)
  | succ c ih =>
    intro s h nx0 h1 D h0 hn0 hk
    have hs : s < rows.length := by omega
    have hws : IntKind.wrap .i64 ((s : Int) + 1) = (s : Int) + 1 := wrap_id (by omega) (by omega)
    have hxs := hx s hs
    obtain ⟨c1, c2⟩ := nx_lt v hxs ha
    have b := v.rl _ hxs
    have iw := hn.row _ hxs
    have d1 := iw.idx (i := a) (by omega) .i64
    have e1 := ints_head (l := cth rows (tat x s)) (i := a) (by omega)
    rw [c2] at e1
    have hw8 := wrap8n (x := nx rows (tat x s) a) (by omega)
    have hc := doF_cell (f := fun s => nx rows (tat x s) a) (c := s) (by omega)
    have hil := (List.getElem?_eq_some_iff.1 hS).1
    obtain ⟨p, hp1, hp2, _⟩ := D.d.at (i := i) (by simpa using hil)
    have hs2 : ((S.1.map (encD rows.length)).map AV.str)[i]? = some (.str (encD rows.length x)) := by simp [hS]
    rw [hs2] at hp2
    have hst : idxStr (.str (encD rows.length x)) (.int .i64 (s : Int)) = some (.int .u8 (tat x s : Nat)) := by
      have : (encD rows.length x)[s]? = some (UInt8.ofNat (tat x s)) := doF_at hs
      have h6 : (UInt8.ofNat (tat x s)).toNat = tat x s := ofNat6 (by omega)
      have hl : (encD rows.length x).length = rows.length := by simp [encD]
      rw [idxStr_str, hl]
      simp only [Int.toNat_natCast, this, Option.map_some, h6]
      simp [inR, hs]
    have hM : h M = some (.cells [dv, wv]) := D.o
    have hlo := D.mo
    have D2 : Dw (upd h R (some (.cells (bysV (doF (fun s => nx rows (tat x s) a) (s + 1)))))) M dv wv rows.length S lo R := ⟨by rw [updNe (by omega)]; exact hM, D.d.fr (fun y y1 y2 _ => updNe (by omega)) (Nat.le_refl _), D.w.fr (fun y y1 y2 _ => updNe (by omega)) (Nat.le_refl _), D.dj, by rw [updNe (by omega)]; exact D.z, D.mo, D.x⟩
    have st := ih (s + 1) (upd h R (some (.cells (bysV (doF (fun s => nx rows (tat x s) a) (s + 1)))))) (nx0 + 19) (by omega) D2 (by simp) (by omega) (fun h' nx' g1 g2 g3 => hk h' nx' g1 g2 (by omega))
    simp only [Int.natCast_add, Int.cast_ofNat_Int] at st
    rw [r07_Of.L4_eq]
    simp [hn.len, hs, hM, hp1, hp2, hst, hn.idx hxs, hn.head hxs, d1, e1, hw8, h0, hc, hws, show s ≤ 4611686018427387903 by omega, show s + 1 ≤ 70368744177664 by omega, st, -idxStr_str]
    done
theorem Dw.clo {h : Nat → Option AObj} {M n lo hi : Nat} {dv wv : AV} {S : SM} (D : Dw h M dv wv n S lo hi) (hl : S.1.length ≤ 1000) (s : List UInt8) :
    (dv.closed = true ∧ wv.closed = true ∧ ∀ m, denC prog ann 73 [.agg [dv, wv], .str s] m = some (.int .i64 (fndI (S.1.map (encD n)) s), m)) ∨ (dv.closed = false ∧ wv.closed = false ∧ ∀ m : Mem, m = m) := by
  have x1 := D.x.1
  have x2 := D.x.2
  rcases D.d with h1 | ⟨R1, h1, _⟩ <;> rcases D.w with h2 | ⟨R2, h2, _⟩
  · subst h1; subst h2
    refine .inl ⟨rfl, rfl, fun m => ?_⟩
    have := find_spec' (ex := true) (wv := .fsl true (S.2.map AV.str).length (S.2.map .str)) rfl rfl (L := S.1.map (encD n)) (s := s) (by simpa using hl) m
    simpa using this
  · subst h1; subst h2
    simp only [isF] at x1 x2
    rw [← x1] at x2; cases x2
  · subst h1; subst h2
    simp only [isF] at x1 x2
    rw [← x1] at x2; cases x2
  · subst h1; subst h2
    exact .inr ⟨rfl, rfl, fun _ => rfl⟩
def ofV (n : Nat) (S : SM) : AV := .agg [.fsl (decide (S.2.length = 1)) S.1.length ((S.1.map (encD n)).map .str), .fsl (decide (S.2.length = 1)) S.2.length (S.2.map .str)]
def ofR (n : Nat) (P : SM × Bool) : AV := .tup [ofV n P.1, .bool P.2]
noncomputable def KO0 : List Item := [.code r07_Of.r17, .code .ret]
noncomputable def KO2 : List Item := .inBlock 1 :: .code r07_Of.r4 :: .inLoop r07_Of.l0 :: .inBlock 0 :: KO0
noncomputable def KO4 : List Item := .code r07_Of.r13 :: .code r07_Of.i3 :: .inBlock 3 :: .code r07_Of.r7 :: .inLoop r07_Of.l2 :: .inBlock 2 :: KO2
theorem frz_64_69 (s : St) : frz1 s 3064069 = bif ap (objId (s.get 64)) (objId (s.get 69)) then some s else none := by rw [← ap_eq]; rfl
theorem frz_67 (s : St) : frz1 s 2000067 = bif nsl (s.get 67) then some s else none := rfl
theorem frz_64_71 (s : St) : frz1 s 3064071 = bif ap (objId (s.get 64)) (objId (s.get 71)) then some s else none := by rw [← ap_eq]; rfl
theorem frz_64_74 (s : St) : frz1 s 3064074 = bif ap (objId (s.get 64)) (objId (s.get 74)) then some s else none := by rw [← ap_eq]; rfl
theorem flat_int (k : IntKind) (n : Int) : (AV.int k n).flat = true := rfl
theorem ap_ne {x z : Option Nat} (h : ∀ y, x = some y → z ≠ some y) : ap x z = true := by
  cases x with
  | none => rfl
  | some a =>
    cases z with
    | none => rfl
    | some b =>
      have : (a == b) = false := beq_eq_false_iff_ne.2 (fun e => h a rfl (by rw [e]))
      simp [ap, this]
theorem of_in {nv gv : AV} {ps : List AV} {rows : List (List Int)} {good : List Bool} {k : Nat} (hn : IsRows nv ps rows) (v : VB rows good k) {M lo i : Nat} {w : List UInt8} {r : Option Res} :
    ∀ (c a : Nat) (h : Nat → Option AObj) (nx0 : Nat) (dv wv : AV) (S : SM), a + c = k → Dw h M dv wv rows.length S lo nx0 → lo ≤ nx0 → MOk rows k S → S.2[i]? = some w → i < 400 →
    ((bInE rows (mv6 rows w) w c a S).2 = true → ∀ h' nx' dv' wv', Dw h' M dv' wv' rows.length (bInE rows (mv6 rows w) w c a S).1 lo nx' → lo ≤ nx' → r07_Of.L0 (.fptr [nv, gv]) (.ptr 0 0 2) (.ptr M 0 2) (.int .i64 ((i : Int) + 1)) ⟨h', nx'⟩ KO0 = r) →
    ((bInE rows (mv6 rows w) w c a S).2 = false → r = some (ofR rows.length ((bInE rows (mv6 rows w) w c a S).1, false), Mem.empty)) →
    r07_Of.L2 (.fptr [nv, gv]) (.ptr 0 0 2) (.ptr M 0 2) (.int .i64 i) (.int .i64 a) ⟨h, nx0⟩ KO2 = r := by
  intro c
  have n6 := v.n6
  have k3 := v.k3
  have i0 := hn.idx (i := 0) v.n1 .i64
  have j0 := hn.head (i := 0) v.n1
  have iw0 := hn.row 0 v.n1
  have r0 := v.rl 0 v.n1
  simp only [Int.ofNat_zero, Int.cast_ofNat_Int, List.drop_zero] at i0 j0
  induction c with
  | zero =>
    intro a h nx0 dv wv S h1 D hlo hS hw hi hk hf
    have e : a = k := by omega
    subst e
    have hwi : IntKind.wrap .i64 ((i : Int) + 1) = (i : Int) + 1 := wrap_id (by omega) (by omega)
    have hk := hk rfl h nx0 dv wv D hlo
    rw [r07_Of.L2_eq]
    simp [KO2, i0, j0, iw0.len, r0, hwi]
    exact hk
  | succ c ih =>
    intro a h nx0 dv wv S h1 D hlo hS hw hi hk hf
    have ha : a < k := by omega
    have hwa : IntKind.wrap .i64 ((a : Int) + 1) = (a : Int) + 1 := wrap_id (by omega) (by omega)
    have hi2 := (List.getElem?_eq_some_iff.1 hw).1
    have hwm := List.mem_of_getElem? hw
    have hle := hS.le
    have hlen := hS.len
    have hok := hS.ok w hwm
    have hS1 : S.1[i]? = some (mv6 rows w) := by rw [hS.eq, List.getElem?_map, hw]; rfl
    have hx : ∀ s, s < rows.length → tat (mv6 rows w) s < rows.length := fun s hs => by
      have : tat (mv6 rows w) s = goL rows w s := by rw [tat, mv6, mvF_at (by omega) hs]
      rw [this]; exact goL_lt6 v hok.1 hs
    have estr : doF (fun s => nx rows (tat (mv6 rows w) s) a) rows.length = encD rows.length (nxM rows (mv6 rows w) a) := by
      rw [encD, doF, doF]
      refine List.map_congr_left fun s hs => ?_
      have hs : s < rows.length := by simpa using hs
      rw [nxM, mvF_at (by omega) hs]; rfl
    have ekey : nxM rows (mv6 rows w) a = mv6 rows (extL w a) := (mv6_ltr rows n6 w (by omega)).symm
    have hoke := okW_ext hok.1 ha k3
    have hmem : encD rows.length (nxM rows (mv6 rows w) a) ∈ S.1.map (encD rows.length) ↔ nxM rows (mv6 rows w) a ∈ S.1 := by
      constructor
      · intro q
        obtain ⟨t, ht, e⟩ := List.mem_map.1 q
        rw [hS.eq] at ht
        obtain ⟨u, hu, rfl⟩ := List.mem_map.1 ht
        rw [ekey, encD_mv6 n6, encD_mv6 n6] at e
        have := doS_inj v (hS.ok u hu).1 hoke e
        rw [ekey, ← this, hS.eq]
        exact List.mem_map.2 ⟨u, hu, rfl⟩
      · exact fun q => List.mem_map.2 ⟨_, q, rfl⟩
    have B0 : Dw (upd h nx0 (some (.cells []))) M dv wv rows.length S lo nx0 := ⟨by rw [updNe (by have := D.mo; omega)]; exact D.o, D.d.fr (fun y y1 y2 _ => updNe (by omega)) (Nat.le_refl _), D.w.fr (fun y y1 y2 _ => updNe (by omega)) (Nat.le_refl _), D.dj, by rw [updNe (by have := D.mo; omega)]; exact D.z, D.mo, D.x⟩
    rw [bInE] at hk hf
    have st := of_row (gv := gv) (x2 := .ptr 0 0 2) hn v hx ha (M := M) (lo := lo) (i := i) (dv := dv) (wv := wv) hS1 (R := nx0) hlo (r := r) (K := KO4) rows.length 0 (upd h nx0 (some (.cells []))) (nx0 + 1) (by omega) B0 (by simp [doF, bysV]) (by omega) (fun h' nx' D' hrow hnx' => by
      have hM : h' M = some (.cells [dv, wv]) := D'.o
      have mo := D'.mo
      rw [estr] at hrow
      have elen : (encD rows.length (nxM rows (mv6 rows w) a)).length = rows.length := by simp [encD]
      have tk : (bysV (encD rows.length (nxM rows (mv6 rows w) a))).take rows.length = bysV (encD rows.length (nxM rows (mv6 rows w) a)) := List.take_of_length_le (by simp [elen])
      have hd5 := D'.d.deep 4 (fun x hx => by
        simp only [List.mem_map] at hx
        obtain ⟨b, _, rfl⟩ := hx
        rfl)
      have hw5 := D'.w.deep 4 (fun x hx => by
        simp only [List.mem_map] at hx
        obtain ⟨b, _, rfl⟩ := hx
        rfl)
      have hfs := fun m => find_spec' (ex := isF dv) (wv := .fsl (isF wv) (S.2.map AV.str).length (S.2.map .str)) rfl rfl (L := S.1.map (encD rows.length)) (s := encD rows.length (nxM rows (mv6 rows w) a)) (by simp; omega) m
      simp only [List.length_map] at hd5 hw5 hfs
      simp only [List.map_map] at hfs
      have hcl := D'.clo (by omega) (encD rows.length (nxM rows (mv6 rows w) a))
      by_cases hc : nxM rows (mv6 rows w) a ∈ S.1
      · rw [if_pos hc] at hk hf
        have hfp : fndI (S.1.map (encD rows.length)) (encD rows.length (nxM rows (mv6 rows w) a)) = (((S.1.map (encD rows.length)).idxOf (encD rows.length (nxM rows (mv6 rows w) a)) : Nat) : Int) := if_pos (hmem.2 hc)
        rw [hfp] at hfs hcl
        generalize (S.1.map (encD rows.length)).idxOf (encD rows.length (nxM rows (mv6 rows w) a)) = ix at hfs hcl
        have hix : ¬ ((ix : Nat) : Int) < 0 := by omega
        have st := ih (a + 1) h' nx' dv wv S (by omega) ⟨D'.o, D'.d.fr (fun _ _ _ _ => rfl) (by omega), D'.w.fr (fun _ _ _ _ => rfl) (by omega), D'.dj, D'.z, D'.mo, D'.x⟩ (by omega) hS hw hi hk hf
        simp only [Int.natCast_add, Int.cast_ofNat_Int] at st
        rw [r07_Of.L4_eq]
        rcases hcl with ⟨l1, l2, l3⟩ | ⟨l1, l2, _⟩
        · simp [KO4, hn.len, hM, D'.d.one, D'.w.one, convStr, srcA, hrow, elen, tk, bytesOf_bys, l1, l2, l3, hix, hwa]
          exact st
        · simp [KO4, hn.len, hM, D'.d.one, D'.w.one, convStr, srcA, hrow, elen, tk, bytesOf_bys, l1, l2, flat_int, hd5, hw5, hfs, hix, hwa]
          exact st
      · rw [if_neg hc] at hk hf
        have hfn : fndI (S.1.map (encD rows.length)) (encD rows.length (nxM rows (mv6 rows w) a)) = -1 := if_neg (fun q => hc (hmem.1 q))
        rw [hfn] at hfs hcl
        have hlt := fun m => rletter_spec (a := a) (by omega) m
        have hll : w.length + (ltr a).length ≤ 4611686018427387904 := by simp [ltr]; omega
        have oa := fun y e => (D'.d.oid (y := y) e)
        have og := fun y e => (D'.w.oid (y := y) e)
        obtain ⟨v1, h2, n2, g1, g2, g3, g4, g5, g6, g7⟩ := (D'.d.fr (h' := h') (hi' := nx') (fun _ _ _ _ => rfl) (by omega)).app (nx := nx' + 5) (by' := 16) (by omega) (by omega) (by simp; omega) (.str (encD rows.length (nxM rows (mv6 rows w) a)))
        have hv1 : ∀ y, objId v1 = some y → lo ≤ y ∧ (objId dv = some y ∨ y = nx' + 5) := fun y e => by
          rcases g5 y e with q | q
          · have := oa y q; exact ⟨this.1, .inl q⟩
          · exact ⟨by omega, .inr q⟩
        have ng1 : Nf h2 wv (S.2.map .str) lo nx0 := D'.w.fr (fun y y1 y2 ye => g6 y (fun e => by
          rcases g5 y e with q | q
          · exact D'.dj y q ye
          · omega)) (Nat.le_refl _)
        obtain ⟨p, hp1, hp2, hp3⟩ := ng1.at (i := i) (by simpa using hi2)
        have hs2 : (S.2.map AV.str)[i]? = some (.str w) := by simp [hw]
        rw [hs2] at hp2
        obtain ⟨v2, h3, n3, u1, u2, u3, u4, u5, u6, u7⟩ := ng1.app (nx := nx' + 17) (by' := 16) (by omega) (by omega) (by simp; omega) (.str (w ++ ltr a))
        have hv2 : ∀ y, objId v2 = some y → lo ≤ y ∧ (objId wv = some y ∨ y = nx' + 17) := fun y e => by
          rcases u5 y e with q | q
          · have := og y q; exact ⟨this.1, .inl q⟩
          · exact ⟨by omega, .inr q⟩
        have low : ∀ y, y < lo → h3 y = h' y := fun y hy => by
          rw [u6 y (fun e => by have := hv2 y e; omega), g6 y (fun e => by have := hv1 y e; omega)]
        have lo2 : ∀ y, y < lo → h2 y = h' y := fun y hy => g6 y (fun e => by have := hv1 y e; omega)
        have hM2 : h2 M = some (.cells [dv, wv]) := by rw [lo2 M mo.1]; exact hM
        have hM3 : h3 M = some (.cells [dv, wv]) := by rw [low M mo.1]; exact hM
        have h30 : h3 0 = some (.cells [.nils, .nils]) := by rw [low 0 (by omega)]; exact D'.z
        have a1 := ap_lt (z := M) (fun y e => (oa y e).1) mo.1
        have a2 : ap (objId dv) (objId p) = true := ap_ne (fun y e q => by rw [hp3] at q; exact D'.dj y e q)
        have len1 := g2.len
        simp only [List.length_append, List.length_map, List.length_singleton] at len1
        have hpos := List.length_pos_of_mem hwm
        have dj2 : ∀ y, objId v1 = some y → objId v2 ≠ some y := fun y e1 e2 => by
          rcases (hv1 y e1).2 with q | q
          · rcases (hv2 y e2).2 with q' | q'
            · exact D'.dj y q q'
            · have := oa y q; omega
          · rcases (hv2 y e2).2 with q' | q'
            · have := og y q'; omega
            · omega
        have eS1 : (S.1.map (encD rows.length)).map AV.str ++ [.str (encD rows.length (nxM rows (mv6 rows w) a))] = ((S.1 ++ [nxM rows (mv6 rows w) a]).map (encD rows.length)).map AV.str := by simp
        have eS2 : S.2.map AV.str ++ [.str (w ++ ltr a)] = (S.2 ++ [extL w a]).map AV.str := by simp [extL]
        rw [eS1] at g2
        rw [eS2] at u2
        have g2' : Nf (upd h3 M (some (.cells [v1, v2]))) v1 (((S.1 ++ [nxM rows (mv6 rows w) a]).map (encD rows.length)).map AV.str) lo (nx' + 22) := g2.fr (fun y y1 y2 ye => by rw [updNe (by omega), u6 y (dj2 y ye)]) (by omega)
        have u2' : Nf (upd h3 M (some (.cells [v1, v2]))) v2 ((S.2 ++ [extL w a]).map AV.str) lo (nx' + 22) := u2.fr (fun y y1 y2 ye => updNe (by omega)) (by omega)
        by_cases h400 : S.1.length = 400
        · rw [if_pos h400] at hf
          have hr := hf rfl
          have hgt : (400 : Int) < ((S.1.length + 1 : Nat) : Int) := by omega
          simp only [Int.natCast_add, Int.cast_ofNat_Int] at hgt
          have d1 := g2'.deep 4 (fun x hx => by
            simp only [List.mem_map] at hx
            obtain ⟨b, _, rfl⟩ := hx
            rfl)
          have d2 := u2'.deep 4 (fun x hx => by
            simp only [List.mem_map] at hx
            obtain ⟨b, _, rfl⟩ := hx
            rfl)
          have d1 := (g2'.fr (h' := upd (upd h3 M (some (.cells [v1, v2]))) 0 (some (.cells [v1, v2]))) (fun y y1 y2 _ => updNe (by omega)) (Nat.le_refl _)).deep 3 (fun x hx => by
            simp only [List.mem_map] at hx
            obtain ⟨b, _, rfl⟩ := hx
            rfl)
          have d2 := (u2'.fr (h' := upd (upd h3 M (some (.cells [v1, v2]))) 0 (some (.cells [v1, v2]))) (fun y y1 y2 _ => updNe (by omega)) (Nat.le_refl _)).deep 3 (fun x hx => by
            simp only [List.mem_map] at hx
            obtain ⟨b, _, rfl⟩ := hx
            rfl)
          have hM0 : ((0 : Nat) == M) = false := beq_eq_false_iff_ne.2 (by omega)
          have hx1 : decide ((S.2 ++ [extL w a]).length = 1) = false := decide_eq_false (by rw [List.length_append]; simp only [List.length_singleton]; omega)
          rw [hr, ofR, ofV, r07_Of.L4_eq]
          simp only [hx1, g7, u7, List.length_map] at d1 d2 ⊢
          rcases hcl with ⟨l1, l2, l3⟩ | ⟨l1, l2, _⟩
          · simp [KO4, hn.len, hM, D'.d.one, D'.w.one, convStr, srcA, hrow, elen, tk, bytesOf_bys, l1, l2, l3, g1, hM2, hM3, hp1, hp2, hlt, hll, u1, (show v1.one = true from g2.one), (show v2.one = true from u2.one), frz_64_69, frz_67, frz_64_71, frz_64_74, nsl, a1, a2, frzL, len1, hgt, hM0, h30, d1, d2]
            done
          · simp [KO4, hn.len, hM, D'.d.one, D'.w.one, convStr, srcA, hrow, elen, tk, bytesOf_bys, l1, l2, flat_int, hd5, hw5, hfs, g1, hM2, hM3, hp1, hp2, hlt, hll, u1, (show v1.one = true from g2.one), (show v2.one = true from u2.one), frz_64_69, frz_67, frz_64_71, frz_64_74, nsl, a1, a2, frzL, len1, hgt, hM0, h30, d1, d2]
            done
        · rw [if_neg h400] at hk hf
          have hgt : ¬ (400 : Int) < ((S.1.length + 1 : Nat) : Int) := by omega
          simp only [Int.natCast_add, Int.cast_ofNat_Int] at hgt
          have st := ih (a + 1) (upd h3 M (some (.cells [v1, v2]))) (nx' + 22) v1 v2 (S.1 ++ [nxM rows (mv6 rows w) a], S.2 ++ [extL w a]) (by omega)
            ⟨by simp, g2', u2', dj2, by rw [updNe (by omega)]; exact h30, D'.mo, by
              have : decide ((S.2 ++ [extL w a]).length = 1) = false := decide_eq_false (by rw [List.length_append]; simp only [List.length_singleton]; omega)
              exact ⟨by rw [g7]; exact this.symm, by rw [u7]; exact this.symm⟩⟩ (by omega)
            (hS.add n6 k3 hwm ha hc h400) (by rw [List.getElem?_append_left hi2]; exact hw) hi hk hf
          simp only [Int.natCast_add, Int.cast_ofNat_Int] at st
          rw [r07_Of.L4_eq]
          rcases hcl with ⟨l1, l2, l3⟩ | ⟨l1, l2, _⟩
          · simp [KO4, hn.len, hM, D'.d.one, D'.w.one, convStr, srcA, hrow, elen, tk, bytesOf_bys, l1, l2, l3, g1, hM2, hM3, hp1, hp2, hlt, hll, u1, (show v1.one = true from g2.one), (show v2.one = true from u2.one), frz_64_69, frz_67, frz_64_71, frz_64_74, nsl, a1, a2, frzL, len1, hgt, hwa]
            exact st
          · simp [KO4, hn.len, hM, D'.d.one, D'.w.one, convStr, srcA, hrow, elen, tk, bytesOf_bys, l1, l2, flat_int, hd5, hw5, hfs, g1, hM2, hM3, hp1, hp2, hlt, hll, u1, (show v1.one = true from g2.one), (show v2.one = true from u2.one), frz_64_69, frz_67, frz_64_71, frz_64_74, nsl, a1, a2, frzL, len1, hgt, hwa]
            exact st)
    simp only [Int.ofNat_zero, Int.cast_ofNat_Int, KO4] at st
    rw [r07_Of.L2_eq]
    simp [i0, j0, iw0.len, r0, ha]
    exact st
theorem of_out {nv gv : AV} {ps : List AV} {rows : List (List Int)} {good : List Bool} {k : Nat} (hn : IsRows nv ps rows) (v : VB rows good k) {M lo : Nat} :
    ∀ (f i : Nat) (h : Nat → Option AObj) (nx0 : Nat) (dv wv : AV) (S : SM), Dw h M dv wv rows.length S lo nx0 → lo ≤ nx0 → MOk rows k S → i ≤ S.1.length → 400 < f + i →
    r07_Of.L0 (.fptr [nv, gv]) (.ptr 0 0 2) (.ptr M 0 2) (.int .i64 i) ⟨h, nx0⟩ KO0 = some (ofR rows.length (bfsE rows k f i S), Mem.empty) := by
  intro f
  have n6 := v.n6
  have k3 := v.k3
  induction f with
  | zero => intro i h nx0 dv wv S D hlo hS hi hf; have := hS.le; omega
  | succ f ih =>
    intro i h nx0 dv wv S D hlo hS hi hf
    have hle := hS.le
    have hlen := hS.len
    have hM : h M = some (.cells [dv, wv]) := D.o
    have mo := D.mo
    have dl := D.d.len
    simp only [List.length_map] at dl
    by_cases c : i < S.1.length
    · have hx := List.getElem?_eq_getElem c
      have c2 : i < S.2.length := by rw [← hS.len]; exact c
      have hw := List.getElem?_eq_getElem c2
      generalize S.1[i] = x at hx
      generalize S.2[i] = w at hw
      have hxw := hS.at hx hw
      subst hxw
      have hwm := List.mem_of_getElem? hw
      rw [bfsE, hx, hw]
      simp only []
      have st := of_in (gv := gv) (M := M) (lo := lo) (i := i) (w := w) (r := some (ofR rows.length (if (bInE rows (mv6 rows w) w k 0 S).2 = true then bfsE rows k f (i + 1) (bInE rows (mv6 rows w) w k 0 S).1 else ((bInE rows (mv6 rows w) w k 0 S).1, false)), Mem.empty)) hn v k 0 h nx0 dv wv S (by omega) D hlo hS hw (by omega) (fun e h' nx' dv' wv' D' hlo' => by
        have hM := bInE_M rows (mv6 rows w) w k 0 S
        rw [if_pos e] at hM
        obtain ⟨h1, ⟨p, r, h2, h3⟩, h4⟩ := bInM_ok n6 k3 k 0 S _ (by omega) hS hwm hM
        have := ih (i + 1) h' nx' dv' wv' _ D' hlo' h1 (by rw [h2]; simp; omega) (by omega)
        simp only [Int.natCast_add, Int.cast_ofNat_Int] at this
        rw [if_pos e]
        exact this) (fun e => by rw [if_neg (by rw [e]; simp)])
      simp only [Int.ofNat_zero, Int.cast_ofNat_Int] at st
      rw [r07_Of.L0_eq]
      simp [hM, dl, c]
      exact st
    · have hx : S.1[i]? = none := List.getElem?_eq_none (by omega)
      have d1 := (D.d.fr (h' := upd h 0 (some (.cells [dv, wv]))) (fun y y1 y2 _ => updNe (by omega)) (Nat.le_refl _)).deep 3 (fun x hx => by
        simp only [List.mem_map] at hx
        obtain ⟨b, _, rfl⟩ := hx
        rfl)
      have d2 := (D.w.fr (h' := upd h 0 (some (.cells [dv, wv]))) (fun y y1 y2 _ => updNe (by omega)) (Nat.le_refl _)).deep 3 (fun x hx => by
        simp only [List.mem_map] at hx
        obtain ⟨b, _, rfl⟩ := hx
        rfl)
      have hM0 : ((0 : Nat) == M) = false := beq_eq_false_iff_ne.2 (by omega)
      rw [D.x.1] at d1
      rw [D.x.2] at d2
      simp only [List.length_map] at d1 d2
      have e0 : bfsE rows k (f + 1) i S = (S, true) := by rw [bfsE, hx]
      rw [e0, ofR, ofV, r07_Of.L0_eq]
      simp [hM, dl, c, KO0, D.d.one, D.w.one, D.z, d1, d2]
      done
def ofE (rows : List (List Int)) (k : Nat) : SM × Bool := bfsE rows k 401 0 ([mv6 rows []], [[]])
theorem ofE_made (rows : List (List Int)) (k : Nat) : madeS rows k = if (ofE rows k).2 = true then some (ofE rows k).1 else none := bfsE_M rows k 401 0 _
theorem of_spec {nv gv : AV} {ps : List AV} {rows : List (List Int)} {good : List Bool} {k : Nat} (hn : IsRows nv ps rows) (hg : IsB gv good) (v : VB rows good k) (m : Mem) :
    denC prog ann 41 [.agg [nv, gv]] m = some (ofR rows.length (ofE rows k), m) := by
  have n6 := v.n6
  have hno := fun m => nothing_spec (n := rows.length) n6 m
  have e1 : doF (fun s => s) rows.length = encD rows.length (mv6 rows []) := (encD_mv6 n6 []).symm
  have st := of_out (gv := gv) hn v (M := 1) (lo := 2) 401 0 (upd (upd (upd Mem.empty.h 0 (some (.cells [.nils, .nils]))) 1 (some (.cells [.nils, .nils]))) 1 (some (.cells [.fsl true 1 [.str (doF (fun s => s) rows.length)], .fsl true 1 [.str []]]))) 2 (.fsl true 1 [.str (doF (fun s => s) rows.length)]) (.fsl true 1 [.str []]) ([mv6 rows []], [[]])
    ⟨by simp, .inl (by rw [e1]; rfl), .inl rfl, by simp [objId], by simp, by omega, rfl, rfl⟩ (by omega) (MOk1 _ _) (by simp) (by omega)
  simp only [Int.ofNat_zero, Int.cast_ofNat_Int, KO0] at st
  rw [r07_Of.call_eq _ _ (by simp [hn.closed, hg.closed])]
  simp [hn.one, hg.one, hn.closed, hg.closed, hn.len, hno]
  simp at st
  rw [st]
  rfl
end Go.Proofs.Ythnpflkpjimkfaa

/-
  PRODUCTS, ELEMENTS, IDEMPOTENTS: the specification's; lists of strings that are the same. Conditions: none.
-/
namespace Go.Proofs.Ythnpflkpjimkfaa
open Go.AM
open Go.Proofs.Try (prog)
set_option linter.all false
set_option maxRecDepth 100000
set_option maxHeartbeats 8000000
theorem goL_app (rows : List (List Int)) : ∀ (u w : List UInt8) (s : Nat), goL rows (u ++ w) s = goL rows w (goL rows u s)
  | [], w, s => rfl
  | c :: u, w, s => by rw [List.cons_append, goL, goL, goL_app rows u w]
section
variable {rows : List (List Int)} {good : List Bool} {k : Nat} {S : SM}
theorem encD_nd (v : VB rows good k) (W : MW rows k S) : (S.1.map (encD rows.length)).Nodup := by
  have n6 := v.n6
  rw [List.Nodup, List.pairwise_iff_getElem]
  intro i j hi hj hij e
  simp only [List.length_map] at hi hj
  simp only [List.getElem_map] at e
  obtain ⟨_, a2, _, a4⟩ := W.wok hi
  obtain ⟨_, b2, _, b4⟩ := W.wok hj
  have a5 := (List.getElem?_eq_some_iff.1 a4).2
  have b5 := (List.getElem?_eq_some_iff.1 b4).2
  rw [a5, b5, encD_mv6 n6, encD_mv6 n6] at e
  have := doS_inj v a2 b2 e
  rw [← a5, ← b5] at this
  exact List.pairwise_iff_getElem.1 W.ok.nd i j hi hj hij this
theorem fnd_num (v : VB rows good k) (W : MW rows k S) {w : List UInt8} (hw : okW k w) : fndI (S.1.map (encD rows.length)) (doS rows w) = (numM rows S w : Nat) := by
  have n6 := v.n6
  have hm := W.all n6 v.k3 hw
  have hlt := W.lt n6 v.k3 hw
  have hat := W.at n6 v.k3 hw
  have hL : numM rows S w < (S.1.map (encD rows.length)).length := by simpa using hlt
  have e : (S.1.map (encD rows.length))[numM rows S w] = doS rows w := by
    rw [List.getElem_map, (List.getElem?_eq_some_iff.1 hat).2, encD_mv6 n6]
  have hin : doS rows w ∈ S.1.map (encD rows.length) := e ▸ List.getElem_mem hL
  rw [fndI, if_pos hin]
  have := (encD_nd v W).idxOf_getElem _ hL
  rw [e] at this
  rw [this]
theorem dos_head (v : VB rows good k) (W : MW rows k S) {i : Nat} (hi : i < S.1.length) : (((S.1.map (encD rows.length)).map AV.str).drop i).head? = some (.str (doS rows (wrd S i))) := by
  obtain ⟨_, a2, _, a4⟩ := W.wok hi
  rw [List.head?_drop, List.getElem?_map, List.getElem?_map, a4]
  simp [encD_mv6 v.n6]
theorem doS_idx (v : VB rows good k) {w : List UInt8} (hw : okW k w) {s : Nat} (hs : s < rows.length) (kk : IntKind) : idxStr (.str (doS rows w)) (.int kk (s : Int)) = some (.int .u8 (goL rows w s : Nat)) := by
  have : (doS rows w)[s]? = some (UInt8.ofNat (goL rows w s)) := doF_at hs
  have h6 : (UInt8.ofNat (goL rows w s)).toNat = goL rows w s := ofNat6 (by have := goL_lt6 v hw hs; have := v.n6; omega)
  have hl : (doS rows w).length = rows.length := by simp [doS]
  rw [idxStr_str, hl]
  simp only [Int.toNat_natCast, this, Option.map_some, h6]
  simp [inR, hs]
end
def ofD (n : Nat) (S : SM) : AV := .fsl (decide (S.2.length = 1)) S.1.length ((S.1.map (encD n)).map .str)
theorem ofV_eq (n : Nat) (S : SM) : ofV n S = .agg [ofD n S, wdsV S] := rfl
theorem times_loop {rows : List (List Int)} {good : List Bool} {k : Nat} (v : VB rows good k) {S : SM} (W : MW rows k S) {i j : Nat} (hi : i < S.1.length) (hj : j < S.1.length) : ∀ (c s nx0 : Nat) (h : Nat → Option AObj), s + c = rows.length → h 0 = some (.cells (bysV (doF (fun s => goL rows (wrd S j) (goL rows (wrd S i) s)) s))) → 0 < nx0 →
    r07_Monoid_Times.L0 (.int .i64 i) (.int .i64 j) (.fptr [ofD rows.length S, wdsV S]) (.sl 0 1 0 s s) (.int .i64 s) ⟨h, nx0⟩ [.code r07_Monoid_Times.r6, .code .ret] = some (.int .i64 (numM rows S (wrd S i ++ wrd S j) : Nat), Mem.empty) := by
  intro c
  have n6 := v.n6
  obtain ⟨_, a2, _, a4⟩ := W.wok hi
  obtain ⟨_, b2, _, b4⟩ := W.wok hj
  have hdi := dos_head v W hi
  have hdj := dos_head v W hj
  have hli : (doS rows (wrd S i)).length = rows.length := by simp [doS]
  induction c with
  | zero =>
    intro s nx0 h h1 h0 hnx
    have e : s = rows.length := by omega
    subst e
    have e2 : doF (fun s => goL rows (wrd S j) (goL rows (wrd S i) s)) rows.length = doS rows (wrd S i ++ wrd S j) := by
      rw [doS]; congr 1; funext s; rw [goL_app]
    rw [e2] at h0
    have elen : (doS rows (wrd S i ++ wrd S j)).length = rows.length := by simp [doS]
    have tk : (bysV (doS rows (wrd S i ++ wrd S j))).take rows.length = bysV (doS rows (wrd S i ++ wrd S j)) := List.take_of_length_le (by simp [elen])
    have hf := fun m => find_spec' (ex := decide (S.2.length = 1)) (wv := wdsV S) rfl rfl (L := S.1.map (encD rows.length)) (s := doS rows (wrd S i ++ wrd S j)) (by have := W.ok.le; simp; omega) m
    rw [fnd_num v W (okW_app a2 b2)] at hf
    simp only [List.length_map, List.map_map] at hf hdi hdj
    rw [r07_Monoid_Times.L0_eq]
    simp only [ofD, wdsV] at hf ⊢
    simp [hi, hdi, hli, convStr, srcA, h0, elen, tk, bytesOf_bys, hf, -List.head?_drop, -List.map_drop]
    done
  | succ c ih =>
    intro s nx0 h h1 h0 hnx
    have hs : s < rows.length := by omega
    have hws : IntKind.wrap .i64 ((s : Int) + 1) = (s : Int) + 1 := wrap_id (by omega) (by omega)
    have hg := goL_lt6 v a2 hs
    have x1 := doS_idx v a2 hs .i64
    have x2 := doS_idx v b2 hg .u8
    have hg2 := goL_lt6 v b2 hg
    have hc := doF_cell (f := fun s => goL rows (wrd S j) (goL rows (wrd S i) s)) (c := s) (by omega)
    have st := ih (s + 1) (nx0 + 17) (upd h 0 (some (.cells (bysV (doF (fun s => goL rows (wrd S j) (goL rows (wrd S i) s)) (s + 1)))))) (by omega) (by simp) (by omega)
    simp only [Int.natCast_add, Int.cast_ofNat_Int] at st
    rw [r07_Monoid_Times.L0_eq]
    simp only [List.map_map] at hdi hdj
    simp only [ofD, wdsV] at st ⊢
    simp at st
    simp [hi, hj, hdi, hdj, hli, hs, x1, x2, h0, hc, hws, show s ≤ 4611686018427387903 by omega, show s + 1 ≤ 70368744177664 by omega, st, -List.head?_drop, -List.map_drop, -idxStr_str]
    done
theorem times_spec {rows : List (List Int)} {good : List Bool} {k : Nat} (v : VB rows good k) {S : SM} (W : MW rows k S) {i j : Nat} (hi : i < S.1.length) (hj : j < S.1.length) (m : Mem) :
    denC prog ann 74 [ofV rows.length S, .int .i64 (i : Int), .int .i64 (j : Int)] m = some (.int .i64 (numM rows S (wrd S i ++ wrd S j) : Nat), m) := by
  have lp := times_loop v W hi hj rows.length 0 1 (upd Mem.empty.h 0 (some (.cells []))) (by omega) (by simp [doF, bysV]) (by omega)
  simp only [Int.ofNat_zero, Int.cast_ofNat_Int, ofD, wdsV] at lp
  rw [ofV, r07_Monoid_Times.call_eq _ _ _ _ (by simp)]
  simp at lp
  simp [lp]
  done
end Go.Proofs.Ythnpflkpjimkfaa

/-
  ELEMENTS AND IDEMPOTENTS: the specification's; lists of strings that are the same. Conditions: none.
-/
namespace Go.Proofs.Ythnpflkpjimkfaa
open Go.AM
open Go.Proofs.Try (prog)
set_option linter.all false
set_option maxRecDepth 100000
set_option maxHeartbeats 8000000
def IsS (v : AV) (l : List (List UInt8)) : Prop := (v = .nils ∧ l = []) ∨ ∃ ex, v = .fsl ex l.length (l.map .str)
theorem IsS.len {v : AV} {l : List (List UInt8)} (h : IsS v l) : lenSl v = some (.int .i64 l.length) := by rcases h with ⟨rfl, rfl⟩ | ⟨_, rfl⟩ <;> rfl
theorem IsS.closed {v : AV} {l : List (List UInt8)} (h : IsS v l) : v.closed = true := by rcases h with ⟨rfl, rfl⟩ | ⟨_, rfl⟩ <;> rfl
theorem IsS.one {v : AV} {l : List (List UInt8)} (h : IsS v l) : v.one = true := by rcases h with ⟨rfl, rfl⟩ | ⟨_, rfl⟩ <;> rfl
theorem IsS.idx {v : AV} {l : List (List UInt8)} (h : IsS v l) {i : Nat} (hi : i < l.length) (k : IntKind) : idxSl 1 v (.int k (i : Int)) = some (.fptr ((l.map .str).drop i)) := by
  rcases h with ⟨rfl, rfl⟩ | ⟨_, rfl⟩
  · simp at hi
  · simp [hi]
end Go.Proofs.Ythnpflkpjimkfaa

/-
  BODIES OF FUNCTIONS OF THE PROGRAM AS SMALL OPERATIONS (written by gen.py; checked by the kernel against the program). Conditions: none.
-/
namespace Go.Proofs.Ythnpflkpjimkfaa
open Go.AM
open Go.Proofs.Try (prog)
set_option maxRecDepth 100000
set_option linter.all false
namespace r07_Monoid_Classes
noncomputable section
variable (K : List Item) (s : St)
def b : Code := (Try.f50.body).getD .skip
theorem hf : prog.funcs[50]? = some Try.f50 := by kernel_rfl
def r0 := findReg b 0
def r1 := findReg b 1
def r2 := findReg b 2
def k0 := findBlk b 0
def l0 := loopOf k0
def L0 (x5 x6 x7 x8 : AV) (m : Mem) (K : List Item) : Option Res := den prog ann 50 (.code l0 :: .inLoop l0 :: .inBlock 0 :: K) ⟨[(5, x5), (6, x6), (7, x7), (8, x8)], 65, m⟩
def r3 := findReg b 3
def i0 := findCond b 0
def i0t := thenOf i0
def i0e := elseOf i0
def k1 := findBlk b 1
def r5 := findReg b 5
def i1 := findCond b 1
def i1t := thenOf i1
def i1e := elseOf i1
def r6 := findReg b 6
def r7 := findReg b 7
def k2 := findBlk b 2
def l2 := loopOf k2
def L2 (x5 x6 x7 x8 x9 x10 : AV) (m : Mem) (K : List Item) : Option Res := den prog ann 50 (.code l2 :: .inLoop l2 :: .inBlock 2 :: K) ⟨[(5, x5), (6, x6), (7, x7), (8, x8), (9, x9), (10, x10)], 65, m⟩
def r8 := findReg b 8
def i2 := findCond b 2
def i2t := thenOf i2
def i2e := elseOf i2
def k3 := findBlk b 3
def r10 := findReg b 10
def i3 := findCond b 3
def i3t := thenOf i3
def i3e := elseOf i3
def r11 := findReg b 11
def r9 := findReg b 9
def r12 := findReg b 12
def r4 := findReg b 4
def r13 := findReg b 13
theorem b_eq : den prog ann 50 (.code b :: K) s = den prog ann 50 (.code r0 :: .code r1 :: .code r2 :: .code k0 :: .code r13 :: .code .ret :: K) s := den_flat hf (l := [r0, r1, r2, k0, r13, .ret]) (by kernel_rfl) K s
theorem r0_eq : den prog ann 50 (.code r0 :: K) s = mreg prog ann 50 none [] none [] [qA 2 frozenPtr 0,qF 4 fun s => some (.nils)] K s := (den_reg hf _ K s).trans (by kernel_rfl)
theorem r1_draw : drawOk (fun g => (ann g).pure) (modeOf (ann 50) (idOf r1)) (frzOf (ann 50) (idOf r1)) (opsOf r1) = true := drawOk_of (an := [0, 0, 3, 0, 8, 24, 56, 0, 7, 383, 1023]) (by kernel_rfl) (by kernel_rfl)
theorem r1_eq : den prog ann 50 (.code r1 :: K) s = mreg prog ann 50 none [] (some 11) [] [qA 11 (loadF true 2) 2,qC 12 1,⟨some 13, none, .c 0 (fun s => (.fn 77 [] [])) fun s => [(s.get 11), (s.get 12)]⟩,qA 14 (fieldA 0) 2,qA 15 (loadF false 1) 14,qA 16 lenSl 15,⟨some 17, none, .w false (some 6) fun s => makeA 1 1 (.bool false) s.m (s.get 16) (s.get 16)⟩,⟨some 18, none, .w false (some 7) fun s => bslM s.m 0 (bslA 1 0 [.nils] [])⟩,qC 5 13,qC 6 17,qC 7 18] K s := (den_regD hf r1_draw K s).trans (by kernel_rfl)
theorem r2_eq : den prog ann 50 (.code r2 :: K) s = mreg prog ann 50 none [] none [] [qF 8 fun s => some (.int .i64 0)] K s := (den_reg hf _ K s).trans (by kernel_rfl)
theorem k0_eq (K : List Item) (t : List (Nat × AV)) (m : Mem) : den prog ann 50 (.code k0 :: K) ⟨t, 65, m⟩ = L0 (get t 5) (get t 6) (get t 7) (get t 8) m K := den_loop_enter hf (b := l0) (id := 3) (l := [5, 6, 7, 8]) (by kernel_rfl) (by kernel_rfl) (by kernel_rfl) K _
theorem l0_eq (K : List Item) (t : List (Nat × AV)) (m : Mem) : den prog ann 50 (.inLoop l0 :: .inBlock 0 :: K) ⟨t, 65, m⟩ = L0 (get t 5) (get t 6) (get t 7) (get t 8) m K := den_loop_again hf (id := 3) (l := [5, 6, 7, 8]) (by kernel_rfl) (by kernel_rfl) (.inBlock 0 :: K) _
theorem L0_eq (x5 x6 x7 x8 : AV) (m : Mem) (K : List Item) : L0 x5 x6 x7 x8 m K = den prog ann 50 (.code r3 :: .code i0 :: .code k1 :: .code r4 :: .inLoop l0 :: .inBlock 0 :: K) ⟨[(5, x5), (6, x6), (7, x7), (8, x8)], 65, m⟩ := den_flat hf (l := [r3, i0, k1, r4]) (by kernel_rfl) _ _
theorem r3_eq : den prog ann 50 (.code r3 :: K) s = mreg prog ann 50 (some [5, 6, 7, 8]) [] none [] [qC 19 8,qC 20 5,qA 21 lenSl 20,qB 22 (binA prog .lss 3) 19 21] K s := (den_reg hf _ K s).trans (by kernel_rfl)
theorem i0_eq : den prog ann 50 (.code i0 :: K) s = ifV prog ann 50 22 i0t i0e K s (s.get 22) := den_if hf (by kernel_rfl) K s
theorem i0t_eq : den prog ann 50 (.code i0t :: K) s = den prog ann 50 (K) s := den_flat hf (l := []) (by kernel_rfl) K s
theorem i0e_eq : den prog ann 50 (.code i0e :: K) s = den prog ann 50 (.code (.exit 0) :: K) s := den_flat hf (l := [(.exit 0)]) (by kernel_rfl) K s
theorem k1_eq : den prog ann 50 (.code k1 :: K) s = den prog ann 50 (.code r5 :: .code i1 :: .code r6 :: .code r7 :: .code k2 :: .code r12 :: .inBlock 1 :: K) s := den_blk hf (b := blkOf k1) (l := [r5, i1, r6, r7, k2, r12]) (by kernel_rfl) (by kernel_rfl) K s
theorem r5_eq : den prog ann 50 (.code r5 :: K) s = mreg prog ann 50 none [] none [] [qC 25 6,qC 26 8,qB 27 (idxSl 1) 25 26,qF 28 fun s => loadA false 1 s.m (s.get 27)] K s := (den_reg hf _ K s).trans (by kernel_rfl)
theorem i1_eq : den prog ann 50 (.code i1 :: K) s = ifV prog ann 50 28 i1t i1e K s (s.get 28) := den_if hf (by kernel_rfl) K s
theorem i1t_eq : den prog ann 50 (.code i1t :: K) s = den prog ann 50 (.code (.exit 1) :: K) s := den_flat hf (l := [(.exit 1)]) (by kernel_rfl) K s
theorem i1e_eq : den prog ann 50 (.code i1e :: K) s = den prog ann 50 (K) s := den_flat hf (l := []) (by kernel_rfl) K s
theorem r6_eq : den prog ann 50 (.code r6 :: K) s = mreg prog ann 50 none [] none [] [⟨some 29, none, .w false none fun s => bslM s.m 0 (bslA 1 0 [.int .i64 0] [])⟩,qC 9 29] K s := (den_reg hf _ K s).trans (by kernel_rfl)
theorem r7_eq : den prog ann 50 (.code r7 :: K) s = mreg prog ann 50 none [] none [] [qC 30 8,qC 10 30] K s := (den_reg hf _ K s).trans (by kernel_rfl)
theorem k2_eq (K : List Item) (t : List (Nat × AV)) (m : Mem) : den prog ann 50 (.code k2 :: K) ⟨t, 65, m⟩ = L2 (get t 5) (get t 6) (get t 7) (get t 8) (get t 9) (get t 10) m K := den_loop_enter hf (b := l2) (id := 8) (l := [5, 6, 7, 8, 9, 10]) (by kernel_rfl) (by kernel_rfl) (by kernel_rfl) K _
theorem l2_eq (K : List Item) (t : List (Nat × AV)) (m : Mem) : den prog ann 50 (.inLoop l2 :: .inBlock 2 :: K) ⟨t, 65, m⟩ = L2 (get t 5) (get t 6) (get t 7) (get t 8) (get t 9) (get t 10) m K := den_loop_again hf (id := 8) (l := [5, 6, 7, 8, 9, 10]) (by kernel_rfl) (by kernel_rfl) (.inBlock 2 :: K) _
theorem L2_eq (x5 x6 x7 x8 x9 x10 : AV) (m : Mem) (K : List Item) : L2 x5 x6 x7 x8 x9 x10 m K = den prog ann 50 (.code r8 :: .code i2 :: .code k3 :: .code r9 :: .inLoop l2 :: .inBlock 2 :: K) ⟨[(5, x5), (6, x6), (7, x7), (8, x8), (9, x9), (10, x10)], 65, m⟩ := den_flat hf (l := [r8, i2, k3, r9]) (by kernel_rfl) _ _
theorem r8_eq : den prog ann 50 (.code r8 :: K) s = mreg prog ann 50 (some [5, 6, 7, 8, 9, 10]) [] none [] [qC 31 10,qC 32 5,qA 33 lenSl 32,qB 34 (binA prog .lss 3) 31 33] K s := (den_reg hf _ K s).trans (by kernel_rfl)
theorem i2_eq : den prog ann 50 (.code i2 :: K) s = ifV prog ann 50 34 i2t i2e K s (s.get 34) := den_if hf (by kernel_rfl) K s
theorem i2t_eq : den prog ann 50 (.code i2t :: K) s = den prog ann 50 (K) s := den_flat hf (l := []) (by kernel_rfl) K s
theorem i2e_eq : den prog ann 50 (.code i2e :: K) s = den prog ann 50 (.code (.exit 2) :: K) s := den_flat hf (l := [(.exit 2)]) (by kernel_rfl) K s
theorem k3_eq : den prog ann 50 (.code k3 :: K) s = den prog ann 50 (.code r10 :: .code i3 :: .inBlock 3 :: K) s := den_blk hf (b := blkOf k3) (l := [r10, i3]) (by kernel_rfl) (by kernel_rfl) K s
theorem r10_eq : den prog ann 50 (.code r10 :: K) s = mreg prog ann 50 none [] none [] [qC 37 5,qC 38 8,qB 39 (idxSl 1) 37 38,qA 40 (loadF false 1) 39,qC 41 10,qB 42 (idxSl 1) 40 41,qA 43 (loadF false 1) 42,qC 44 43,⟨some 45, some (44, true), .v fun s => some (s.get 5)⟩,⟨some 46, some (44, true), .v fun s => some (s.get 10)⟩,⟨some 47, some (44, true), .v fun s => idxSl 1 (s.get 45) (s.get 46)⟩,⟨some 48, some (44, true), .v fun s => loadF false 1 (s.get 47)⟩,⟨some 49, some (44, true), .v fun s => some (s.get 8)⟩,⟨some 50, some (44, true), .v fun s => idxSl 1 (s.get 48) (s.get 49)⟩,⟨some 51, some (44, true), .v fun s => loadF false 1 (s.get 50)⟩,qF 52 fun s => pickA (s.get 44) (s.get 51) (.bool false)] K s := (den_reg hf _ K s).trans (by kernel_rfl)
theorem i3_eq : den prog ann 50 (.code i3 :: K) s = ifV prog ann 50 52 i3t i3e K s (s.get 52) := den_if hf (by kernel_rfl) K s
theorem i3t_eq : den prog ann 50 (.code i3t :: K) s = den prog ann 50 (.code r11 :: K) s := den_flat hf (l := [r11]) (by kernel_rfl) K s
theorem r11_eq : den prog ann 50 (.code r11 :: K) s = mreg prog ann 50 none [] none [] [qC 53 6,qC 54 10,qC 55 9,qC 56 10,qF 57 fun s => bslF 1 (bslA 1 1 [.int .i64 0] [(0, (s.get 56))]),⟨some 58, none, .w false none fun s => appendA 1 8 s.m (s.get 55) (s.get 57)⟩,qC 9 58,qB 59 (idxSl 1) 53 54,⟨none, none, .w false none fun s => stA false 1 s.m (s.get 59) (.bool true)⟩] K s := (den_reg hf _ K s).trans (by kernel_rfl)
theorem i3e_eq : den prog ann 50 (.code i3e :: K) s = den prog ann 50 (K) s := den_flat hf (l := []) (by kernel_rfl) K s
theorem r9_eq : den prog ann 50 (.code r9 :: K) s = mreg prog ann 50 (some [5, 6, 7, 8, 9, 10]) [] none [] [qC 35 10,qF 36 fun s => binA prog .add 3 (s.get 35) (.int .i64 1),qC 10 36] K s := (den_reg hf _ K s).trans (by kernel_rfl)
theorem r12_eq : den prog ann 50 (.code r12 :: K) s = mreg prog ann 50 (some [5, 6, 7, 8, 9]) [9] none [] [qC 60 7,qC 61 9,qF 62 fun s => bslF 1 (bslA 1 1 [.nils] [(0, (s.get 61))]),⟨some 63, none, .w false none fun s => appendA 1 24 s.m (s.get 60) (s.get 62)⟩,qC 7 63] K s := (den_reg hf _ K s).trans (by kernel_rfl)
theorem r4_eq : den prog ann 50 (.code r4 :: K) s = mreg prog ann 50 (some [5, 6, 7, 8]) [] none [] [qC 23 8,qF 24 fun s => binA prog .add 3 (s.get 23) (.int .i64 1),qC 8 24] K s := (den_reg hf _ K s).trans (by kernel_rfl)
theorem r13_eq : den prog ann 50 (.code r13 :: K) s = mreg prog ann 50 (some [7]) [] none [] [qC 64 7,qC 4 64] K s := (den_reg hf _ K s).trans (by kernel_rfl)
theorem ret_eq : den prog ann 50 (.code .ret :: K) s = finM true [fun s => some (s.get 4)] s := (den_ret hf K s).trans (by kernel_rfl)
theorem nil_eq (s : St) : den prog ann 50 [] s = finM true [fun s => some (s.get 4)] s := (den_nil hf s).trans (by kernel_rfl)
theorem inBlock_eq (id : Nat) (K : List Item) (s : St) : den prog ann 50 (.inBlock id :: K) s = den prog ann 50 K s := den_inBlock hf id K s
theorem exit_eq (id : Nat) (K : List Item) (s : St) : den prog ann 50 (.code (.exit id) :: K) s = exitV prog ann 50 (exitTo id K) s := den_exitV hf id K s
theorem call_eq (v0 v1 : AV) (m : Mem) (h : closedL [v0, v1] = true) : denC prog ann 50 [v0, v1] m = (den prog ann 50 [.code b] ⟨[(0, v0), (1, v1)], 65, Mem.empty⟩).bind fun r => some (r.1, m) := (denC_pure hf (b := b) (by kernel_rfl) (by kernel_rfl) (by kernel_rfl) h m).trans (by kernel_rfl)
theorem pure_eq : (ann 50).pure = true := by kernel_rfl
attribute [simp] b_eq r0_eq r1_eq r2_eq k0_eq l0_eq r3_eq i0_eq i0t_eq i0e_eq k1_eq r5_eq i1_eq i1t_eq i1e_eq r6_eq r7_eq k2_eq l2_eq r8_eq i2_eq i2t_eq i2e_eq k3_eq r10_eq i3_eq i3t_eq r11_eq i3e_eq r9_eq r12_eq r4_eq r13_eq ret_eq nil_eq inBlock_eq exit_eq pure_eq
end
end r07_Monoid_Classes
namespace r07_Monoid_below
noncomputable section
variable (K : List Item) (s : St)
def b : Code := (Try.f77.body).getD .skip
theorem hf : prog.funcs[77]? = some Try.f77 := by kernel_rfl
def r0 := findReg b 0
def r1 := findReg b 1
def r2 := findReg b 2
def k0 := findBlk b 0
def l0 := loopOf k0
def L0 (x1 x5 x6 x7 : AV) (m : Mem) (K : List Item) : Option Res := den prog ann 77 (.code l0 :: .inLoop l0 :: .inBlock 0 :: K) ⟨[(1, x1), (5, x5), (6, x6), (7, x7)], 93, m⟩
def r3 := findReg b 3
def i0 := findCond b 0
def i0t := thenOf i0
def i0e := elseOf i0
def k1 := findBlk b 1
def r5 := findReg b 5
def r6 := findReg b 6
def k2 := findBlk b 2
def l2 := loopOf k2
def L2 (x1 x5 x6 x7 x8 x9 : AV) (m : Mem) (K : List Item) : Option Res := den prog ann 77 (.code l2 :: .inLoop l2 :: .inBlock 2 :: K) ⟨[(1, x1), (5, x5), (6, x6), (7, x7), (8, x8), (9, x9)], 93, m⟩
def r7 := findReg b 7
def i1 := findCond b 1
def i1t := thenOf i1
def i1e := elseOf i1
def k3 := findBlk b 3
def r9 := findReg b 9
def k4 := findBlk b 4
def r15 := findReg b 15
def i2 := findCond b 2
def i2t := thenOf i2
def i2e := elseOf i2
def r16 := findReg b 16
def r17 := findReg b 17
def i3 := findCond b 3
def i3t := thenOf i3
def i3e := elseOf i3
def r18 := findReg b 18
def r10 := findReg b 10
def i4 := findCond b 4
def i4t := thenOf i4
def i4e := elseOf i4
def r11 := findReg b 11
def k5 := findBlk b 5
def l5 := loopOf k5
def L5 (x1 x5 x6 x7 x8 x9 x10 : AV) (m : Mem) (K : List Item) : Option Res := den prog ann 77 (.code l5 :: .inLoop l5 :: .inBlock 5 :: K) ⟨[(1, x1), (5, x5), (6, x6), (7, x7), (8, x8), (9, x9), (10, x10)], 93, m⟩
def r12 := findReg b 12
def i5 := findCond b 5
def i5t := thenOf i5
def i5e := elseOf i5
def k6 := findBlk b 6
def r14 := findReg b 14
def r13 := findReg b 13
def r8 := findReg b 8
def r19 := findReg b 19
def r4 := findReg b 4
def r20 := findReg b 20
theorem b_eq : den prog ann 77 (.code b :: K) s = den prog ann 77 (.code r0 :: .code r1 :: .code r2 :: .code k0 :: .code r20 :: .code .ret :: K) s := den_flat hf (l := [r0, r1, r2, k0, r20, .ret]) (by kernel_rfl) K s
theorem r0_eq : den prog ann 77 (.code r0 :: K) s = mreg prog ann 77 none [] none [] [qA 2 frozenPtr 0,qF 4 fun s => some (.nils)] K s := (den_reg hf _ K s).trans (by kernel_rfl)
theorem r1_eq : den prog ann 77 (.code r1 :: K) s = mreg prog ann 77 none [] none [] [qA 11 (loadF true 2) 2,⟨some 12, none, .c 0 (fun s => (.fn 90 [] [])) fun s => [(s.get 11)]⟩,⟨some 13, none, .w false none fun s => bslM s.m 0 (bslA 1 0 [.nils] [])⟩,qC 5 12,qC 6 13] K s := (den_reg hf _ K s).trans (by kernel_rfl)
theorem r2_eq : den prog ann 77 (.code r2 :: K) s = mreg prog ann 77 none [] none [] [qF 7 fun s => some (.int .i64 0)] K s := (den_reg hf _ K s).trans (by kernel_rfl)
theorem k0_eq (K : List Item) (t : List (Nat × AV)) (m : Mem) : den prog ann 77 (.code k0 :: K) ⟨t, 93, m⟩ = L0 (get t 1) (get t 5) (get t 6) (get t 7) m K := den_loop_enter hf (b := l0) (id := 3) (l := [1, 5, 6, 7]) (by kernel_rfl) (by kernel_rfl) (by kernel_rfl) K _
theorem l0_eq (K : List Item) (t : List (Nat × AV)) (m : Mem) : den prog ann 77 (.inLoop l0 :: .inBlock 0 :: K) ⟨t, 93, m⟩ = L0 (get t 1) (get t 5) (get t 6) (get t 7) m K := den_loop_again hf (id := 3) (l := [1, 5, 6, 7]) (by kernel_rfl) (by kernel_rfl) (.inBlock 0 :: K) _
theorem L0_eq (x1 x5 x6 x7 : AV) (m : Mem) (K : List Item) : L0 x1 x5 x6 x7 m K = den prog ann 77 (.code r3 :: .code i0 :: .code k1 :: .code r4 :: .inLoop l0 :: .inBlock 0 :: K) ⟨[(1, x1), (5, x5), (6, x6), (7, x7)], 93, m⟩ := den_flat hf (l := [r3, i0, k1, r4]) (by kernel_rfl) _ _
theorem r3_eq : den prog ann 77 (.code r3 :: K) s = mreg prog ann 77 (some [1, 5, 6, 7]) [] none [] [qC 14 7,qC 15 5,qA 16 lenSl 15,qB 17 (binA prog .lss 3) 14 16] K s := (den_reg hf _ K s).trans (by kernel_rfl)
theorem i0_eq : den prog ann 77 (.code i0 :: K) s = ifV prog ann 77 17 i0t i0e K s (s.get 17) := den_if hf (by kernel_rfl) K s
theorem i0t_eq : den prog ann 77 (.code i0t :: K) s = den prog ann 77 (K) s := den_flat hf (l := []) (by kernel_rfl) K s
theorem i0e_eq : den prog ann 77 (.code i0e :: K) s = den prog ann 77 (.code (.exit 0) :: K) s := den_flat hf (l := [(.exit 0)]) (by kernel_rfl) K s
theorem k1_eq : den prog ann 77 (.code k1 :: K) s = den prog ann 77 (.code r5 :: .code r6 :: .code k2 :: .code r19 :: .inBlock 1 :: K) s := den_blk hf (b := blkOf k1) (l := [r5, r6, k2, r19]) (by kernel_rfl) (by kernel_rfl) K s
theorem r5_eq : den prog ann 77 (.code r5 :: K) s = mreg prog ann 77 none [] none [] [qC 20 5,qA 21 lenSl 20,⟨some 22, none, .w false none fun s => makeA 1 1 (.bool false) s.m (s.get 21) (s.get 21)⟩,qC 8 22] K s := (den_reg hf _ K s).trans (by kernel_rfl)
theorem r6_eq : den prog ann 77 (.code r6 :: K) s = mreg prog ann 77 none [] none [] [qF 9 fun s => some (.int .i64 0)] K s := (den_reg hf _ K s).trans (by kernel_rfl)
theorem k2_eq (K : List Item) (t : List (Nat × AV)) (m : Mem) : den prog ann 77 (.code k2 :: K) ⟨t, 93, m⟩ = L2 (get t 1) (get t 5) (get t 6) (get t 7) (get t 8) (get t 9) m K := den_loop_enter hf (b := l2) (id := 7) (l := [1, 5, 6, 7, 8, 9]) (by kernel_rfl) (by kernel_rfl) (by kernel_rfl) K _
theorem l2_eq (K : List Item) (t : List (Nat × AV)) (m : Mem) : den prog ann 77 (.inLoop l2 :: .inBlock 2 :: K) ⟨t, 93, m⟩ = L2 (get t 1) (get t 5) (get t 6) (get t 7) (get t 8) (get t 9) m K := den_loop_again hf (id := 7) (l := [1, 5, 6, 7, 8, 9]) (by kernel_rfl) (by kernel_rfl) (.inBlock 2 :: K) _
theorem L2_eq (x1 x5 x6 x7 x8 x9 : AV) (m : Mem) (K : List Item) : L2 x1 x5 x6 x7 x8 x9 m K = den prog ann 77 (.code r7 :: .code i1 :: .code k3 :: .code r8 :: .inLoop l2 :: .inBlock 2 :: K) ⟨[(1, x1), (5, x5), (6, x6), (7, x7), (8, x8), (9, x9)], 93, m⟩ := den_flat hf (l := [r7, i1, k3, r8]) (by kernel_rfl) _ _
theorem r7_eq : den prog ann 77 (.code r7 :: K) s = mreg prog ann 77 (some [1, 5, 6, 7, 8, 9]) [] none [] [qC 23 9,qC 24 5,qA 25 lenSl 24,qB 26 (binA prog .lss 3) 23 25] K s := (den_reg hf _ K s).trans (by kernel_rfl)
theorem i1_eq : den prog ann 77 (.code i1 :: K) s = ifV prog ann 77 26 i1t i1e K s (s.get 26) := den_if hf (by kernel_rfl) K s
theorem i1t_eq : den prog ann 77 (.code i1t :: K) s = den prog ann 77 (K) s := den_flat hf (l := []) (by kernel_rfl) K s
theorem i1e_eq : den prog ann 77 (.code i1e :: K) s = den prog ann 77 (.code (.exit 2) :: K) s := den_flat hf (l := [(.exit 2)]) (by kernel_rfl) K s
theorem k3_eq : den prog ann 77 (.code k3 :: K) s = den prog ann 77 (.code r9 :: .code k4 :: .inBlock 3 :: K) s := den_blk hf (b := blkOf k3) (l := [r9, k4]) (by kernel_rfl) (by kernel_rfl) K s
theorem r9_eq : den prog ann 77 (.code r9 :: K) s = mreg prog ann 77 none [] none [] [qC 29 1] K s := (den_reg hf _ K s).trans (by kernel_rfl)
theorem k4_eq : den prog ann 77 (.code k4 :: K) s = den prog ann 77 (.code r15 :: .code i2 :: .inBlock 4 :: K) s := den_blk hf (b := blkOf k4) (l := [r15, i2]) (by kernel_rfl) (by kernel_rfl) K s
theorem r15_eq : den prog ann 77 (.code r15 :: K) s = mreg prog ann 77 none [] none [] [qF 67 fun s => binA prog .eql 3 (s.get 29) (.int .i64 0),qC 66 67] K s := (den_reg hf _ K s).trans (by kernel_rfl)
theorem i2_eq : den prog ann 77 (.code i2 :: K) s = ifV prog ann 77 66 i2t i2e K s (s.get 66) := den_if hf (by kernel_rfl) K s
theorem i2t_eq : den prog ann 77 (.code i2t :: K) s = den prog ann 77 (.code r16 :: K) s := den_flat hf (l := [r16]) (by kernel_rfl) K s
theorem r16_eq : den prog ann 77 (.code r16 :: K) s = mreg prog ann 77 none [] none [] [qC 68 8,qC 69 5,qC 70 9,qB 71 (idxSl 1) 69 70,qA 72 (loadF false 1) 71,qC 73 7,qB 74 (idxSl 1) 72 73,qA 75 (loadF false 1) 74,qB 76 (idxSl 1) 68 75,⟨none, none, .w false none fun s => stA false 1 s.m (s.get 76) (.bool true)⟩] K s := (den_reg hf _ K s).trans (by kernel_rfl)
theorem i2e_eq : den prog ann 77 (.code i2e :: K) s = den prog ann 77 (.code r17 :: .code i3 :: K) s := den_flat hf (l := [r17, i3]) (by kernel_rfl) K s
theorem r17_eq : den prog ann 77 (.code r17 :: K) s = mreg prog ann 77 none [] none [] [qF 78 fun s => binA prog .eql 3 (s.get 29) (.int .i64 1),qC 77 78] K s := (den_reg hf _ K s).trans (by kernel_rfl)
theorem i3_eq : den prog ann 77 (.code i3 :: K) s = ifV prog ann 77 77 i3t i3e K s (s.get 77) := den_if hf (by kernel_rfl) K s
theorem i3t_eq : den prog ann 77 (.code i3t :: K) s = den prog ann 77 (.code r18 :: K) s := den_flat hf (l := [r18]) (by kernel_rfl) K s
theorem r18_eq : den prog ann 77 (.code r18 :: K) s = mreg prog ann 77 none [] none [] [qC 79 8,qC 80 5,qC 81 7,qB 82 (idxSl 1) 80 81,qA 83 (loadF false 1) 82,qC 84 9,qB 85 (idxSl 1) 83 84,qA 86 (loadF false 1) 85,qB 87 (idxSl 1) 79 86,⟨none, none, .w false none fun s => stA false 1 s.m (s.get 87) (.bool true)⟩] K s := (den_reg hf _ K s).trans (by kernel_rfl)
theorem i3e_eq : den prog ann 77 (.code i3e :: K) s = den prog ann 77 (.code r10 :: .code i4 :: K) s := den_flat hf (l := [r10, i4]) (by kernel_rfl) K s
theorem r10_eq : den prog ann 77 (.code r10 :: K) s = mreg prog ann 77 none [] none [] [qC 30 8,qC 31 5,qC 32 9,qB 33 (idxSl 1) 31 32,qA 34 (loadF false 1) 33,qC 35 7,qB 36 (idxSl 1) 34 35,qA 37 (loadF false 1) 36,qB 38 (idxSl 1) 30 37,qF 39 fun s => loadA false 1 s.m (s.get 38),qA 40 (unA .not) 39,qC 41 40,⟨some 42, some (41, false), .v fun s => some (s.get 9)⟩,⟨some 43, some (41, false), .v fun s => binA prog .eql 3 (s.get 42) (.int .i64 0)⟩,qF 44 fun s => pickA (s.get 41) (.bool true) (s.get 43)] K s := (den_reg hf _ K s).trans (by kernel_rfl)
theorem i4_eq : den prog ann 77 (.code i4 :: K) s = ifV prog ann 77 44 i4t i4e K s (s.get 44) := den_if hf (by kernel_rfl) K s
theorem i4t_eq : den prog ann 77 (.code i4t :: K) s = den prog ann 77 (.code r11 :: .code k5 :: K) s := den_flat hf (l := [r11, k5]) (by kernel_rfl) K s
theorem r11_eq : den prog ann 77 (.code r11 :: K) s = mreg prog ann 77 none [] none [] [qF 10 fun s => some (.int .i64 0)] K s := (den_reg hf _ K s).trans (by kernel_rfl)
theorem k5_eq (K : List Item) (t : List (Nat × AV)) (m : Mem) : den prog ann 77 (.code k5 :: K) ⟨t, 93, m⟩ = L5 (get t 1) (get t 5) (get t 6) (get t 7) (get t 8) (get t 9) (get t 10) m K := den_loop_enter hf (b := l5) (id := 12) (l := [1, 5, 6, 7, 8, 9, 10]) (by kernel_rfl) (by kernel_rfl) (by kernel_rfl) K _
theorem l5_eq (K : List Item) (t : List (Nat × AV)) (m : Mem) : den prog ann 77 (.inLoop l5 :: .inBlock 5 :: K) ⟨t, 93, m⟩ = L5 (get t 1) (get t 5) (get t 6) (get t 7) (get t 8) (get t 9) (get t 10) m K := den_loop_again hf (id := 12) (l := [1, 5, 6, 7, 8, 9, 10]) (by kernel_rfl) (by kernel_rfl) (.inBlock 5 :: K) _
theorem L5_eq (x1 x5 x6 x7 x8 x9 x10 : AV) (m : Mem) (K : List Item) : L5 x1 x5 x6 x7 x8 x9 x10 m K = den prog ann 77 (.code r12 :: .code i5 :: .code k6 :: .code r13 :: .inLoop l5 :: .inBlock 5 :: K) ⟨[(1, x1), (5, x5), (6, x6), (7, x7), (8, x8), (9, x9), (10, x10)], 93, m⟩ := den_flat hf (l := [r12, i5, k6, r13]) (by kernel_rfl) _ _
theorem r12_eq : den prog ann 77 (.code r12 :: K) s = mreg prog ann 77 (some [1, 5, 6, 7, 8, 9, 10]) [] none [] [qC 45 10,qC 46 5,qA 47 lenSl 46,qB 48 (binA prog .lss 3) 45 47] K s := (den_reg hf _ K s).trans (by kernel_rfl)
theorem i5_eq : den prog ann 77 (.code i5 :: K) s = ifV prog ann 77 48 i5t i5e K s (s.get 48) := den_if hf (by kernel_rfl) K s
theorem i5t_eq : den prog ann 77 (.code i5t :: K) s = den prog ann 77 (K) s := den_flat hf (l := []) (by kernel_rfl) K s
theorem i5e_eq : den prog ann 77 (.code i5e :: K) s = den prog ann 77 (.code (.exit 5) :: K) s := den_flat hf (l := [(.exit 5)]) (by kernel_rfl) K s
theorem k6_eq : den prog ann 77 (.code k6 :: K) s = den prog ann 77 (.code r14 :: .inBlock 6 :: K) s := den_blk hf (b := blkOf k6) (l := [r14]) (by kernel_rfl) (by kernel_rfl) K s
theorem r14_eq : den prog ann 77 (.code r14 :: K) s = mreg prog ann 77 none [] none [] [qC 51 8,qC 52 5,qC 53 5,qC 54 9,qB 55 (idxSl 1) 53 54,qA 56 (loadF false 1) 55,qC 57 7,qB 58 (idxSl 1) 56 57,qA 59 (loadF false 1) 58,qB 60 (idxSl 1) 52 59,qA 61 (loadF false 1) 60,qC 62 10,qB 63 (idxSl 1) 61 62,qA 64 (loadF false 1) 63,qB 65 (idxSl 1) 51 64,⟨none, none, .w false none fun s => stA false 1 s.m (s.get 65) (.bool true)⟩] K s := (den_reg hf _ K s).trans (by kernel_rfl)
theorem r13_eq : den prog ann 77 (.code r13 :: K) s = mreg prog ann 77 (some [1, 5, 6, 7, 8, 9, 10]) [] none [] [qC 49 10,qF 50 fun s => binA prog .add 3 (s.get 49) (.int .i64 1),qC 10 50] K s := (den_reg hf _ K s).trans (by kernel_rfl)
theorem i4e_eq : den prog ann 77 (.code i4e :: K) s = den prog ann 77 (K) s := den_flat hf (l := []) (by kernel_rfl) K s
theorem r8_eq : den prog ann 77 (.code r8 :: K) s = mreg prog ann 77 (some [1, 5, 6, 7, 8, 9]) [] none [] [qC 27 9,qF 28 fun s => binA prog .add 3 (s.get 27) (.int .i64 1),qC 9 28] K s := (den_reg hf _ K s).trans (by kernel_rfl)
theorem r19_eq : den prog ann 77 (.code r19 :: K) s = mreg prog ann 77 (some [1, 5, 6, 7, 8]) [8] none [] [qC 88 6,qC 89 8,qF 90 fun s => bslF 1 (bslA 1 1 [.nils] [(0, (s.get 89))]),⟨some 91, none, .w false none fun s => appendA 1 24 s.m (s.get 88) (s.get 90)⟩,qC 6 91] K s := (den_reg hf _ K s).trans (by kernel_rfl)
theorem r4_eq : den prog ann 77 (.code r4 :: K) s = mreg prog ann 77 (some [1, 5, 6, 7]) [] none [] [qC 18 7,qF 19 fun s => binA prog .add 3 (s.get 18) (.int .i64 1),qC 7 19] K s := (den_reg hf _ K s).trans (by kernel_rfl)
theorem r20_eq : den prog ann 77 (.code r20 :: K) s = mreg prog ann 77 (some [6]) [] none [] [qC 92 6,qC 4 92] K s := (den_reg hf _ K s).trans (by kernel_rfl)
theorem ret_eq : den prog ann 77 (.code .ret :: K) s = finM true [fun s => some (s.get 4)] s := (den_ret hf K s).trans (by kernel_rfl)
theorem nil_eq (s : St) : den prog ann 77 [] s = finM true [fun s => some (s.get 4)] s := (den_nil hf s).trans (by kernel_rfl)
theorem inBlock_eq (id : Nat) (K : List Item) (s : St) : den prog ann 77 (.inBlock id :: K) s = den prog ann 77 K s := den_inBlock hf id K s
theorem exit_eq (id : Nat) (K : List Item) (s : St) : den prog ann 77 (.code (.exit id) :: K) s = exitV prog ann 77 (exitTo id K) s := den_exitV hf id K s
theorem call_eq (v0 v1 : AV) (m : Mem) (h : closedL [v0, v1] = true) : denC prog ann 77 [v0, v1] m = (den prog ann 77 [.code b] ⟨[(0, v0), (1, v1)], 93, Mem.empty⟩).bind fun r => some (r.1, m) := (denC_pure hf (b := b) (by kernel_rfl) (by kernel_rfl) (by kernel_rfl) h m).trans (by kernel_rfl)
theorem pure_eq : (ann 77).pure = true := by kernel_rfl
attribute [simp] b_eq r0_eq r1_eq r2_eq k0_eq l0_eq r3_eq i0_eq i0t_eq i0e_eq k1_eq r5_eq r6_eq k2_eq l2_eq r7_eq i1_eq i1t_eq i1e_eq k3_eq r9_eq k4_eq r15_eq i2_eq i2t_eq r16_eq i2e_eq r17_eq i3_eq i3t_eq r18_eq i3e_eq r10_eq i4_eq i4t_eq r11_eq k5_eq l5_eq r12_eq i5_eq i5t_eq i5e_eq k6_eq r14_eq r13_eq i4e_eq r8_eq r19_eq r4_eq r20_eq ret_eq nil_eq inBlock_eq exit_eq pure_eq
end
end r07_Monoid_below
namespace r07_Monoid_Table
noncomputable section
variable (K : List Item) (s : St)
def b : Code := (Try.f90.body).getD .skip
theorem hf : prog.funcs[90]? = some Try.f90 := by kernel_rfl
def r0 := findReg b 0
def r1 := findReg b 1
def r2 := findReg b 2
def k0 := findBlk b 0
def l0 := loopOf k0
def L0 (x1 x3 x4 : AV) (m : Mem) (K : List Item) : Option Res := den prog ann 90 (.code l0 :: .inLoop l0 :: .inBlock 0 :: K) ⟨[(1, x1), (3, x3), (4, x4)], 35, m⟩
def r3 := findReg b 3
def i0 := findCond b 0
def i0t := thenOf i0
def i0e := elseOf i0
def k1 := findBlk b 1
def r5 := findReg b 5
def r6 := findReg b 6
def k2 := findBlk b 2
def l2 := loopOf k2
def L2 (x1 x3 x4 x5 x6 : AV) (m : Mem) (K : List Item) : Option Res := den prog ann 90 (.code l2 :: .inLoop l2 :: .inBlock 2 :: K) ⟨[(1, x1), (3, x3), (4, x4), (5, x5), (6, x6)], 35, m⟩
def r7 := findReg b 7
def i1 := findCond b 1
def i1t := thenOf i1
def i1e := elseOf i1
def k3 := findBlk b 3
def r9 := findReg b 9
def r8 := findReg b 8
def r10 := findReg b 10
def r4 := findReg b 4
def r11 := findReg b 11
theorem b_eq : den prog ann 90 (.code b :: K) s = den prog ann 90 (.code r0 :: .code r1 :: .code r2 :: .code k0 :: .code r11 :: .code .ret :: K) s := den_flat hf (l := [r0, r1, r2, k0, r11, .ret]) (by kernel_rfl) K s
theorem r0_eq : den prog ann 90 (.code r0 :: K) s = mreg prog ann 90 none [] none [] [qA 1 frozenPtr 0,qF 2 fun s => some (.nils)] K s := (den_reg hf _ K s).trans (by kernel_rfl)
theorem r1_eq : den prog ann 90 (.code r1 :: K) s = mreg prog ann 90 none [] none [] [⟨some 7, none, .w false none fun s => bslM s.m 0 (bslA 1 0 [.nils] [])⟩,qC 3 7] K s := (den_reg hf _ K s).trans (by kernel_rfl)
theorem r2_eq : den prog ann 90 (.code r2 :: K) s = mreg prog ann 90 none [] none [] [qF 4 fun s => some (.int .i64 0)] K s := (den_reg hf _ K s).trans (by kernel_rfl)
theorem k0_eq (K : List Item) (t : List (Nat × AV)) (m : Mem) : den prog ann 90 (.code k0 :: K) ⟨t, 35, m⟩ = L0 (get t 1) (get t 3) (get t 4) m K := den_loop_enter hf (b := l0) (id := 3) (l := [1, 3, 4]) (by kernel_rfl) (by kernel_rfl) (by kernel_rfl) K _
theorem l0_eq (K : List Item) (t : List (Nat × AV)) (m : Mem) : den prog ann 90 (.inLoop l0 :: .inBlock 0 :: K) ⟨t, 35, m⟩ = L0 (get t 1) (get t 3) (get t 4) m K := den_loop_again hf (id := 3) (l := [1, 3, 4]) (by kernel_rfl) (by kernel_rfl) (.inBlock 0 :: K) _
theorem L0_eq (x1 x3 x4 : AV) (m : Mem) (K : List Item) : L0 x1 x3 x4 m K = den prog ann 90 (.code r3 :: .code i0 :: .code k1 :: .code r4 :: .inLoop l0 :: .inBlock 0 :: K) ⟨[(1, x1), (3, x3), (4, x4)], 35, m⟩ := den_flat hf (l := [r3, i0, k1, r4]) (by kernel_rfl) _ _
theorem r3_eq : den prog ann 90 (.code r3 :: K) s = mreg prog ann 90 (some [1, 3, 4]) [] none [] [qC 8 4,qA 9 (fieldA 0) 1,qA 10 (loadF false 1) 9,qA 11 lenSl 10,qB 12 (binA prog .lss 3) 8 11] K s := (den_reg hf _ K s).trans (by kernel_rfl)
theorem i0_eq : den prog ann 90 (.code i0 :: K) s = ifV prog ann 90 12 i0t i0e K s (s.get 12) := den_if hf (by kernel_rfl) K s
theorem i0t_eq : den prog ann 90 (.code i0t :: K) s = den prog ann 90 (K) s := den_flat hf (l := []) (by kernel_rfl) K s
theorem i0e_eq : den prog ann 90 (.code i0e :: K) s = den prog ann 90 (.code (.exit 0) :: K) s := den_flat hf (l := [(.exit 0)]) (by kernel_rfl) K s
theorem k1_eq : den prog ann 90 (.code k1 :: K) s = den prog ann 90 (.code r5 :: .code r6 :: .code k2 :: .code r10 :: .inBlock 1 :: K) s := den_blk hf (b := blkOf k1) (l := [r5, r6, k2, r10]) (by kernel_rfl) (by kernel_rfl) K s
theorem r5_eq : den prog ann 90 (.code r5 :: K) s = mreg prog ann 90 none [] none [] [⟨some 15, none, .w false none fun s => bslM s.m 0 (bslA 1 0 [.int .i64 0] [])⟩,qC 5 15] K s := (den_reg hf _ K s).trans (by kernel_rfl)
theorem r6_eq : den prog ann 90 (.code r6 :: K) s = mreg prog ann 90 none [] none [] [qF 6 fun s => some (.int .i64 0)] K s := (den_reg hf _ K s).trans (by kernel_rfl)
theorem k2_eq (K : List Item) (t : List (Nat × AV)) (m : Mem) : den prog ann 90 (.code k2 :: K) ⟨t, 35, m⟩ = L2 (get t 1) (get t 3) (get t 4) (get t 5) (get t 6) m K := den_loop_enter hf (b := l2) (id := 7) (l := [1, 3, 4, 5, 6]) (by kernel_rfl) (by kernel_rfl) (by kernel_rfl) K _
theorem l2_eq (K : List Item) (t : List (Nat × AV)) (m : Mem) : den prog ann 90 (.inLoop l2 :: .inBlock 2 :: K) ⟨t, 35, m⟩ = L2 (get t 1) (get t 3) (get t 4) (get t 5) (get t 6) m K := den_loop_again hf (id := 7) (l := [1, 3, 4, 5, 6]) (by kernel_rfl) (by kernel_rfl) (.inBlock 2 :: K) _
theorem L2_eq (x1 x3 x4 x5 x6 : AV) (m : Mem) (K : List Item) : L2 x1 x3 x4 x5 x6 m K = den prog ann 90 (.code r7 :: .code i1 :: .code k3 :: .code r8 :: .inLoop l2 :: .inBlock 2 :: K) ⟨[(1, x1), (3, x3), (4, x4), (5, x5), (6, x6)], 35, m⟩ := den_flat hf (l := [r7, i1, k3, r8]) (by kernel_rfl) _ _
theorem r7_eq : den prog ann 90 (.code r7 :: K) s = mreg prog ann 90 (some [1, 3, 4, 5, 6]) [] none [] [qC 16 6,qA 17 (fieldA 0) 1,qA 18 (loadF false 1) 17,qA 19 lenSl 18,qB 20 (binA prog .lss 3) 16 19] K s := (den_reg hf _ K s).trans (by kernel_rfl)
theorem i1_eq : den prog ann 90 (.code i1 :: K) s = ifV prog ann 90 20 i1t i1e K s (s.get 20) := den_if hf (by kernel_rfl) K s
theorem i1t_eq : den prog ann 90 (.code i1t :: K) s = den prog ann 90 (K) s := den_flat hf (l := []) (by kernel_rfl) K s
theorem i1e_eq : den prog ann 90 (.code i1e :: K) s = den prog ann 90 (.code (.exit 2) :: K) s := den_flat hf (l := [(.exit 2)]) (by kernel_rfl) K s
theorem k3_eq : den prog ann 90 (.code k3 :: K) s = den prog ann 90 (.code r9 :: .inBlock 3 :: K) s := den_blk hf (b := blkOf k3) (l := [r9]) (by kernel_rfl) (by kernel_rfl) K s
theorem r9_eq : den prog ann 90 (.code r9 :: K) s = mreg prog ann 90 none [] none [] [qC 23 5,qA 24 (loadF true 2) 1,qC 25 4,qC 26 6,⟨some 27, none, .c 0 (fun s => (.fn 74 [] [])) fun s => [(s.get 24), (s.get 25), (s.get 26)]⟩,qF 28 fun s => bslF 1 (bslA 1 1 [.int .i64 0] [(0, (s.get 27))]),⟨some 29, none, .w false none fun s => appendA 1 8 s.m (s.get 23) (s.get 28)⟩,qC 5 29] K s := (den_reg hf _ K s).trans (by kernel_rfl)
theorem r8_eq : den prog ann 90 (.code r8 :: K) s = mreg prog ann 90 (some [1, 3, 4, 5, 6]) [] none [] [qC 21 6,qF 22 fun s => binA prog .add 3 (s.get 21) (.int .i64 1),qC 6 22] K s := (den_reg hf _ K s).trans (by kernel_rfl)
theorem r10_eq : den prog ann 90 (.code r10 :: K) s = mreg prog ann 90 (some [1, 3, 4, 5]) [5] none [] [qC 30 3,qC 31 5,qF 32 fun s => bslF 1 (bslA 1 1 [.nils] [(0, (s.get 31))]),⟨some 33, none, .w false none fun s => appendA 1 24 s.m (s.get 30) (s.get 32)⟩,qC 3 33] K s := (den_reg hf _ K s).trans (by kernel_rfl)
theorem r4_eq : den prog ann 90 (.code r4 :: K) s = mreg prog ann 90 (some [1, 3, 4]) [] none [] [qC 13 4,qF 14 fun s => binA prog .add 3 (s.get 13) (.int .i64 1),qC 4 14] K s := (den_reg hf _ K s).trans (by kernel_rfl)
theorem r11_eq : den prog ann 90 (.code r11 :: K) s = mreg prog ann 90 (some [3]) [] none [] [qC 34 3,qC 2 34] K s := (den_reg hf _ K s).trans (by kernel_rfl)
theorem ret_eq : den prog ann 90 (.code .ret :: K) s = finM true [fun s => some (s.get 2)] s := (den_ret hf K s).trans (by kernel_rfl)
theorem nil_eq (s : St) : den prog ann 90 [] s = finM true [fun s => some (s.get 2)] s := (den_nil hf s).trans (by kernel_rfl)
theorem inBlock_eq (id : Nat) (K : List Item) (s : St) : den prog ann 90 (.inBlock id :: K) s = den prog ann 90 K s := den_inBlock hf id K s
theorem exit_eq (id : Nat) (K : List Item) (s : St) : den prog ann 90 (.code (.exit id) :: K) s = exitV prog ann 90 (exitTo id K) s := den_exitV hf id K s
theorem call_eq (v0 : AV) (m : Mem) (h : closedL [v0] = true) : denC prog ann 90 [v0] m = (den prog ann 90 [.code b] ⟨[(0, v0)], 35, Mem.empty⟩).bind fun r => some (r.1, m) := (denC_pure hf (b := b) (by kernel_rfl) (by kernel_rfl) (by kernel_rfl) h m).trans (by kernel_rfl)
theorem pure_eq : (ann 90).pure = true := by kernel_rfl
attribute [simp] b_eq r0_eq r1_eq r2_eq k0_eq l0_eq r3_eq i0_eq i0t_eq i0e_eq k1_eq r5_eq r6_eq k2_eq l2_eq r7_eq i1_eq i1t_eq i1e_eq k3_eq r9_eq r8_eq r10_eq r4_eq r11_eq ret_eq nil_eq inBlock_eq exit_eq pure_eq
end
end r07_Monoid_Table
end Go.Proofs.Ythnpflkpjimkfaa
