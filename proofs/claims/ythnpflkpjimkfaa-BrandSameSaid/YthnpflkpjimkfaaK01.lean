/-
  BODIES OF FUNCTIONS OF THE PROGRAM AS SMALL OPERATIONS (written by gen.py; checked by the kernel against the program). Conditions: none.
-/
import Derived.Test.YthnpflkpjimkfaaKAmH
import Derived.Test.YthnpflkpjimkfaaK00
set_option linter.all false
namespace Go.Proofs.Ythnpflkpjimkfaa
open Go.AM
open Go.Proofs.Try (prog)
set_option maxRecDepth 100000
set_option linter.all false
namespace brand_Differ
noncomputable section
variable (K : List Item) (s : St)
def b : Code := (Try.f33.body).getD .skip
theorem hf : prog.funcs[33]? = some Try.f33 := by kernel_rfl
def r0 := findReg b 0
def r1 := findReg b 1
def i0 := findCond b 0
def i0t := thenOf i0
def i0e := elseOf i0
def r2 := findReg b 2
def r3 := findReg b 3
def r4 := findReg b 4
def k0 := findBlk b 0
def l0 := loopOf k0
def L0 (x2 x3 x6 x7 : AV) (m : Mem) (K : List Item) : Option Res := den prog ann 33 (.code l0 :: .inLoop l0 :: .inBlock 0 :: K) ⟨[(2, x2), (3, x3), (6, x6), (7, x7)], 111, m⟩
def r5 := findReg b 5
def i1 := findCond b 1
def i1t := thenOf i1
def i1e := elseOf i1
def k1 := findBlk b 1
def r7 := findReg b 7
def r8 := findReg b 8
def i2 := findCond b 2
def i2t := thenOf i2
def i2e := elseOf i2
def r9 := findReg b 9
def r10 := findReg b 10
def k2 := findBlk b 2
def l2 := loopOf k2
def L2 (x2 x3 x6 x7 x8 x67 x68 : AV) (m : Mem) (K : List Item) : Option Res := den prog ann 33 (.code l2 :: .inLoop l2 :: .inBlock 2 :: K) ⟨[(2, x2), (3, x3), (6, x6), (7, x7), (8, x8), (67, x67), (68, x68)], 111, m⟩
def r11 := findReg b 11
def i3 := findCond b 3
def i3t := thenOf i3
def i3e := elseOf i3
def k3 := findBlk b 3
def r12 := findReg b 12
def r13 := findReg b 13
def r14 := findReg b 14
def r15 := findReg b 15
def i4 := findCond b 4
def i4t := thenOf i4
def i4e := elseOf i4
def r16 := findReg b 16
def r17 := findReg b 17
def r18 := findReg b 18
def r6 := findReg b 6
def r19 := findReg b 19
theorem b_eq : den prog ann 33 (.code b :: K) s = den prog ann 33 (.code r0 :: .code r1 :: .code i0 :: .code r3 :: .code r4 :: .code k0 :: .code r19 :: .code .ret :: K) s := den_flat hf (l := [r0, r1, i0, r3, r4, k0, r19, .ret]) (by kernel_rfl) K s
theorem r0_eq : den prog ann 33 (.code r0 :: K) s = mreg prog ann 33 none [] none [] [qA 2 frozenPtr 0,qA 3 frozenPtr 1,qF 4 fun s => some (.str []),qF 5 fun s => some (.int .i64 0)] K s := (den_reg hf _ K s).trans (by kernel_rfl)
theorem r1_draw : drawOk (fun g => (ann g).pure) (modeOf (ann 33) (idOf r1)) (frzOf (ann 33) (idOf r1)) (opsOf r1) = true := drawOk_of (an := [0, 1, 3, 7, 15, 31, 63, 127, 255, 511, 1023, 2047, 4095, 8191, 511, 16895, 49663, 115199, 246271, 524287, 1048575]) (by kernel_rfl) (by kernel_rfl)
theorem r1_eq : den prog ann 33 (.code r1 :: K) s = mreg prog ann 33 none [] (some 21) [] [qA 13 (loadF true 2) 2,⟨some 14, none, .c 0 (fun s => (.fn 55 [] [])) fun s => [(s.get 13)]⟩,qA 15 (unA .not) 14,qC 16 15,⟨some 17, some (16, false), .v fun s => loadF true 2 (s.get 3)⟩,⟨some 18, some (16, false), .c 0 (fun s => (.fn 55 [] [])) fun s => [(s.get 17)]⟩,⟨some 19, some (16, false), .v fun s => unA .not (s.get 18)⟩,qF 20 fun s => pickA (s.get 16) (.bool true) (s.get 19),qC 21 20,⟨some 22, some (21, false), .v fun s => fieldA 0 (s.get 2)⟩,⟨some 23, some (21, false), .v fun s => loadF false 1 (s.get 22)⟩,⟨some 24, some (21, false), .v fun s => idxSl 1 (s.get 23) (.int .i64 0)⟩,⟨some 25, some (21, false), .v fun s => loadF false 1 (s.get 24)⟩,⟨some 26, some (21, false), .v fun s => lenSl (s.get 25)⟩,⟨some 27, some (21, false), .v fun s => fieldA 0 (s.get 3)⟩,⟨some 28, some (21, false), .v fun s => loadF false 1 (s.get 27)⟩,⟨some 29, some (21, false), .v fun s => idxSl 1 (s.get 28) (.int .i64 0)⟩,⟨some 30, some (21, false), .v fun s => loadF false 1 (s.get 29)⟩,⟨some 31, some (21, false), .v fun s => lenSl (s.get 30)⟩,⟨some 32, some (21, false), .v fun s => binA prog .neq 3 (s.get 26) (s.get 31)⟩,qF 33 fun s => pickA (s.get 21) (.bool true) (s.get 32)] K s := (den_regD hf r1_draw K s).trans (by kernel_rfl)
theorem i0_eq : den prog ann 33 (.code i0 :: K) s = ifV prog ann 33 33 i0t i0e K s (s.get 33) := den_if hf (by kernel_rfl) K s
theorem i0t_eq : den prog ann 33 (.code i0t :: K) s = den prog ann 33 (.code r2 :: .code .ret :: K) s := den_flat hf (l := [r2, .ret]) (by kernel_rfl) K s
theorem r2_eq : den prog ann 33 (.code r2 :: K) s = mreg prog ann 33 none [] none [] [qF 4 fun s => some (.str []),qF 5 fun s => some (.int .i64 1)] K s := (den_reg hf _ K s).trans (by kernel_rfl)
theorem i0e_eq : den prog ann 33 (.code i0e :: K) s = den prog ann 33 (K) s := den_flat hf (l := []) (by kernel_rfl) K s
theorem r3_eq : den prog ann 33 (.code r3 :: K) s = mreg prog ann 33 none [] none [] [⟨some 34, none, .w false none fun s => some (.map s.m.nx, s.m.new (.map 0 [] []))⟩,qF 35 fun s => bldA (plc [(0, 1), (1, 1)]) [.int .i64 0, .int .i64 0] [],⟨none, none, .w false none fun s => updM prog s.m 114 (s.get 34) (s.get 35) (.str [])⟩,qC 36 34,qC 6 36] K s := (den_reg hf _ K s).trans (by kernel_rfl)
theorem r4_eq : den prog ann 33 (.code r4 :: K) s = mreg prog ann 33 none [] none [] [qF 37 fun s => bldA (plc [(0, 1), (1, 1)]) [.int .i64 0, .int .i64 0] [],⟨some 38, none, .w false none fun s => bslM s.m 1 (bslA 2 1 [.int .i64 0, .int .i64 0] [(0, (s.get 37))])⟩,qC 7 38] K s := (den_reg hf _ K s).trans (by kernel_rfl)
theorem k0_eq (K : List Item) (t : List (Nat × AV)) (m : Mem) : den prog ann 33 (.code k0 :: K) ⟨t, 111, m⟩ = L0 (get t 2) (get t 3) (get t 6) (get t 7) m K := den_loop_enter hf (b := l0) (id := 5) (l := [2, 3, 6, 7]) (by kernel_rfl) (by kernel_rfl) (by kernel_rfl) K _
theorem l0_eq (K : List Item) (t : List (Nat × AV)) (m : Mem) : den prog ann 33 (.inLoop l0 :: .inBlock 0 :: K) ⟨t, 111, m⟩ = L0 (get t 2) (get t 3) (get t 6) (get t 7) m K := den_loop_again hf (id := 5) (l := [2, 3, 6, 7]) (by kernel_rfl) (by kernel_rfl) (.inBlock 0 :: K) _
theorem L0_eq (x2 x3 x6 x7 : AV) (m : Mem) (K : List Item) : L0 x2 x3 x6 x7 m K = den prog ann 33 (.code r5 :: .code i1 :: .code k1 :: .code r6 :: .inLoop l0 :: .inBlock 0 :: K) ⟨[(2, x2), (3, x3), (6, x6), (7, x7)], 111, m⟩ := den_flat hf (l := [r5, i1, k1, r6]) (by kernel_rfl) _ _
theorem r5_eq : den prog ann 33 (.code r5 :: K) s = mreg prog ann 33 (some [2, 3, 6, 7]) [] none [] [qC 39 7,qA 40 lenSl 39,qF 41 fun s => binA prog .gtr 3 (s.get 40) (.int .i64 0)] K s := (den_reg hf _ K s).trans (by kernel_rfl)
theorem i1_eq : den prog ann 33 (.code i1 :: K) s = ifV prog ann 33 41 i1t i1e K s (s.get 41) := den_if hf (by kernel_rfl) K s
theorem i1t_eq : den prog ann 33 (.code i1t :: K) s = den prog ann 33 (K) s := den_flat hf (l := []) (by kernel_rfl) K s
theorem i1e_eq : den prog ann 33 (.code i1e :: K) s = den prog ann 33 (.code (.exit 0) :: K) s := den_flat hf (l := [(.exit 0)]) (by kernel_rfl) K s
theorem k1_eq : den prog ann 33 (.code k1 :: K) s = den prog ann 33 (.code r7 :: .code r8 :: .code i2 :: .code r10 :: .code k2 :: .inBlock 1 :: K) s := den_blk hf (b := blkOf k1) (l := [r7, r8, i2, r10, k2]) (by kernel_rfl) (by kernel_rfl) K s
theorem r7_eq : den prog ann 33 (.code r7 :: K) s = mreg prog ann 33 none [] none [8] [qC 44 7,qF 45 fun s => idxSl 2 (s.get 44) (.int .i64 0),qF 46 fun s => loadA true 2 s.m (s.get 45),⟨some 8, none, .w false none fun s => newPtr s.m [.int .i64 0, .int .i64 0]⟩,⟨none, none, .w false none fun s => stA true 2 s.m (s.get 8) (s.get 46)⟩] K s := (den_reg hf _ K s).trans (by kernel_rfl)
theorem r8_draw : drawOk (fun g => (ann g).pure) (modeOf (ann 33) (idOf r8)) (frzOf (ann 33) (idOf r8)) (opsOf r8) = true := drawOk_of (an := [0, 1, 0, 4, 15, 31, 0, 64, 0, 256, 960, 1984, 4095]) (by kernel_rfl) (by kernel_rfl)
theorem r8_eq : den prog ann 33 (.code r8 :: K) s = mreg prog ann 33 none [] (some 13) [] [qA 47 (fieldA 1) 2,qA 48 (loadF false 1) 47,qA 49 (fieldA 0) 8,qA 50 (loadF false 1) 49,qB 51 (idxSl 1) 48 50,qA 52 (loadF false 1) 51,qA 53 (fieldA 1) 3,qA 54 (loadF false 1) 53,qA 55 (fieldA 1) 8,qA 56 (loadF false 1) 55,qB 57 (idxSl 1) 54 56,qA 58 (loadF false 1) 57,qB 59 (binA prog .neq 4) 52 58] K s := (den_regD hf r8_draw K s).trans (by kernel_rfl)
theorem i2_eq : den prog ann 33 (.code i2 :: K) s = ifV prog ann 33 59 i2t i2e K s (s.get 59) := den_if hf (by kernel_rfl) K s
theorem i2t_eq : den prog ann 33 (.code i2t :: K) s = den prog ann 33 (.code r9 :: .code .ret :: K) s := den_flat hf (l := [r9, .ret]) (by kernel_rfl) K s
theorem r9_eq : den prog ann 33 (.code r9 :: K) s = mreg prog ann 33 none [] none [] [qC 60 6,qA 61 (loadF true 2) 8,qF 62 fun s => lookP prog s.m 114 (.str []) (s.get 60) (s.get 61) false,qC 4 62,qF 5 fun s => some (.int .i64 0)] K s := (den_reg hf _ K s).trans (by kernel_rfl)
theorem i2e_eq : den prog ann 33 (.code i2e :: K) s = den prog ann 33 (K) s := den_flat hf (l := []) (by kernel_rfl) K s
theorem r10_eq : den prog ann 33 (.code r10 :: K) s = mreg prog ann 33 none [] none [] [qA 63 (fieldA 0) 2,qA 64 (loadF false 1) 63,qF 65 fun s => idxSl 1 (s.get 64) (.int .i64 0),qA 66 (loadF false 1) 65,qA 67 lenSl 66,qF 68 fun s => some (.int .i64 0)] K s := (den_reg hf _ K s).trans (by kernel_rfl)
theorem k2_eq (K : List Item) (t : List (Nat × AV)) (m : Mem) : den prog ann 33 (.code k2 :: K) ⟨t, 111, m⟩ = L2 (get t 2) (get t 3) (get t 6) (get t 7) (get t 8) (get t 67) (get t 68) m K := den_loop_enter hf (b := l2) (id := 11) (l := [2, 3, 6, 7, 8, 67, 68]) (by kernel_rfl) (by kernel_rfl) (by kernel_rfl) K _
theorem l2_eq (K : List Item) (t : List (Nat × AV)) (m : Mem) : den prog ann 33 (.inLoop l2 :: .inBlock 2 :: K) ⟨t, 111, m⟩ = L2 (get t 2) (get t 3) (get t 6) (get t 7) (get t 8) (get t 67) (get t 68) m K := den_loop_again hf (id := 11) (l := [2, 3, 6, 7, 8, 67, 68]) (by kernel_rfl) (by kernel_rfl) (.inBlock 2 :: K) _
theorem L2_eq (x2 x3 x6 x7 x8 x67 x68 : AV) (m : Mem) (K : List Item) : L2 x2 x3 x6 x7 x8 x67 x68 m K = den prog ann 33 (.code r11 :: .code i3 :: .code k3 :: .code r18 :: .inLoop l2 :: .inBlock 2 :: K) ⟨[(2, x2), (3, x3), (6, x6), (7, x7), (8, x8), (67, x67), (68, x68)], 111, m⟩ := den_flat hf (l := [r11, i3, k3, r18]) (by kernel_rfl) _ _
theorem r11_eq : den prog ann 33 (.code r11 :: K) s = mreg prog ann 33 (some [2, 3, 6, 7, 8, 67, 68]) [] none [] [qB 69 (binA prog .lss 3) 68 67] K s := (den_reg hf _ K s).trans (by kernel_rfl)
theorem i3_eq : den prog ann 33 (.code i3 :: K) s = ifV prog ann 33 69 i3t i3e K s (s.get 69) := den_if hf (by kernel_rfl) K s
theorem i3t_eq : den prog ann 33 (.code i3t :: K) s = den prog ann 33 (K) s := den_flat hf (l := []) (by kernel_rfl) K s
theorem i3e_eq : den prog ann 33 (.code i3e :: K) s = den prog ann 33 (.code (.exit 2) :: K) s := den_flat hf (l := [(.exit 2)]) (by kernel_rfl) K s
theorem k3_eq : den prog ann 33 (.code k3 :: K) s = den prog ann 33 (.code r12 :: .code r13 :: .code r14 :: .code r15 :: .code i4 :: .inBlock 3 :: K) s := den_blk hf (b := blkOf k3) (l := [r12, r13, r14, r15, i4]) (by kernel_rfl) (by kernel_rfl) K s
theorem r12_eq : den prog ann 33 (.code r12 :: K) s = mreg prog ann 33 none [] none [] [qC 70 68,qC 9 70] K s := (den_reg hf _ K s).trans (by kernel_rfl)
theorem r13_draw : drawOk (fun g => (ann g).pure) (modeOf (ann 33) (idOf r13)) (frzOf (ann 33) (idOf r13)) (opsOf r13) = true := drawOk_of (an := [0, 1, 0, 4, 15, 31, 0, 127, 255, 0, 512, 0, 2048, 7680, 15872, 0, 65024, 130560, 262143, 0, 1048575]) (by kernel_rfl) (by kernel_rfl)
theorem r13_eq : den prog ann 33 (.code r13 :: K) s = mreg prog ann 33 none [] (some 21) [10] [qA 71 (fieldA 0) 2,qA 72 (loadF false 1) 71,qA 73 (fieldA 0) 8,qA 74 (loadF false 1) 73,qB 75 (idxSl 1) 72 74,qA 76 (loadF false 1) 75,qC 77 9,qB 78 (idxSl 1) 76 77,qA 79 (loadF false 1) 78,qA 80 (fieldA 0) 3,qA 81 (loadF false 1) 80,qA 82 (fieldA 1) 8,qA 83 (loadF false 1) 82,qB 84 (idxSl 1) 81 83,qA 85 (loadF false 1) 84,qC 86 9,qB 87 (idxSl 1) 85 86,qA 88 (loadF false 1) 87,qF 89 fun s => bldA (plc [(0, 1), (1, 1)]) [.int .i64 0, .int .i64 0] [(0, (s.get 79)), (1, (s.get 88))],⟨some 10, none, .w false (some 19) fun s => newPtr s.m [.int .i64 0, .int .i64 0]⟩,⟨none, none, .w false (some 20) fun s => stA true 2 s.m (s.get 10) (s.get 89)⟩] K s := (den_regD hf r13_draw K s).trans (by kernel_rfl)
theorem r14_eq : den prog ann 33 (.code r14 :: K) s = mreg prog ann 33 none [] none [] [qC 91 6,qA 92 (loadF true 2) 10,qF 93 fun s => lookP prog s.m 114 (.str []) (s.get 91) (s.get 92) true,qC 90 93,qF 94 fun s => extA (s.get 90) 0,qF 95 fun s => extA (s.get 90) 1,qC 11 94,qC 12 95] K s := (den_reg hf _ K s).trans (by kernel_rfl)
theorem r15_eq : den prog ann 33 (.code r15 :: K) s = mreg prog ann 33 none [] none [] [qC 96 12,qA 97 (unA .not) 96] K s := (den_reg hf _ K s).trans (by kernel_rfl)
theorem i4_eq : den prog ann 33 (.code i4 :: K) s = ifV prog ann 33 97 i4t i4e K s (s.get 97) := den_if hf (by kernel_rfl) K s
theorem i4t_eq : den prog ann 33 (.code i4t :: K) s = den prog ann 33 (.code r16 :: .code r17 :: K) s := den_flat hf (l := [r16, r17]) (by kernel_rfl) K s
theorem r16_draw : drawOk (fun g => (ann g).pure) (modeOf (ann 33) (idOf r16)) (frzOf (ann 33) (idOf r16)) (opsOf r16) = true := drawOk_of (an := [0, 0, 0, 0, 12, 0, 32, 124, 255]) (by kernel_rfl) (by kernel_rfl)
theorem r16_eq : den prog ann 33 (.code r16 :: K) s = mreg prog ann 33 none [] (some 9) [] [qC 98 6,qA 99 (loadF true 2) 10,qC 100 6,qA 101 (loadF true 2) 8,qF 102 fun s => lookP prog s.m 114 (.str []) (s.get 100) (s.get 101) false,qC 103 9,⟨some 104, none, .c 0 (fun s => (.fn 59 [] [])) fun s => [(s.get 103)]⟩,qB 105 (binA prog .add 9) 102 104,⟨none, none, .w false (some 8) fun s => updM prog s.m 114 (s.get 98) (s.get 99) (s.get 105)⟩] K s := (den_regD hf r16_draw K s).trans (by kernel_rfl)
theorem r17_eq : den prog ann 33 (.code r17 :: K) s = mreg prog ann 33 none [] none [] [qC 106 7,qA 107 (loadF true 2) 10,qF 108 fun s => bslF 1 (bslA 2 1 [.int .i64 0, .int .i64 0] [(0, (s.get 107))]),⟨some 109, none, .w false none fun s => appendA 2 16 s.m (s.get 106) (s.get 108)⟩,qC 7 109] K s := (den_reg hf _ K s).trans (by kernel_rfl)
theorem i4e_eq : den prog ann 33 (.code i4e :: K) s = den prog ann 33 (K) s := den_flat hf (l := []) (by kernel_rfl) K s
theorem r18_eq : den prog ann 33 (.code r18 :: K) s = mreg prog ann 33 (some [2, 3, 6, 7, 8, 67, 68]) [] none [] [qF 110 fun s => binA prog .add 3 (s.get 68) (.int .i64 1),qC 68 110] K s := (den_reg hf _ K s).trans (by kernel_rfl)
theorem r6_eq : den prog ann 33 (.code r6 :: K) s = mreg prog ann 33 (some [2, 3, 6, 7]) [] none [] [qC 42 7,qF 43 fun s => sliceSl 2 (s.get 42) (some (.int .i64 1)) none,qC 7 43] K s := (den_reg hf _ K s).trans (by kernel_rfl)
theorem r19_eq : den prog ann 33 (.code r19 :: K) s = mreg prog ann 33 (some []) [] none [] [qF 4 fun s => some (.str []),qF 5 fun s => some (.int .i64 5)] K s := (den_reg hf _ K s).trans (by kernel_rfl)
theorem ret_eq : den prog ann 33 (.code .ret :: K) s = finM true [fun s => some (s.get 4), fun s => some (s.get 5)] s := (den_ret hf K s).trans (by kernel_rfl)
theorem nil_eq (s : St) : den prog ann 33 [] s = finM true [fun s => some (s.get 4), fun s => some (s.get 5)] s := (den_nil hf s).trans (by kernel_rfl)
theorem inBlock_eq (id : Nat) (K : List Item) (s : St) : den prog ann 33 (.inBlock id :: K) s = den prog ann 33 K s := den_inBlock hf id K s
theorem exit_eq (id : Nat) (K : List Item) (s : St) : den prog ann 33 (.code (.exit id) :: K) s = exitV prog ann 33 (exitTo id K) s := den_exitV hf id K s
theorem call_eq (v0 v1 : AV) (m : Mem) (h : closedL [v0, v1] = true) : denC prog ann 33 [v0, v1] m = (den prog ann 33 [.code b] ⟨[(0, v0), (1, v1)], 111, Mem.empty⟩).bind fun r => some (r.1, m) := (denC_pure hf (b := b) (by kernel_rfl) (by kernel_rfl) (by kernel_rfl) h m).trans (by kernel_rfl)
theorem pure_eq : (ann 33).pure = true := by kernel_rfl
attribute [simp] b_eq r0_eq r1_eq i0_eq i0t_eq r2_eq i0e_eq r3_eq r4_eq k0_eq l0_eq r5_eq i1_eq i1t_eq i1e_eq k1_eq r7_eq r8_eq i2_eq i2t_eq r9_eq i2e_eq r10_eq k2_eq l2_eq r11_eq i3_eq i3t_eq i3e_eq k3_eq r12_eq r13_eq r14_eq r15_eq i4_eq i4t_eq r16_eq r17_eq i4e_eq r18_eq r6_eq r19_eq ret_eq nil_eq inBlock_eq exit_eq pure_eq
end
end brand_Differ
namespace brand_letter
noncomputable section
variable (K : List Item) (s : St)
def b : Code := (Try.f59.body).getD .skip
theorem hf : prog.funcs[59]? = some Try.f59 := by kernel_rfl
def r0 := findReg b 0
def r1 := findReg b 1
theorem b_eq : den prog ann 59 (.code b :: K) s = den prog ann 59 (.code r0 :: .code r1 :: .code .ret :: K) s := den_flat hf (l := [r0, r1, .ret]) (by kernel_rfl) K s
theorem r0_eq : den prog ann 59 (.code r0 :: K) s = mreg prog ann 59 none [] none [] [qF 2 fun s => some (.str [])] K s := (den_reg hf _ K s).trans (by kernel_rfl)
theorem r1_eq : den prog ann 59 (.code r1 :: K) s = mreg prog ann 59 none [] none [] [qC 3 0,qA 4 (convInt .u8) 3,qA 5 (binA prog .add 5 (.int .u8 97)) 4,⟨some 6, none, .w false none fun s => bslM s.m 1 (bslA 1 1 [.int .u8 0] [(0, (s.get 5))])⟩,qF 7 fun s => convStr s.m (s.get 6),qC 2 7] K s := (den_reg hf _ K s).trans (by kernel_rfl)
theorem ret_eq : den prog ann 59 (.code .ret :: K) s = finM true [fun s => some (s.get 2)] s := (den_ret hf K s).trans (by kernel_rfl)
theorem nil_eq (s : St) : den prog ann 59 [] s = finM true [fun s => some (s.get 2)] s := (den_nil hf s).trans (by kernel_rfl)
theorem inBlock_eq (id : Nat) (K : List Item) (s : St) : den prog ann 59 (.inBlock id :: K) s = den prog ann 59 K s := den_inBlock hf id K s
theorem exit_eq (id : Nat) (K : List Item) (s : St) : den prog ann 59 (.code (.exit id) :: K) s = exitV prog ann 59 (exitTo id K) s := den_exitV hf id K s
theorem call_eq (v0 : AV) (m : Mem) (h : closedL [v0] = true) : denC prog ann 59 [v0] m = (den prog ann 59 [.code b] ⟨[(0, v0)], 8, Mem.empty⟩).bind fun r => some (r.1, m) := (denC_pure hf (b := b) (by kernel_rfl) (by kernel_rfl) (by kernel_rfl) h m).trans (by kernel_rfl)
theorem pure_eq : (ann 59).pure = true := by kernel_rfl
attribute [simp] b_eq r0_eq r1_eq ret_eq nil_eq inBlock_eq exit_eq pure_eq
end
end brand_letter
end Go.Proofs.Ythnpflkpjimkfaa

/-
  LETTERS AS STRINGS: the code's and the specification's. Conditions: none.
-/
namespace Go.Proofs.Ythnpflkpjimkfaa
open Go.AM
open Go.Proofs.Try (prog)
set_option linter.all false
set_option maxRecDepth 100000
set_option maxHeartbeats 4000000
def ltr (a : Nat) : List UInt8 := [UInt8.ofNat (97 + a)]
theorem letter_spec {a : Nat} (h : a < 3) (m : Mem) : denC prog ann 59 [.int .i64 a] m = some (.str (ltr a), m) := by
  rw [brand_letter.call_eq _ _ (by simp)]
  rcases (by omega : a = 0 ∨ a = 1 ∨ a = 2) with rfl | rfl | rfl
  · simp [ltr, convStr, bytesOf, sliceStr, bnds, bnd, IntKind.wrap, IntKind.min, IntKind.max, IntKind.signed, IntKind.bits]; done
  · simp [ltr, convStr, bytesOf, sliceStr, bnds, bnd, IntKind.wrap, IntKind.min, IntKind.max, IntKind.signed, IntKind.bits]; done
  · simp [ltr, convStr, bytesOf, sliceStr, bnds, bnd, IntKind.wrap, IntKind.min, IntKind.max, IntKind.signed, IntKind.bits]; done
end Go.Proofs.Ythnpflkpjimkfaa

/-
  PAIRS OF STATES AS CELLS AND AS KEYS. Conditions: none.
-/
namespace Go.Proofs.Ythnpflkpjimkfaa
open Go.AM
open Go.Proofs.Try (prog)
set_option linter.all false
set_option maxRecDepth 100000
set_option maxHeartbeats 4000000
@[simp] theorem neqB (a b : Bool) : binA prog .neq 4 (.bool a) (.bool b) = some (.bool (!(a == b))) := by simp [binA, eqT, eqA, u4']
abbrev PN := Nat × Nat
def cP (x : PN) : List AV := [.int .i64 ((x.1 : Nat) : Int), .int .i64 ((x.2 : Nat) : Int)]
def encP (x : PN) : AV := .agg (cP x)
def flP : List PN → List AV
  | [] => []
  | x :: l => cP x ++ flP l
@[simp] theorem cP_len (x : PN) : (cP x).length = 2 := rfl
@[simp] theorem flP_len : ∀ l : List PN, (flP l).length = l.length * 2
  | [] => rfl
  | x :: l => by rw [flP, List.length_append, flP_len l, cP_len, List.length_cons]; omega
theorem flP_app : ∀ l r : List PN, flP (l ++ r) = flP l ++ flP r
  | [], r => rfl
  | x :: l, r => by rw [List.cons_append, flP, flP_app l r, flP, List.append_assoc]
theorem flP_drop : ∀ (i : Nat) (l : List PN), (flP l).drop (i * 2) = flP (l.drop i)
  | 0, l => by simp
  | i + 1, [] => by simp [flP]
  | i + 1, x :: l => by
    rw [flP, Nat.succ_mul, Nat.add_comm, ← List.drop_drop]
    simp [cP, flP_drop i l]
theorem flP_at {l : List PN} {i : Nat} {x : PN} (h : l[i]? = some x) : ((flP l).drop (i * 2)).take 2 = cP x := by
  rw [flP_drop]
  have hi := (List.getElem?_eq_some_iff.1 h).1
  have e := (List.getElem?_eq_some_iff.1 h).2
  rw [List.drop_eq_getElem_cons hi, e]
  rfl
theorem fl114 : flatT prog 114 = some [3, 3] := by kernel_rfl
theorem sc3 (n : Int) : scV prog 3 (.int .i64 n) = true := by simp [scV, u3]
theorem keysP {t : TypeId} (h : flatT prog t = some [3, 3]) (ok : PN → Prop) : Keys t encP ok := by
  refine ⟨fun a b _ _ => ?_, fun a _ => ?_⟩
  · obtain ⟨a1, a2⟩ := a
    obtain ⟨b1, b2⟩ := b
    by_cases e1 : a1 = b1
    · by_cases e2 : a2 = b2
      · simp [keyEq, encP, cP, h, eqCs, sc3, eqSc, e1, e2]
      · have : ((a2 : Int) == (b2 : Int)) = false := by rw [beq_eq_false_iff_ne]; omega
        simp [keyEq, encP, cP, h, eqCs, sc3, eqSc, e1, e2, Prod.ext_iff, this]
    · have : ((a1 : Int) == (b1 : Int)) = false := by rw [beq_eq_false_iff_ne]; omega
      simp [keyEq, encP, cP, h, eqCs, sc3, eqSc, e1, Prod.ext_iff, this]
  · obtain ⟨a1, a2⟩ := a
    simp [keyT, encP, cP, h, scL, sc3]
def allP : List PN := (List.range 6).flatMap fun a => (List.range 6).map fun b => (a, b)
theorem allP_len : allP.length = 36 := by decide
theorem allP_mem {x : PN} (h1 : x.1 < 6) (h2 : x.2 < 6) : x ∈ allP := by
  obtain ⟨a, b⟩ := x
  simp [allP]
  exact ⟨h1, h2⟩
theorem pairs_few {ok : PN → Prop} (hok : ∀ x, ok x → x.1 < 6 ∧ x.2 < 6) {l : List PN} (hn : l.Nodup) (ha : ∀ x ∈ l, ok x) : l.length ≤ 36 := by
  have := nodup_sub hn (L := allP) fun x hx => allP_mem (hok x (ha x hx)).1 (hok x (ha x hx)).2
  rwa [allP_len] at this
end Go.Proofs.Ythnpflkpjimkfaa

/-
  THE LEAST WORD THAT ONLY ONE OF TWO BRANDS ACCEPTS: the program's search. Conditions: none.
-/
namespace Go.Proofs.Ythnpflkpjimkfaa
open Go.AM
open Go.Proofs.Try (prog)
set_option linter.all false
set_option maxRecDepth 100000
set_option maxHeartbeats 8000000
def nxP (rows rows' : List (List Int)) (x : PN) (a : Nat) : PN := (nx rows x.1 a, nx rows' x.2 a)
def extL (w : List UInt8) (a : Nat) : List UInt8 := w ++ ltr a
def okP (n n' : Nat) (x : PN) : Prop := x.1 < n ∧ x.2 < n'
noncomputable def KD : List Item := [.code brand_Differ.r19, .code .ret]
noncomputable def KI : List Item := .inBlock 1 :: .code brand_Differ.r6 :: .inLoop brand_Differ.l0 :: .inBlock 0 :: KD
theorem dfr_in {nv gv nv' gv' : AV} {ps ps' : List AV} {rows rows' : List (List Int)} {good good' : List Bool} {k : Nat} (hn : IsRows nv ps rows) (hn' : IsRows nv' ps' rows') (v : VB rows good k) (v' : VB rows' good' k) {iw i : Nat} {x : PN} {w : List UInt8} (hx : okP rows.length rows'.length x) {r : Res} :
    ∀ (j a iq : Nat) (m : Mem) (q : AV) (S : List PN × List (List UInt8)), a + j = k → Mp m iw (S.1.map encP) (S.2.map .str) → Gl m q iq 2 (S.1.length - i) (flP (S.1.drop i)) → iw ≠ iq → S.1[i]? = some x → S.2[i]? = some w → BOk (okP rows.length rows'.length) List.length S →
    (∀ m' q' iq', Mp m' iw ((bIn (nxP rows rows') extL x w j a S).1.map encP) ((bIn (nxP rows rows') extL x w j a S).2.map .str) → Gl m' q' iq' 2 ((bIn (nxP rows rows') extL x w j a S).1.length - i) (flP ((bIn (nxP rows rows') extL x w j a S).1.drop i)) → iw ≠ iq' →
      brand_Differ.L0 (.fptr [nv, gv]) (.fptr [nv', gv']) (.map iw) (tlV q' 2) m' KD = some r) →
    brand_Differ.L2 (.fptr [nv, gv]) (.fptr [nv', gv']) (.map iw) q (.fptr (cP x)) (.int .i64 k) (.int .i64 a) m KI = some r := by
  intro j
  induction j with
  | zero =>
    intro a iq m q S h1 hm hq hne hS1 hS2 hS hk
    have e : a = k := by omega
    subst e
    have hi := (List.getElem?_eq_some_iff.1 hS1).1
    have hk := hk m q iq hm hq hne
    rw [brand_Differ.L2_eq]
    simp [KI, hq.cut (by omega), hk]
    done
  | succ j ih =>
    intro a iq m q S h1 hm hq hne hS1 hS2 hS hk
    have ha : a < k := by omega
    have hi := (List.getElem?_eq_some_iff.1 hS1).1
    obtain ⟨x1, x2⟩ := x
    obtain ⟨hx1, hx2⟩ := hx
    have hx1 : x1 < rows.length := hx1
    have hx2 : x2 < rows'.length := hx2
    have b := v.rl x1 hx1
    have b' := v'.rl x2 hx2
    obtain ⟨c1, c2⟩ := nx_lt v hx1 ha
    obtain ⟨c1', c2'⟩ := nx_lt v' hx2 ha
    have iw1 := hn.row x1 hx1
    have iw2 := hn'.row x2 hx2
    have hwi : IntKind.wrap .i64 ((a : Int) + 1) = (a : Int) + 1 := wrap_id (by omega) (by have := v.k3; omega)
    have ha3 : a < 3 := by have := v.k3; omega
    have d1 := iw1.idx (i := a) (by omega) .i64
    have d2 := iw2.idx (i := a) (by omega) .i64
    have e1 := ints_head (l := cth rows x1) (i := a) (by omega)
    have e2 := ints_head (l := cth rows' x2) (i := a) (by omega)
    rw [c2] at e1
    rw [c2'] at e2
    have hlt := fun m => letter_spec ha3 m
    have hiq : iq < m.nx := hq.lt
    have hiw : iw < m.nx := hm.2
    have few := pairs_few (ok := okP rows.length rows'.length) (fun x h => ⟨by have := v.n6; have := h.1; omega, by have := v'.n6; have := h.2; omega⟩) hS.nd hS.all
    have hm1 : Mp ⟨upd m.h (m.nx + 19) none, m.nx + 21⟩ iw (S.1.map encP) (S.2.map .str) := hm.frame (updNe (by omega)) (by show m.nx ≤ m.nx + 21; omega)
    have hm2 : Mp ⟨upd m.h (m.nx + 19) none, m.nx + 30⟩ iw (S.1.map encP) (S.2.map .str) := hm.frame (updNe (by omega)) (by show m.nx ≤ m.nx + 30; omega)
    have hm3 : Mp ⟨upd m.h (m.nx + 19) none, m.nx + 29⟩ iw (S.1.map encP) (S.2.map .str) := hm.frame (updNe (by omega)) (by show m.nx ≤ m.nx + 29; omega)
    have K := keysP fl114 (okP rows.length rows'.length)
    have hy : okP rows.length rows'.length (nxP rows rows' (x1, x2) a) := ⟨c1, c1'⟩
    have l1 := hm1.look K hS.all hS.len hy (.str []) true
    have l2 := hm2.look K hS.all hS.len (c := (x1, x2)) ⟨hx1, hx2⟩ (.str []) false
    rw [lkP_at hS.nd hS1 hS2] at l2
    simp only [encP, cP, nxP] at l1 l2
    rw [bIn] at hk
    by_cases hc : nxP rows rows' (x1, x2) a ∈ S.1
    · rw [if_pos hc] at hk
      obtain ⟨i', hi'⟩ := List.getElem?_of_mem hc
      have hi2 : i' < S.2.length := by rw [← hS.len]; exact (List.getElem?_eq_some_iff.1 hi').1
      have q1 := lkP_at hS.nd hi' (List.getElem?_eq_getElem hi2)
      simp only [nxP] at q1
      rw [q1] at l1
      have st := ih (a + 1) iq ⟨upd m.h (m.nx + 19) none, m.nx + 21⟩ q S (by omega) hm1 (hq.frame (updNe (by omega)) (by show m.nx ≤ m.nx + 21; omega)) hne hS1 hS2 hS hk
      simp only [Int.natCast_add, Int.cast_ofNat_Int, cP] at st
      rw [brand_Differ.L2_eq]
      simp [cP, ha, hn.idx hx1, hn.head hx1, hn'.idx hx2, hn'.head hx2, d1, d2, e1, e2, l1, hwi, st]
      done
    · rw [if_neg hc] at hk
      have q1 := lkP_none (vs := S.2) hc
      simp only [nxP] at q1
      rw [q1] at l1
      obtain ⟨m2, p1, p2, p3, p4⟩ := hm3.put K hS.all hS.len hy hc (extL w a)
      simp only [encP, cP, nxP, extL] at p1
      have hwl : w.length ≤ 36 := by
        have h1 := hS.wl w (List.mem_of_getElem? hS2)
        have h2 := hS.len
        omega
      have hll : w.length + (ltr a).length ≤ 4611686018427387904 := by simp [ltr]; omega
      have hq2 : Gl ⟨m2.h, m.nx + 30⟩ q iq 2 (S.1.length - i) (flP (S.1.drop i)) := hq.frame (by show m2.h iq = m.h iq; rw [p4 iq (fun e => hne e.symm)]; exact updNe (by omega)) (by show m.nx ≤ m.nx + 30; omega)
      obtain ⟨q', m3, iq', g1, g2, g3, g4, g5⟩ := hq2.app (by' := 16) (ys := cP (nxP rows rows' (x1, x2) a)) rfl (by simp; omega)
      have hm4 : Mp m3 iw ((S.1 ++ [nxP rows rows' (x1, x2) a]).map encP) ((S.2 ++ [extL w a]).map .str) := p2.frame (by
        have := g5 iw (by show iw < m.nx + 30; omega) hne
        exact this) (by
        have h1 : m.nx + 30 ≤ m3.nx := g3
        have h2 : m2.nx = m.nx + 29 := p3
        omega)
      have st := ih (a + 1) iq' m3 q' (S.1 ++ [nxP rows rows' (x1, x2) a], S.2 ++ [extL w a]) (by omega) hm4 (by
        have e : (S.1 ++ [nxP rows rows' (x1, x2) a]).length - i = S.1.length - i + 1 := by simp; omega
        show Gl m3 q' iq' 2 ((S.1 ++ [nxP rows rows' (x1, x2) a]).length - i) (flP ((S.1 ++ [nxP rows rows' (x1, x2) a]).drop i))
        rw [e, List.drop_append_of_le_length (by omega), flP_app]
        exact g2) (by
        rcases g4 with e | e
        · rw [e]; exact hne
        · rw [e]; show iw ≠ m.nx + 30; omega) (by rw [List.getElem?_append_left (by omega)]; exact hS1) (by rw [List.getElem?_append_left (by rw [← hS.len]; omega)]; exact hS2) (bok_add hS hy hc (by
        have := hS.wl w (List.mem_of_getElem? hS2)
        simp [extL, ltr]; omega)) hk
      simp only [Int.natCast_add, Int.cast_ofNat_Int, cP] at st
      simp only [cP, nxP] at g1
      rw [brand_Differ.L2_eq]
      simp [cP, ha, hn.idx hx1, hn.head hx1, hn'.idx hx2, hn'.head hx2, d1, d2, e1, e2, l1, hwi, l2, hlt, p1, hll, hq.one, g1, g2.one, st]
      done
theorem flP_drop1 (l : List PN) (i : Nat) : (flP (l.drop i)).drop 2 = flP (l.drop (i + 1)) := by
  have := flP_drop 1 (l.drop i)
  simpa using this
def stP (good good' : List Bool) (x : PN) : Bool := !(bnth good x.1 == bnth good' x.2)
def resP : Option (List UInt8) → AV
  | some w => .tup [.str w, .int .i64 0]
  | none => .tup [.str [], .int .i64 5]
theorem dfr_out {nv gv nv' gv' : AV} {ps ps' : List AV} {rows rows' : List (List Int)} {good good' : List Bool} {k : Nat} (hn : IsRows nv ps rows) (hn' : IsRows nv' ps' rows') (hg : IsB gv good) (hg' : IsB gv' good') (v : VB rows good k) (v' : VB rows' good' k) {iw : Nat} :
    ∀ (f i iq : Nat) (m : Mem) (q : AV) (S : List PN × List (List UInt8)), Mp m iw (S.1.map encP) (S.2.map .str) → Gl m q iq 2 (S.1.length - i) (flP (S.1.drop i)) → iw ≠ iq → BOk (okP rows.length rows'.length) List.length S → i ≤ S.1.length → 36 < f + i →
    brand_Differ.L0 (.fptr [nv, gv]) (.fptr [nv', gv']) (.map iw) q m KD = some (resP (bfs (nxP rows rows') extL (stP good good') k f i S), Mem.empty) := by
  intro f
  induction f with
  | zero =>
    intro i iq m q S hm hq hne hS hi hf
    have few := pairs_few (ok := okP rows.length rows'.length) (fun x h => ⟨by have := v.n6; have := h.1; omega, by have := v'.n6; have := h.2; omega⟩) hS.nd hS.all
    omega
  | succ f ih =>
    intro i iq m q S hm hq hne hS hi hf
    by_cases c : i < S.1.length
    · have hx := List.getElem?_eq_getElem c
      have c2 : i < S.2.length := by rw [← hS.len]; exact c
      have hw := List.getElem?_eq_getElem c2
      generalize S.1[i] = x at hx
      generalize S.2[i] = w at hw
      have ok := hS.all x (List.mem_of_getElem? hx)
      have sok : 0 < S.1.length - i := by omega
      rw [bfs, hx, hw]
      simp only []
      have ld := hq.load (i := 0) (by omega)
      have e0 : ((flP (S.1.drop i)).drop (0 * 2)).take 2 = cP x := flP_at (by simpa using hx)
      rw [e0] at ld
      obtain ⟨x1, x2⟩ := x
      obtain ⟨hx1, hx2⟩ := ok
      have hx1 : x1 < rows.length := hx1
      have hx2 : x2 < rows'.length := hx2
      have gl1 := v.gl
      have gl2 := v'.gl
      have b1 := bls_head (bs := good) (i := x1) (by omega)
      have b2 := bls_head (bs := good') (i := x2) (by omega)
      have hi0 := hq.idx0 (by omega) .i64
      have hiq := hq.lt
      have hiw := hm.2
      have few := pairs_few (ok := okP rows.length rows'.length) (fun x h => ⟨by have := v.n6; have := h.1; omega, by have := v'.n6; have := h.2; omega⟩) hS.nd hS.all
      have hm1 : Mp ⟨upd m.h m.nx none, m.nx + 14⟩ iw (S.1.map encP) (S.2.map .str) := hm.frame (updNe (by omega)) (by show m.nx ≤ m.nx + 14; omega)
      have hq1 : Gl ⟨upd m.h m.nx none, m.nx + 14⟩ q iq 2 (S.1.length - i) (flP (S.1.drop i)) := hq.frame (updNe (by omega)) (by show m.nx ≤ m.nx + 14; omega)
      have K := keysP fl114 (okP rows.length rows'.length)
      have l1 := hm1.look K hS.all hS.len (c := (x1, x2)) ⟨hx1, hx2⟩ (.str []) false
      rw [lkP_at hS.nd hx hw] at l1
      simp only [encP, cP] at l1
      by_cases hst : stP good good' (x1, x2) = true
      · rw [if_pos hst]
        have hst' : (bnth good x1 == bnth good' x2) = false := by simpa [stP] using hst
        rw [brand_Differ.L0_eq]
        simp [hq.len, sok, hi0, ld, cP, hg.idx (i := x1) (by omega), hg'.idx (i := x2) (by omega), b1, b2, hst', l1, resP, -beq_eq_false_iff_ne, -beq_iff_eq]
        done
      · rw [if_neg hst]
        have hst' : (bnth good x1 == bnth good' x2) = true := by simpa [stP] using hst
        have r0 := v.rl 0 (by omega)
        have i0 := hn.idx (i := 0) (by omega) .i64
        have j0 := hn.head (i := 0) (by omega)
        have iw0 := hn.row 0 (by omega)
        have st := dfr_in (gv := gv) (gv' := gv') hn hn' v v' (iw := iw) (i := i) (x := (x1, x2)) (w := w) ⟨hx1, hx2⟩ k 0 iq _ q S (by omega) hm1 hq1 hne hx hw hS (fun m' q' iq' h1 h2 h3 => by
          obtain ⟨p', q'', e1, e2⟩ := bIn_pre (nxP rows rows') extL (x1, x2) w k 0 S
          have hS' := bIn_ok (nxP rows rows') extL (ok := okP rows.length rows'.length) (ln := List.length) (k := k) (fun y a hy ha => ⟨(nx_lt v hy.1 ha).1, (nx_lt v' hy.2 ha).1⟩) (fun w a => by simp [extL, ltr]) (x1, x2) w ⟨hx1, hx2⟩ k 0 S (by omega) hS (hS.wl w (List.mem_of_getElem? hw))
          have hlen : i < (bIn (nxP rows rows') extL (x1, x2) w k 0 S).1.length := by rw [e1]; simp; omega
          have ht := h2.tail (by omega)
          rw [flP_drop1] at ht
          exact ih (i + 1) iq' m' _ _ h1 (by
            have e : (bIn (nxP rows rows') extL (x1, x2) w k 0 S).1.length - (i + 1) = (bIn (nxP rows rows') extL (x1, x2) w k 0 S).1.length - i - 1 := by omega
            rw [e]; exact ht) h3 hS' (by omega) (by omega))
        simp only [cP, Int.ofNat_zero, Int.cast_ofNat_Int] at st i0
        rw [List.drop_zero] at i0 j0
        rw [brand_Differ.L0_eq]
        simp [hq.len, sok, hi0, ld, cP, hg.idx (i := x1) (by omega), hg'.idx (i := x2) (by omega), b1, b2, hst', i0, j0, iw0.len, r0, -beq_eq_false_iff_ne, -beq_iff_eq]
        exact st
    · have c0 : S.1.length - i = 0 := by omega
      have hx : S.1[i]? = none := List.getElem?_eq_none (by omega)
      have hl := hq.len
      rw [c0] at hl
      rw [bfs, hx, brand_Differ.L0_eq]
      simp [hl, resP, KD]
      done
def dfrW (rows rows' : List (List Int)) (good good' : List Bool) (k : Nat) : Option (List UInt8) := bfs (nxP rows rows') extL (stP good good') k 37 0 ([(0, 0)], [[]])
theorem bok1 {ok : PN → Prop} (h : ok (0, 0)) : BOk ok List.length ([((0, 0) : PN)], [([] : List UInt8)]) := ⟨by simp, by simpa using h, rfl, by simp⟩
theorem differ_spec {nv gv nv' gv' : AV} {ps ps' : List AV} {rows rows' : List (List Int)} {good good' : List Bool} (hn : IsRows nv ps rows) (hn' : IsRows nv' ps' rows') (hg : IsB gv good) (hg' : IsB gv' good') (hl : rows.length ≤ 1000) (hl' : rows'.length ≤ 1000) (hgl : good.length ≤ 1000) (hgl' : good'.length ≤ 1000) (hr : ∀ i, i < rows.length → (cth rows i).length ≤ 1000) (hr' : ∀ i, i < rows'.length → (cth rows' i).length ≤ 1000) (m : Mem) :
    denC prog ann 33 [.agg [nv, gv], .agg [nv', gv']] m = some (if validB rows good = true ∧ validB rows' good' = true ∧ (cth rows 0).length = (cth rows' 0).length then resP (dfrW rows rows' good good' (cth rows 0).length) else .tup [.str [], .int .i64 1], m) := by
  have h1 := fun m => valid_spec hn hg hl hgl hr m
  have h2 := fun m => valid_spec hn' hg' hl' hgl' hr' m
  rw [brand_Differ.call_eq _ _ _ (by simp [hn.closed, hg.closed, hn'.closed, hg'.closed])]
  cases c0 : validB rows good with
  | false =>
    rw [c0] at h1
    simp [hn.one, hg.one, hn.closed, hg.closed, hn'.one, hg'.one, hn'.closed, hg'.closed, h1]
    done
  | true =>
    rw [c0] at h1
    cases c1 : validB rows' good' with
    | false =>
      rw [c1] at h2
      simp [hn.one, hg.one, hn.closed, hg.closed, hn'.one, hg'.one, hn'.closed, hg'.closed, h1, h2]
      done
    | true =>
      rw [c1] at h2
      have v := VB.of c0
      have v' := VB.of c1
      have i0 := hn.idx (i := 0) v.n1 .i64
      have j0 := hn.head (i := 0) v.n1
      have iw0 := hn.row 0 v.n1
      have i0' := hn'.idx (i := 0) v'.n1 .i64
      have j0' := hn'.head (i := 0) v'.n1
      have iw0' := hn'.row 0 v'.n1
      simp only [Int.ofNat_zero, Int.cast_ofNat_Int, List.drop_zero] at i0 j0 i0' j0'
      by_cases c : (cth rows 0).length = (cth rows' 0).length
      · rw [← c] at v'
        have ok0 : okP rows.length rows'.length (0, 0) := ⟨v.n1, v'.n1⟩
        have hm0 : Mp ⟨upd Mem.empty.h 21 (some (AObj.map 0 [] [])), 22⟩ 21 (([] : List PN).map encP) (([] : List (List UInt8)).map .str) := ⟨⟨0, rfl⟩, by show 21 < 22; omega⟩
        obtain ⟨m1, p1, p2, p3, p4⟩ := hm0.put (keysP fl114 (okP rows.length rows'.length)) (by simp) rfl ok0 (by simp) []
        simp only [encP, cP, Int.ofNat_zero, Int.cast_ofNat_Int] at p1
        have p3 : m1.nx = 22 := p3
        have st := dfr_out hn hn' hg hg' v v' (iw := 21) 37 0 22 ⟨upd m1.h 22 (some (AObj.cells [.int .i64 0, .int .i64 0])), 23⟩ (.sl 22 2 0 1 2) ([(0, 0)], [[]]) (p2.fr (by show upd m1.h 22 (some (AObj.cells [.int .i64 0, .int .i64 0])) 21 = m1.h 21; exact updNe (by omega)) (by show 21 < 23; omega)) ⟨⟨[], rfl, by simp [flP, cP]⟩, rfl, by show 22 < 23; omega⟩ (by omega) (bok1 ok0) (by simp) (by omega)
        simp [hn.one, hg.one, hn.closed, hg.closed, hn'.one, hg'.one, hn'.closed, hg'.closed, h1, h2, i0, j0, iw0.len, i0', j0', iw0'.len, c, p1, p3]
        rw [c] at st
        simp only [KD] at st
        rw [st]
        rfl
      · simp [hn.one, hg.one, hn.closed, hg.closed, hn'.one, hg'.one, hn'.closed, hg'.closed, h1, h2, i0, j0, iw0.len, i0', j0', iw0'.len, c, show ¬ ((cth rows 0).length : Int) = (cth rows' 0).length by omega]
        done
end Go.Proofs.Ythnpflkpjimkfaa

/-
  LISTS THAT ARE NIL OR AN OBJECT OF THEIR OWN. Conditions: none.
-/
namespace Go.Proofs.Ythnpflkpjimkfaa
open Go.AM
open Go.Proofs.Try (prog)
set_option linter.all false
set_option maxRecDepth 100000
set_option maxHeartbeats 4000000
theorem Gl.oid {m : Mem} {v : AV} {id sz n : Nat} {xs : List AV} (h : Gl m v id sz n xs) : objId v = some id := by
  obtain ⟨⟨pre, rfl, hm⟩, hn, hl⟩ := h; rfl
def Nl (h : Nat → Option AObj) (v : AV) (xs : List AV) (lo hi : Nat) : Prop := (v = .nils ∧ xs = []) ∨ ∃ R, v = .sl R 1 0 xs.length xs.length ∧ h R = some (.cells xs) ∧ lo ≤ R ∧ R < hi
section
variable {h h' : Nat → Option AObj} {v : AV} {xs : List AV} {lo hi hi' : Nat}
theorem Nl.nil : Nl h .nils [] lo hi := .inl ⟨rfl, rfl⟩
theorem Nl.fr (n : Nl h v xs lo hi) (e : ∀ y, lo ≤ y → y < hi → objId v = some y → h' y = h y) (l : hi ≤ hi') : Nl h' v xs lo hi' := by
  rcases n with ⟨rfl, rfl⟩ | ⟨R, rfl, h1, h2, h3⟩
  · exact .nil
  · exact .inr ⟨R, rfl, by rw [e R h2 h3 rfl, h1], h2, by omega⟩
theorem Nl.one (n : Nl h v xs lo hi) : v.one = true := by
  rcases n with ⟨rfl, rfl⟩ | ⟨R, rfl, h1, h2, h3⟩ <;> rfl
theorem Nl.cells (n : Nl h v xs lo hi) : v.cells = [v] := by
  rcases n with ⟨rfl, rfl⟩ | ⟨R, rfl, h1, h2, h3⟩ <;> rfl
theorem Nl.oid (n : Nl h v xs lo hi) {y : Nat} (e : objId v = some y) : lo ≤ y ∧ y < hi := by
  rcases n with ⟨rfl, rfl⟩ | ⟨R, rfl, h1, h2, h3⟩
  · cases e
  · simp [objId] at e; omega
theorem Nl.len (n : Nl h v xs lo hi) : lenSl v = some (.int .i64 xs.length) := by
  rcases n with ⟨rfl, rfl⟩ | ⟨R, rfl, h1, h2, h3⟩ <;> rfl
theorem mapO_same {f : AV → Option AV} : ∀ l : List AV, (∀ x ∈ l, f x = some x) → mapO f l = some l
  | [], _ => rfl
  | a :: l, q => by simp [mapO, q a (by simp), mapO_same l (fun x hx => q x (by simp [hx]))]
theorem Nl.deep (n : Nl h v xs lo hi) (d : Nat) (hd : ∀ x ∈ xs, AM.deep h d x = some x) (h0 : v ≠ .nils) : AM.deep h (d + 1) v = some (.fsl false xs.length xs) := by
  rcases n with ⟨rfl, rfl⟩ | ⟨R, rfl, h1, h2, h3⟩
  · exact absurd rfl h0
  · simp [AM.deep, h1, mapO_same xs hd]
theorem Nl.nn (n : Nl h v xs lo hi) (h0 : xs ≠ []) : v ≠ .nils := by
  rcases n with ⟨rfl, rfl⟩ | ⟨R, rfl, h1, h2, h3⟩
  · exact absurd rfl h0
  · simp
theorem Nl.sl (n : Nl h v xs lo hi) (h0 : v ≠ .nils) : ∃ R, v = .sl R 1 0 xs.length xs.length ∧ h R = some (.cells xs) ∧ lo ≤ R ∧ R < hi := by
  rcases n with ⟨rfl, rfl⟩ | h
  · exact absurd rfl h0
  · exact h
theorem Nl.app {nx by' : Nat} (n : Nl h v xs lo hi) (hh : hi ≤ nx) (hl : lo ≤ nx) (hr : room (xs.length + 1) by' = true) (y : AV) :
    ∃ v' h' nx', appT 1 by' ⟨h, nx⟩ v (some (1, [y])) = some (v', ⟨h', nx'⟩) ∧ Nl h' v' (xs ++ [y]) lo nx' ∧ nx ≤ nx' ∧ nx' ≤ nx + 1 ∧ (∀ z, objId v' = some z → objId v = some z ∨ z = nx) ∧ (∀ z, objId v' ≠ some z → h' z = h z) ∧ v' ≠ .nils := by
  rcases n with ⟨rfl, rfl⟩ | ⟨R, rfl, h1, h2, h3⟩
  · refine ⟨.sl nx 1 0 1 1, upd h nx (some (.cells [y])), nx + 1, ?_, .inr ⟨nx, rfl, by simp, hl, by omega⟩, by omega, by omega, fun z e => .inr (by simp [objId] at e; omega), fun z e => updNe (fun q => e (by rw [q]; rfl)), by simp⟩
    simp at hr
    simp [Mem.new, hr]
  · refine ⟨.sl R 1 0 (xs.length + 1) (xs.length + 1), upd h R (some (.cells (xs ++ [y]))), nx, ?_, .inr ⟨R, by simp, by simp, h2, by omega⟩, by omega, by omega, fun z e => .inl e, fun z e => updNe (fun q => e (by rw [q]; rfl)), by simp⟩
    simp at hr
    simp [h1, hr.1, hr.2]
end
end Go.Proofs.Ythnpflkpjimkfaa

/-
  THE LEAST WORD THAT ONLY ONE OF TWO BRANDS ACCEPTS: the specification's search. Conditions: none.
-/
namespace Go.Proofs.Ythnpflkpjimkfaa
open Go.AM
open Go.Proofs.Try (prog)
set_option linter.all false
set_option maxRecDepth 100000
set_option maxHeartbeats 8000000
structure Rd (m : Mem) (x6 x7 : AV) (i6 i7 i8 : Nat) (S : List PN × List (List UInt8)) : Prop where
  p : Gl m x6 i6 2 S.1.length (flP S.1)
  w : Gl m x7 i7 1 S.2.length (S.2.map .str)
  k : Mp m i8 (S.1.map encP) ((S.1.map fun _ => true).map .bool)
  d1 : i6 ≠ i7
  d2 : i6 ≠ i8
  d3 : i7 ≠ i8
end Go.Proofs.Ythnpflkpjimkfaa

/-
  SETS OF STATES AS BITS OF A NUMBER. Conditions: none.
-/
namespace Go.Proofs.Ythnpflkpjimkfaa
open Go.AM
open Go.Proofs.Try (prog)
set_option linter.all false
set_option maxRecDepth 100000
set_option maxHeartbeats 4000000
theorem wrapN {x : Nat} (h : x < 4096) : IntKind.wrap .i64 (x : Int) = x := wrap_id (by omega) (by omega)
def encS (x : Nat) : AV := .int .i64 (x : Int)
end Go.Proofs.Ythnpflkpjimkfaa

/-
  ALIKE STATES: those from which the same words lead to good ones; what marking unlike ones again and again ends in. Conditions: none.
-/
namespace Go.Proofs.Ythnpflkpjimkfaa
open Go.AM
open Go.Proofs.Try (prog)
set_option linter.all false
set_option maxRecDepth 100000
set_option maxHeartbeats 4000000
def gow (rows : List (List Int)) (s : Nat) (w : List Nat) : Nat := w.foldl (nx rows) s
def alk (rows : List (List Int)) (good : List Bool) (k i j : Nat) : Prop := ∀ w : List Nat, (∀ a ∈ w, a < k) → bnth good (gow rows i w) = bnth good (gow rows j w)
open Classical in
noncomputable def alB (rows : List (List Int)) (good : List Bool) (k i j : Nat) : Bool := decide (alk rows good k i j)
section
variable {rows : List (List Int)} {good : List Bool} {k : Nat}
theorem alk_refl (i : Nat) : alk rows good k i i := fun _ _ => rfl
theorem alk_symm {i j : Nat} (h : alk rows good k i j) : alk rows good k j i := fun w hw => (h w hw).symm
theorem alk_trans {i j l : Nat} (h : alk rows good k i j) (g : alk rows good k j l) : alk rows good k i l := fun w hw => (h w hw).trans (g w hw)
theorem alk_step {i j a : Nat} (h : alk rows good k i j) (ha : a < k) : alk rows good k (nx rows i a) (nx rows j a) := fun w hw => h (a :: w) (by
  intro b hb
  rcases List.mem_cons.1 hb with rfl | hb
  · exact ha
  · exact hw b hb)
theorem alk_good {i j : Nat} (h : alk rows good k i j) : bnth good i = bnth good j := h [] (by simp)
theorem alB_iff {i j : Nat} : alB rows good k i j = true ↔ alk rows good k i j := by simp [alB]
theorem alB_refl (i : Nat) : alB rows good k i i = true := alB_iff.2 (alk_refl i)
end
abbrev MB := List (List Bool)
def brw (D : MB) (i : Nat) : List Bool := D.getD i []
def mth (D : MB) (i j : Nat) : Bool := bnth (brw D i) j
def setM (D : MB) (i j : Nat) (b : Bool) : MB := D.set i ((brw D i).set j b)
structure Wf (n : Nat) (D : MB) : Prop where
  l : D.length = n
  r : ∀ i, i < n → (brw D i).length = n
theorem brw_set {D : MB} {i i' : Nat} {r : List Bool} (h : i < D.length) : brw (D.set i r) i' = if i = i' then r else brw D i' := by
  simp only [brw, List.getD_eq_getElem?_getD, List.getElem?_set]
  by_cases e : i = i'
  · subst e; simp [h]
  · simp [e]
theorem bnth_set {l : List Bool} {j j' : Nat} {b : Bool} (h : j < l.length) : bnth (l.set j b) j' = if j = j' then b else bnth l j' := by
  simp only [bnth, List.getD_eq_getElem?_getD, List.getElem?_set]
  by_cases e : j = j'
  · subst e; simp [h]
  · simp [e]
theorem Wf.set {n : Nat} {D : MB} (h : Wf n D) {i j : Nat} (b : Bool) (hi : i < n) : Wf n (setM D i j b) := by
  refine ⟨by simp [setM, h.l], fun i' hi' => ?_⟩
  rw [setM, brw_set (by rw [h.l]; exact hi)]
  split
  · rw [List.length_set]; exact h.r i hi
  · exact h.r i' hi'
theorem Wf.get {n : Nat} {D : MB} (h : Wf n D) {i j i' j' : Nat} {b : Bool} (hi : i < n) (hj : j < n) : mth (setM D i j b) i' j' = if i = i' ∧ j = j' then b else mth D i' j' := by
  rw [mth, setM, brw_set (by rw [h.l]; exact hi)]
  by_cases e : i = i'
  · subst e
    rw [if_pos rfl, bnth_set (by rw [h.r i hi]; exact hj)]
    by_cases e' : j = j'
    · simp [e']
    · simp [e', mth]
  · simp [e, mth]
def cnt (n : Nat) (p : Nat → Nat → Bool) : Nat := ((List.range n).flatMap fun i => (List.range n).map fun j => (i, j)).countP fun x => p x.1 x.2
theorem pairs_len (n : Nat) : ((List.range n).flatMap fun i => (List.range n).map fun j => (i, j)).length = n * n := by
  have : ∀ m : Nat, ((List.range m).map fun _ => n).sum = m * n := by
    intro m
    induction m with
    | zero => simp
    | succ m ih => rw [List.range_succ, List.map_append, List.sum_append, ih]; simp [Nat.succ_mul]
  simp [List.length_flatMap, this]
theorem pairs_mem {n i j : Nat} : (i, j) ∈ ((List.range n).flatMap fun i => (List.range n).map fun j => (i, j)) ↔ i < n ∧ j < n := by
  simp
theorem countP_lt {α : Type} {p q : α → Bool} : ∀ {l : List α}, (∀ x ∈ l, p x = true → q x = true) → (∃ x ∈ l, q x = true ∧ p x = false) → l.countP p < l.countP q
  | [], _, ⟨_, h, _⟩ => by simp at h
  | a :: l, h, ⟨x, hx, h1, h2⟩ => by
    have mono : l.countP p ≤ l.countP q := List.countP_mono_left fun y hy => h y (by simp [hy])
    rcases List.mem_cons.1 hx with rfl | hx
    · simp [h1, h2]; omega
    · have ih := countP_lt (l := l) (fun y hy => h y (by simp [hy])) ⟨x, hx, h1, h2⟩
      rw [List.countP_cons, List.countP_cons]
      have := h a (by simp)
      by_cases e : p a = true
      · simp [e, this e]; omega
      · simp [e]; split <;> omega
theorem cnt_le (n : Nat) (p : Nat → Nat → Bool) : cnt n p ≤ n * n := by
  rw [← pairs_len n]; exact List.countP_le_length
theorem cnt_lt {n : Nat} {p q : Nat → Nat → Bool} (h : ∀ i j, i < n → j < n → p i j = true → q i j = true) {i j : Nat} (hi : i < n) (hj : j < n) (h1 : q i j = true) (h2 : p i j = false) : cnt n p < cnt n q :=
  countP_lt (fun x hx => by obtain ⟨i, j⟩ := x; obtain ⟨h1, h2⟩ := pairs_mem.1 hx; exact h i j h1 h2) ⟨(i, j), pairs_mem.2 ⟨hi, hj⟩, h1, h2⟩
section
variable {S α : Type} (I : S → Prop) (μ : S → Nat) (Q : α → S → Prop) (step : S → α → S)
def Ups (x : α) : Prop := ∀ s, I s → I (step s x) ∧ μ s ≤ μ (step s x) ∧ (μ (step s x) = μ s → step s x = s ∧ Q x s)
theorem ups_fold : ∀ (l : List α) (s : S), (∀ x ∈ l, Ups I μ Q step x) → I s → I (l.foldl step s) ∧ μ s ≤ μ (l.foldl step s) ∧ (μ (l.foldl step s) = μ s → l.foldl step s = s ∧ ∀ x ∈ l, Q x s)
  | [], s, _, h => ⟨h, Nat.le_refl _, fun _ => ⟨rfl, by simp⟩⟩
  | x :: l, s, hs, h => by
    obtain ⟨h1, h2, h3⟩ := hs x (by simp) s h
    obtain ⟨g1, g2, g3⟩ := ups_fold l (step s x) (fun y hy => hs y (by simp [hy])) h1
    refine ⟨g1, by simp only [List.foldl_cons]; omega, fun e => ?_⟩
    simp only [List.foldl_cons] at e ⊢
    obtain ⟨e1, e2⟩ := g3 (by omega)
    obtain ⟨e3, e4⟩ := h3 (by omega)
    rw [e1, e3]
    rw [e3] at e2
    exact ⟨rfl, fun y hy => by
      rcases List.mem_cons.1 hy with rfl | hy
      · exact e4
      · exact e2 y hy⟩
end
end Go.Proofs.Ythnpflkpjimkfaa

/-
  MARKING UNLIKE STATES: the program's way and the specification's end in the same. Conditions: none.
-/
namespace Go.Proofs.Ythnpflkpjimkfaa
open Go.AM
open Go.Proofs.Try (prog)
set_option linter.all false
set_option maxRecDepth 100000
set_option maxHeartbeats 4000000
abbrev PB := MB × Bool
def mk1 (rows : List (List Int)) (i j : Nat) (P : PB) (a : Nat) : PB := if mth P.1 i j = false ∧ mth P.1 (nx rows i a) (nx rows j a) = true then (setM P.1 i j true, true) else P
def mkA (rows : List (List Int)) (i j c a : Nat) (P : PB) : PB := (List.range' a c).foldl (mk1 rows i j) P
def mkJ (rows : List (List Int)) (k i c j : Nat) (P : PB) : PB := (List.range' j c).foldl (fun P j => mkA rows i j k 0 P) P
def mkI (rows : List (List Int)) (k n c i : Nat) (P : PB) : PB := (List.range' i c).foldl (fun P i => mkJ rows k i n 0 P) P
def fixD (rows : List (List Int)) (k n : Nat) : Nat → MB → MB
  | 0, D => D
  | f + 1, D => if (mkI rows k n n 0 (D, false)).2 = true then fixD rows k n f (mkI rows k n n 0 (D, false)).1 else (mkI rows k n n 0 (D, false)).1
section
variable {rows : List (List Int)} {good : List Bool} {k : Nat}
structure Mkd (rows : List (List Int)) (good : List Bool) (k : Nat) (D : MB) : Prop where
  wf : Wf rows.length D
  snd : ∀ i j, i < rows.length → j < rows.length → mth D i j = true → ¬ alk rows good k i j
  bas : ∀ i j, i < rows.length → j < rows.length → bnth good i ≠ bnth good j → mth D i j = true
def Cld (rows : List (List Int)) (k : Nat) (D : MB) : Prop := ∀ i j a, i < rows.length → j < rows.length → a < k → mth D i j = false → mth D (nx rows i a) (nx rows j a) = false
theorem Mkd.end_ {D : MB} (v : VB rows good k) (h : Mkd rows good k D) (c : Cld rows k D) {i j : Nat} (hi : i < rows.length) (hj : j < rows.length) : mth D i j = !alB rows good k i j := by
  have key : ∀ (w : List Nat) (i j : Nat), i < rows.length → j < rows.length → (∀ a ∈ w, a < k) → mth D i j = false → bnth good (gow rows i w) = bnth good (gow rows j w) := by
    intro w
    induction w with
    | nil =>
      intro i j hi hj _ e
      apply Classical.byContradiction
      intro q
      have := h.bas i j hi hj q
      rw [e] at this
      cases this
    | cons a w ih =>
      intro i j hi hj hw e
      have ha := hw a (by simp)
      exact ih _ _ (nx_lt v hi ha).1 (nx_lt v hj ha).1 (fun b hb => hw b (by simp [hb])) (c i j a hi hj ha e)
  rcases hm : mth D i j with _ | _
  · have : alk rows good k i j := fun w hw => key w i j hi hj hw hm
    rw [alB_iff.2 this]; rfl
  · have h1 := h.snd i j hi hj hm
    have : alB rows good k i j = false := by rw [Bool.eq_false_iff]; exact fun q => h1 (alB_iff.1 q)
    rw [this]; rfl
def IP (rows : List (List Int)) (good : List Bool) (k m0 : Nat) (P : PB) : Prop := Mkd rows good k P.1 ∧ m0 ≤ cnt rows.length (mth P.1) ∧ (P.2 = true ↔ m0 < cnt rows.length (mth P.1))
def μP (n : Nat) (P : PB) : Nat := cnt n (mth P.1)
theorem mk1_ups (v : VB rows good k) (m0 : Nat) {i j a : Nat} (hi : i < rows.length) (hj : j < rows.length) (ha : a < k) : Ups (IP rows good k m0) (μP rows.length) (fun a P => mth P.1 i j = false → mth P.1 (nx rows i a) (nx rows j a) = false) (mk1 rows i j) a := by
  intro P hP
  obtain ⟨hM, h0, hf⟩ := hP
  have ni := (nx_lt v hi ha).1
  have nj := (nx_lt v hj ha).1
  by_cases c : mth P.1 i j = false ∧ mth P.1 (nx rows i a) (nx rows j a) = true
  · have e : mk1 rows i j P a = (setM P.1 i j true, true) := by rw [mk1, if_pos c]
    rw [e]
    have g := fun i' j' => hM.wf.get (i := i) (j := j) (i' := i') (j' := j') (b := true) hi hj
    have lt : cnt rows.length (mth P.1) < cnt rows.length (mth (setM P.1 i j true)) := cnt_lt (fun i' j' _ _ h => by rw [g]; split; rfl; exact h) hi hj (by rw [g]; simp) c.1
    refine ⟨⟨⟨hM.wf.set true hi, fun i' j' h1 h2 h => ?_, fun i' j' h1 h2 h => ?_⟩, Nat.le_of_lt (Nat.lt_of_le_of_lt h0 lt), ⟨fun _ => Nat.lt_of_le_of_lt h0 lt, fun _ => rfl⟩⟩, Nat.le_of_lt lt, fun q => absurd q (Nat.ne_of_gt lt)⟩
    · rw [g] at h
      by_cases q : i = i' ∧ j = j'
      · obtain ⟨rfl, rfl⟩ := q
        intro hk
        exact hM.snd _ _ ni nj c.2 (alk_step hk ha)
      · rw [if_neg q] at h
        exact hM.snd i' j' h1 h2 h
    · rw [g]; split; rfl; exact hM.bas i' j' h1 h2 h
  · have e : mk1 rows i j P a = P := by rw [mk1, if_neg c]
    rw [e]
    refine ⟨⟨hM, h0, hf⟩, Nat.le_refl _, fun _ => ⟨rfl, fun q => ?_⟩⟩
    rcases hm : mth P.1 (nx rows i a) (nx rows j a) with _ | _
    · rfl
    · exact absurd ⟨q, hm⟩ c
theorem mkA_ups (v : VB rows good k) (m0 : Nat) {i j : Nat} (hi : i < rows.length) (hj : j < rows.length) : Ups (IP rows good k m0) (μP rows.length) (fun j P => ∀ a ∈ List.range' 0 k, mth P.1 i j = false → mth P.1 (nx rows i a) (nx rows j a) = false) (fun P j => mkA rows i j k 0 P) j := fun P hP => by
  obtain ⟨h1, h2, h3⟩ := ups_fold _ _ _ _ (List.range' 0 k) P (fun a ha => mk1_ups v m0 (i := i) (j := j) hi hj (by simp [List.mem_range'_1] at ha; exact ha)) hP
  exact ⟨h1, h2, fun e => h3 e⟩
theorem mkJ_ups (v : VB rows good k) (m0 : Nat) {i : Nat} (hi : i < rows.length) : Ups (IP rows good k m0) (μP rows.length) (fun i P => ∀ j ∈ List.range' 0 rows.length, ∀ a ∈ List.range' 0 k, mth P.1 i j = false → mth P.1 (nx rows i a) (nx rows j a) = false) (fun P i => mkJ rows k i rows.length 0 P) i := fun P hP => by
  obtain ⟨h1, h2, h3⟩ := ups_fold _ _ _ _ (List.range' 0 rows.length) P (fun j hj => mkA_ups v m0 (i := i) (j := j) hi (by simp [List.mem_range'_1] at hj; exact hj)) hP
  exact ⟨h1, h2, fun e => h3 e⟩
theorem mkI_law (v : VB rows good k) {D : MB} (h : Mkd rows good k D) : Mkd rows good k (mkI rows k rows.length rows.length 0 (D, false)).1 ∧ ((mkI rows k rows.length rows.length 0 (D, false)).2 = true → cnt rows.length (mth D) < cnt rows.length (mth (mkI rows k rows.length rows.length 0 (D, false)).1)) ∧ ((mkI rows k rows.length rows.length 0 (D, false)).2 = false → Cld rows k (mkI rows k rows.length rows.length 0 (D, false)).1) := by
  obtain ⟨h1, h2, h3⟩ := ups_fold _ _ _ _ (List.range' 0 rows.length) (D, false) (fun i hi => mkJ_ups v (cnt rows.length (mth D)) (i := i) (by simp [List.mem_range'_1] at hi; exact hi)) ⟨h, Nat.le_refl _, by simp⟩
  refine ⟨h1.1, fun e => h1.2.2.1 e, fun e => ?_⟩
  have e2 : ¬ cnt rows.length (mth D) < cnt rows.length (mth (mkI rows k rows.length rows.length 0 (D, false)).1) := fun q => by
    have := h1.2.2.2 q
    simp only [mkI] at e
    rw [e] at this
    cases this
  simp only [μP] at h2 h3
  obtain ⟨e3, e4⟩ := h3 (by have h2' := h2; simp only [mkI] at e2; omega)
  have e5 : mkI rows k rows.length rows.length 0 (D, false) = (D, false) := e3
  rw [e5]
  intro i j a hi hj ha
  exact e4 i (by simp [List.mem_range'_1, hi]) j (by simp [List.mem_range'_1, hj]) a (by simp [List.mem_range'_1, ha])
theorem fixD_law (v : VB rows good k) : ∀ (f : Nat) (D : MB), Mkd rows good k D → rows.length * rows.length < f + cnt rows.length (mth D) → Mkd rows good k (fixD rows k rows.length f D) ∧ Cld rows k (fixD rows k rows.length f D)
  | 0, D, h, hf => by
    have := cnt_le rows.length (mth D)
    omega
  | f + 1, D, h, hf => by
    obtain ⟨h1, h2, h3⟩ := mkI_law v h
    rw [fixD]
    by_cases c : (mkI rows k rows.length rows.length 0 (D, false)).2 = true
    · rw [if_pos c]
      exact fixD_law v f _ h1 (by have := h2 c; omega)
    · rw [if_neg c]
      exact ⟨h1, h3 (by simpa using c)⟩
def D0 (good : List Bool) (n : Nat) : MB := (List.range n).map fun i => (List.range n).map fun j => !(bnth good i == bnth good j)
theorem D0_get {n i j : Nat} (hi : i < n) (hj : j < n) : mth (D0 good n) i j = !(bnth good i == bnth good j) := by
  simp [mth, brw, D0, bnth, hi, hj]
theorem D0_wf (n : Nat) : Wf n (D0 good n) := ⟨by simp [D0], fun i hi => by simp [brw, D0, hi]⟩
theorem D0_mkd : Mkd rows good k (D0 good rows.length) := by
  refine ⟨D0_wf _, fun i j hi hj h q => ?_, fun i j hi hj h => ?_⟩
  · rw [D0_get hi hj, alk_good q] at h
    simp at h
  · rw [D0_get hi hj]
    simpa using h
theorem fixD_end (v : VB rows good k) {f : Nat} (hf : rows.length * rows.length < f) : Wf rows.length (fixD rows k rows.length f (D0 good rows.length)) ∧ ∀ i j, i < rows.length → j < rows.length → mth (fixD rows k rows.length f (D0 good rows.length)) i j = !alB rows good k i j := by
  obtain ⟨h1, h2⟩ := fixD_law v f (D0 good rows.length) D0_mkd (by omega)
  exact ⟨h1.wf, fun i j hi hj => h1.end_ v h2 hi hj⟩
structure Lkd (rows : List (List Int)) (good : List Bool) (k : Nat) (L : MB) : Prop where
  wf : Wf rows.length L
  snd : ∀ i j, i < rows.length → j < rows.length → mth L i j = false → ¬ alk rows good k i j
  bas : ∀ i j, i < rows.length → j < rows.length → bnth good i ≠ bnth good j → mth L i j = false
def CldL (rows : List (List Int)) (k : Nat) (L : MB) : Prop := ∀ i j a, i < rows.length → j < rows.length → a < k → mth L i j = true → mth L (nx rows i a) (nx rows j a) = true
theorem Lkd.end_ {L : MB} (v : VB rows good k) (h : Lkd rows good k L) (c : CldL rows k L) {i j : Nat} (hi : i < rows.length) (hj : j < rows.length) : mth L i j = alB rows good k i j := by
  have key : ∀ (w : List Nat) (i j : Nat), i < rows.length → j < rows.length → (∀ a ∈ w, a < k) → mth L i j = true → bnth good (gow rows i w) = bnth good (gow rows j w) := by
    intro w
    induction w with
    | nil =>
      intro i j hi hj _ e
      apply Classical.byContradiction
      intro q
      have := h.bas i j hi hj q
      rw [e] at this
      cases this
    | cons a w ih =>
      intro i j hi hj hw e
      have ha := hw a (by simp)
      exact ih _ _ (nx_lt v hi ha).1 (nx_lt v hj ha).1 (fun b hb => hw b (by simp [hb])) (c i j a hi hj ha e)
  rcases hm : mth L i j with _ | _
  · have h1 := h.snd i j hi hj hm
    have : alB rows good k i j = false := by rw [Bool.eq_false_iff]; exact fun q => h1 (alB_iff.1 q)
    rw [this]
  · have : alk rows good k i j := fun w hw => key w i j hi hj hw hm
    rw [alB_iff.2 this]
end
end Go.Proofs.Ythnpflkpjimkfaa

/-
  NUMBERING STATES UP TO LIKENESS: taking representatives as they come, and taking all states and leaving out later ones that are alike, is the same. Conditions: none.
-/
namespace Go.Proofs.Ythnpflkpjimkfaa
open Go.AM
open Go.Proofs.Try (prog)
set_option linter.all false
set_option maxRecDepth 100000
set_option maxHeartbeats 4000000
def numS (al : Nat → Nat → Bool) (s : Nat) (P : List Nat) : List Nat := if P.any (al s) = true then P else P ++ [s]
def idxA (al : Nat → Nat → Bool) (P : List Nat) (s : Nat) : Nat := P.findIdx (al s)
def addsN (al : Nat → Nat → Bool) (nxt : Nat → Nat → Nat) (q c a : Nat) (P : List Nat) : List Nat := (List.range' a c).foldl (fun P a => numS al (nxt q a) P) P
def bldN (al : Nat → Nat → Bool) (nxt : Nat → Nat → Nat) (k : Nat) : Nat → Nat → List Nat → List Nat
  | 0, _, P => P
  | f + 1, i, P => match P[i]? with
    | some q => bldN al nxt k f (i + 1) (addsN al nxt q k 0 P)
    | none => P
def ded (al : Nat → Nat → Bool) (R : List Nat) : List Nat := R.foldl (fun P s => numS al s P) []
def bfsA {β : Type} (nxt : Nat → Nat → Nat) (ext : β → Nat → β) (k : Nat) : Nat → Nat → List Nat × List β → List Nat × List β
  | 0, _, S => S
  | f + 1, i, S => match S.1[i]?, S.2[i]? with
    | some x, some w => bfsA nxt ext k f (i + 1) (bIn nxt ext x w k 0 S)
    | _, _ => S
section
variable {al : Nat → Nat → Bool} {nxt : Nat → Nat → Nat} {k : Nat}
theorem numS_pre (s : Nat) (P : List Nat) : ∃ l, numS al s P = P ++ l := by
  rw [numS]; split
  · exact ⟨[], by simp⟩
  · exact ⟨[s], rfl⟩
theorem fold_pre (f : Nat → Nat) : ∀ (l : List Nat) (P : List Nat), ∃ l', l.foldl (fun P a => numS al (f a) P) P = P ++ l'
  | [], P => ⟨[], by simp⟩
  | a :: l, P => by
    obtain ⟨l1, h1⟩ := numS_pre (al := al) (f a) P
    obtain ⟨l2, h2⟩ := fold_pre f l (numS al (f a) P)
    exact ⟨l1 ++ l2, by rw [List.foldl_cons, h2, h1, List.append_assoc]⟩
theorem addsN_pre (q c a : Nat) (P : List Nat) : ∃ l, addsN al nxt q c a P = P ++ l := fold_pre (fun a => nxt q a) _ P
theorem ded_app (R l : List Nat) : ded al (R ++ l) = l.foldl (fun P s => numS al s P) (ded al R) := by simp [ded]
theorem ded_pre (R l : List Nat) : ∃ l', ded al (R ++ l) = ded al R ++ l' := by rw [ded_app]; exact fold_pre id l _
theorem any_app {P l : List Nat} {p : Nat → Bool} (h : P.any p = true) : (P ++ l).any p = true := by rw [List.any_append, h]; rfl
theorem idxA_app {P l : List Nat} {s : Nat} (h : P.any (al s) = true) : idxA al (P ++ l) s = idxA al P s := by
  rw [idxA, List.findIdx_append, idxA]
  rw [if_pos]
  rw [List.findIdx_lt_length]
  simpa using h
structure Lik (al : Nat → Nat → Bool) (nxt : Nat → Nat → Nat) (k n : Nat) : Prop where
  rf : ∀ s, s < n → al s s = true
  sy : ∀ s t, s < n → t < n → al s t = true → al t s = true
  tr : ∀ s t u, s < n → t < n → u < n → al s t = true → al t u = true → al s u = true
  st : ∀ s t a, s < n → t < n → a < k → al s t = true → al (nxt s a) (nxt t a) = true
  cl : ∀ s a, s < n → a < k → nxt s a < n
variable {n : Nat}
theorem ded_sub : ∀ (R : List Nat) (P : List Nat) (s : Nat), s ∈ R.foldl (fun P s => numS al s P) P → s ∈ P ∨ s ∈ R
  | [], P, s, h => .inl h
  | r :: R, P, s, h => by
    rw [List.foldl_cons] at h
    rcases ded_sub R _ s h with h | h
    · rw [numS] at h
      split at h
      · exact .inl h
      · rcases List.mem_append.1 h with h | h
        · exact .inl h
        · right; simp at h; simp [h]
    · right; simp [h]
theorem ded_mem {R : List Nat} {s : Nat} (h : s ∈ ded al R) : s ∈ R := by
  rcases ded_sub R [] s h with h | h
  · simp at h
  · exact h
theorem ded_len : ∀ (R P : List Nat), (R.foldl (fun P s => numS al s P) P).length ≤ P.length + R.length
  | [], P => by simp
  | r :: R, P => by
    have h := ded_len R (numS al r P)
    have h2 : (numS al r P).length ≤ P.length + 1 := by rw [numS]; split <;> simp
    rw [List.foldl_cons, List.length_cons]; omega
theorem ded_any (L : Lik al nxt k n) : ∀ (R : List Nat), (∀ s ∈ R, s < n) → ∀ s, s ∈ R → (ded al R).any (al s) = true := by
  intro R hR s hs
  obtain ⟨a, b, rfl⟩ := List.append_of_mem hs
  have h1 : ded al (a ++ s :: b) = b.foldl (fun P s => numS al s P) (numS al s (ded al a)) := by rw [ded_app, List.foldl_cons]
  have h2 : (numS al s (ded al a)).any (al s) = true := by
    rw [numS]
    split
    · assumption
    · simp [L.rf s (hR s hs)]
  obtain ⟨l, h3⟩ := fold_pre (al := al) id b (numS al s (ded al a))
  simp only [id] at h3
  rw [h1, h3]
  exact any_app h2
theorem ded_skip (L : Lik al nxt k n) {R : List Nat} (hR : ∀ s ∈ R, s < n) {s t : Nat} (hs : s < n) (ht : t ∈ R) (h : al s t = true) : numS al s (ded al R) = ded al R := by
  have h1 := ded_any L R hR t ht
  rw [List.any_eq_true] at h1
  obtain ⟨u, hu, h2⟩ := h1
  have : (ded al R).any (al s) = true := List.any_eq_true.2 ⟨u, hu, L.tr s t u hs (hR t ht) (hR u (ded_mem hu)) h h2⟩
  rw [numS, if_pos this]
variable {β : Type} {ext : β → Nat → β}
theorem bIn_ded (L : Lik al nxt k n) {q : Nat} (hq : q < n) (w : β) : ∀ (c a : Nat) (S : List Nat × List β), a + c ≤ k → (∀ s ∈ S.1, s < n) → ded al (bIn nxt ext q w c a S).1 = addsN al nxt q c a (ded al S.1)
  | 0, a, S, _, _ => rfl
  | c + 1, a, S, hc, hS => by
    rw [addsN, List.range'_succ, List.foldl_cons, bIn]
    have hn := L.cl q a hq (by omega)
    by_cases h : nxt q a ∈ S.1
    · rw [if_pos h, bIn_ded L hq w c (a + 1) S (by omega) hS, addsN, ded_skip L hS hn h (L.rf _ hn)]
    · rw [if_neg h, bIn_ded L hq w c (a + 1) _ (by omega) (fun s hs => by
        rcases List.mem_append.1 hs with hs | hs
        · exact hS s hs
        · simp at hs; rw [hs]; exact hn), addsN]
      congr 1
      simp only []
      rw [ded_app]; rfl
theorem addsN_skip (L : Lik al nxt k n) {R : List Nat} (hR : ∀ s ∈ R, s < n) {q f : Nat} (hq : q < n) (hf : f < n) (hqf : al q f = true) (hfR : ∀ a, a < k → nxt f a ∈ R) : ∀ (c a : Nat), a + c ≤ k → addsN al nxt q c a (ded al R) = ded al R
  | 0, a, _ => rfl
  | c + 1, a, hc => by
    rw [addsN, List.range'_succ, List.foldl_cons, ded_skip L hR (L.cl q a hq (by omega)) (hfR a (by omega)) (L.st q f a hq hf (by omega) hqf)]
    exact addsN_skip L hR hq hf hqf hfR c (a + 1) (by omega)
theorem bIn_has (q : Nat) (w : β) : ∀ (c a : Nat) (S : List Nat × List β) (b : Nat), a ≤ b → b < a + c → nxt q b ∈ (bIn nxt ext q w c a S).1
  | 0, a, S, b, h1, h2 => by omega
  | c + 1, a, S, b, h1, h2 => by
    rw [bIn]
    by_cases e : b = a
    · subst e
      by_cases h : nxt q b ∈ S.1
      · rw [if_pos h]
        obtain ⟨p, _, e1, _⟩ := bIn_pre nxt ext q w c (b + 1) S
        rw [e1]; exact List.mem_append_left _ h
      · rw [if_neg h]
        obtain ⟨p, _, e1, _⟩ := bIn_pre nxt ext q w c (b + 1) (S.1 ++ [nxt q b], S.2 ++ [ext w b])
        rw [e1]; simp
    · split
      · exact bIn_has q w c (a + 1) _ b (by omega) (by omega)
      · exact bIn_has q w c (a + 1) _ b (by omega) (by omega)
theorem bfs_ded (L : Lik al nxt k n) {ln : β → Nat} (hex : ∀ w a, ln (ext w a) ≤ ln w + 1) : ∀ (f i : Nat) (S : List Nat × List β), BOk (· < n) ln S → i ≤ S.1.length → n < f + i → (∀ s ∈ S.1.take i, ∀ a, a < k → nxt s a ∈ S.1) → ∀ f', n < f' + (ded al (S.1.take i)).length →
    bldN al nxt k f' (ded al (S.1.take i)).length (ded al S.1) = ded al (bfsA nxt ext k f i S).1 := by
  intro f
  induction f with
  | zero =>
    intro i S hS hi hf
    have := nodup_sub hS.nd (L := List.range n) fun x hx => List.mem_range.2 (hS.all x hx)
    simp at this
    omega
  | succ f ih =>
    intro i S hS hi hf hcl f' hf'
    have hSn : S.1.length ≤ n := by
      have := nodup_sub hS.nd (L := List.range n) fun x hx => List.mem_range.2 (hS.all x hx)
      simpa using this
    by_cases c : i < S.1.length
    · have hx := List.getElem?_eq_getElem c
      have c2 : i < S.2.length := by rw [← hS.len]; exact c
      have hw := List.getElem?_eq_getElem c2
      generalize S.1[i] = q at hx
      generalize S.2[i] = w at hw
      have hqm := List.mem_of_getElem? hx
      have hq : q < n := hS.all q hqm
      rw [bfsA, hx, hw]
      simp only []
      have hS' := bIn_ok nxt ext (ok := (· < n)) (ln := ln) (k := k) (fun x a hx ha => L.cl x a hx ha) hex q w hq k 0 S (by omega) hS (hS.wl w (List.mem_of_getElem? hw))
      obtain ⟨p, p', e1, e2⟩ := bIn_pre nxt ext q w k 0 S
      have ht : (bIn nxt ext q w k 0 S).1.take (i + 1) = S.1.take (i + 1) := by rw [e1, List.take_append_of_le_length (by omega)]
      have ht1 : S.1.take (i + 1) = S.1.take i ++ [q] := by rw [List.take_add_one, hx]; rfl
      have hd1 : ded al (S.1.take (i + 1)) = numS al q (ded al (S.1.take i)) := by rw [ht1, ded_app]; rfl
      have hb := bIn_ded (ext := ext) L hq w k 0 S (by omega) hS.all
      have hcl' : ∀ s ∈ (bIn nxt ext q w k 0 S).1.take (i + 1), ∀ a, a < k → nxt s a ∈ (bIn nxt ext q w k 0 S).1 := by
        rw [ht, ht1]
        intro s hs a ha
        rcases List.mem_append.1 hs with hs | hs
        · rw [e1]; exact List.mem_append_left _ (hcl s hs a ha)
        · simp at hs
          subst hs
          exact bIn_has s w k 0 S a (by omega) (by omega)
      have IH := ih (i + 1) (bIn nxt ext q w k 0 S) hS' (by rw [e1]; simp; omega) (by omega) hcl'
      rw [ht, hd1, hb] at IH
      have hT : ∀ s ∈ S.1.take i, s < n := fun s hs => hS.all s (List.mem_of_mem_take hs)
      by_cases hany : (ded al (S.1.take i)).any (al q) = true
      · have e3 : numS al q (ded al (S.1.take i)) = ded al (S.1.take i) := by rw [numS, if_pos hany]
        rw [e3] at IH
        rw [List.any_eq_true] at hany
        obtain ⟨g, hg, hqg⟩ := hany
        have hgt := ded_mem hg
        have hsk := addsN_skip L hS.all hq (hT g hgt) hqg (fun a ha => hcl g hgt a ha) k 0 (by omega)
        rw [hsk] at IH
        exact IH f' hf'
      · have e3 : numS al q (ded al (S.1.take i)) = ded al (S.1.take i) ++ [q] := by rw [numS, if_neg hany]
        rw [e3] at IH hd1
        have hlen : (ded al (S.1.take i)).length ≤ i := by
          have := ded_len (al := al) (S.1.take i) []
          simp [List.length_take] at this
          exact Nat.le_trans this (by omega)
        have hsp : S.1 = S.1.take (i + 1) ++ S.1.drop (i + 1) := (List.take_append_drop _ _).symm
        obtain ⟨l', hl'⟩ := ded_pre (al := al) (S.1.take (i + 1)) (S.1.drop (i + 1))
        rw [← hsp, hd1] at hl'
        match f', hf' with
        | 0, hf' => omega
        | f' + 1, hf' =>
          have hat : (ded al S.1)[(ded al (S.1.take i)).length]? = some q := by rw [hl']; simp
          rw [bldN, hat]
          simp only []
          have := IH f' (by simp; omega)
          simpa using this
    · have hi' : i = S.1.length := by omega
      have hx : S.1[i]? = none := List.getElem?_eq_none (by omega)
      rw [bfsA, hx]
      simp only []
      have : S.1.take i = S.1 := by rw [hi']; simp
      rw [this]
      cases f' with
      | zero => rfl
      | succ f' =>
        rw [bldN]
        simp
end
theorem few6 {n : Nat} {st : List Nat} (n6 : n ≤ 6) (h : st.Nodup) (ha : ∀ x ∈ st, x < n) : st.length ≤ 6 := by
  have := nodup_sub h (L := List.range n) fun x hx => List.mem_range.2 (ha x hx)
  simp at this
  omega
end Go.Proofs.Ythnpflkpjimkfaa
