/-
  NO FUNCTION OF THIS PROGRAM IS TAKEN AS THE LIBRARY'S SORT. Conditions: none.
-/
import Derived.Test.YtdkmepjedjclkaaKAmH
import Derived.Test.YtdkmepjedjclkaaKAmC
import Derived.Test.YtdkmepjedjclkaaKAmG
set_option linter.all false
namespace Go.Proofs.Ytdkmepjedjclkaa
open Go.AM
open Go.Proofs.Try (prog)
set_option maxRecDepth 100000
theorem libS : ∀ g, (ann g).srt = true → LibCalls prog ann g := fun g h => by
  have := srt_only (l := annL) (d := ⟨false, [], [], [], []⟩) rfl (fun _ => false) (by kernel_rfl) g h
  cases this
end Go.Proofs.Ytdkmepjedjclkaa

/-
  BODIES OF FUNCTIONS OF THE PROGRAM AS SMALL OPERATIONS (written by gen.py; checked by the kernel against the program). Conditions: none.
-/
namespace Go.Proofs.Ytdkmepjedjclkaa
open Go.AM
open Go.Proofs.Try (prog)
set_option maxRecDepth 100000
set_option linter.all false
namespace r01_Same
noncomputable section
variable (K : List Item) (s : St)
def b : Code := (Try.f21.body).getD .skip
theorem hf : prog.funcs[21]? = some Try.f21 := by kernel_rfl
def r0 := findReg b 0
def r1 := findReg b 1
theorem b_eq : den prog ann 21 (.code b :: K) s = den prog ann 21 (.code r0 :: .code r1 :: .code .ret :: K) s := den_flat hf (l := [r0, r1, .ret]) (by kernel_rfl) K s
theorem r0_eq : den prog ann 21 (.code r0 :: K) s = mreg prog ann 21 none [] none [] [qF 4 fun s => some (.bool false)] K s := (den_reg hf _ K s).trans (by kernel_rfl)
theorem r1_eq : den prog ann 21 (.code r1 :: K) s = mreg prog ann 21 none [] none [] [qC 5 0,qC 6 1,⟨some 7, none, .c 0 (fun s => (.fn 67 [] [])) fun s => [(s.get 5), (s.get 6)]⟩,qA 8 (unA .not) 7,qC 9 8,⟨some 10, some (9, true), .v fun s => some (s.get 1)⟩,⟨some 11, some (9, true), .v fun s => some (s.get 0)⟩,⟨some 12, some (9, true), .c 0 (fun s => (.fn 67 [] [])) fun s => [(s.get 10), (s.get 11)]⟩,⟨some 13, some (9, true), .v fun s => unA .not (s.get 12)⟩,qF 14 fun s => pickA (s.get 9) (s.get 13) (.bool false),qC 4 14] K s := (den_reg hf _ K s).trans (by kernel_rfl)
theorem ret_eq : den prog ann 21 (.code .ret :: K) s = finM true [fun s => some (s.get 4)] s := (den_ret hf K s).trans (by kernel_rfl)
theorem nil_eq (s : St) : den prog ann 21 [] s = finM true [fun s => some (s.get 4)] s := (den_nil hf s).trans (by kernel_rfl)
theorem inBlock_eq (id : Nat) (K : List Item) (s : St) : den prog ann 21 (.inBlock id :: K) s = den prog ann 21 K s := den_inBlock hf id K s
theorem exit_eq (id : Nat) (K : List Item) (s : St) : den prog ann 21 (.code (.exit id) :: K) s = exitV prog ann 21 (exitTo id K) s := den_exitV hf id K s
theorem call_eq (v0 v1 : AV) (m : Mem) (h : closedL [v0, v1] = true) : denC prog ann 21 [v0, v1] m = (den prog ann 21 [.code b] ⟨[(0, v0), (1, v1)], 15, Mem.empty⟩).bind fun r => some (r.1, m) := (denC_pure hf (b := b) (by kernel_rfl) (by kernel_rfl) (by kernel_rfl) h m).trans (by kernel_rfl)
theorem pure_eq : (ann 21).pure = true := by kernel_rfl
attribute [simp] b_eq r0_eq r1_eq ret_eq nil_eq inBlock_eq exit_eq pure_eq
end
end r01_Same
namespace r01_Before
noncomputable section
variable (K : List Item) (s : St)
def b : Code := (Try.f67.body).getD .skip
theorem hf : prog.funcs[67]? = some Try.f67 := by kernel_rfl
def r0 := findReg b 0
def r1 := findReg b 1
def k0 := findBlk b 0
def l0 := loopOf k0
def L0 (x0 x1 x5 : AV) (m : Mem) (K : List Item) : Option Res := den prog ann 67 (.code l0 :: .inLoop l0 :: .inBlock 0 :: K) ⟨[(0, x0), (1, x1), (5, x5)], 41, m⟩
def r2 := findReg b 2
def i0 := findCond b 0
def i0t := thenOf i0
def i0e := elseOf i0
def k1 := findBlk b 1
def r4 := findReg b 4
def i1 := findCond b 1
def i1t := thenOf i1
def i1e := elseOf i1
def r5 := findReg b 5
def r3 := findReg b 3
def r6 := findReg b 6
theorem b_eq : den prog ann 67 (.code b :: K) s = den prog ann 67 (.code r0 :: .code r1 :: .code k0 :: .code r6 :: .code .ret :: K) s := den_flat hf (l := [r0, r1, k0, r6, .ret]) (by kernel_rfl) K s
theorem r0_eq : den prog ann 67 (.code r0 :: K) s = mreg prog ann 67 none [] none [] [qF 4 fun s => some (.bool false)] K s := (den_reg hf _ K s).trans (by kernel_rfl)
theorem r1_eq : den prog ann 67 (.code r1 :: K) s = mreg prog ann 67 none [] none [] [qF 5 fun s => some (.int .i64 0)] K s := (den_reg hf _ K s).trans (by kernel_rfl)
theorem k0_eq (K : List Item) (t : List (Nat × AV)) (m : Mem) : den prog ann 67 (.code k0 :: K) ⟨t, 41, m⟩ = L0 (get t 0) (get t 1) (get t 5) m K := den_loop_enter hf (b := l0) (id := 2) (l := [0, 1, 5]) (by kernel_rfl) (by kernel_rfl) (by kernel_rfl) K _
theorem l0_eq (K : List Item) (t : List (Nat × AV)) (m : Mem) : den prog ann 67 (.inLoop l0 :: .inBlock 0 :: K) ⟨t, 41, m⟩ = L0 (get t 0) (get t 1) (get t 5) m K := den_loop_again hf (id := 2) (l := [0, 1, 5]) (by kernel_rfl) (by kernel_rfl) (.inBlock 0 :: K) _
theorem L0_eq (x0 x1 x5 : AV) (m : Mem) (K : List Item) : L0 x0 x1 x5 m K = den prog ann 67 (.code r2 :: .code i0 :: .code k1 :: .code r3 :: .inLoop l0 :: .inBlock 0 :: K) ⟨[(0, x0), (1, x1), (5, x5)], 41, m⟩ := den_flat hf (l := [r2, i0, k1, r3]) (by kernel_rfl) _ _
theorem r2_eq : den prog ann 67 (.code r2 :: K) s = mreg prog ann 67 (some [0, 1, 5]) [] none [] [qC 6 5,qC 7 0,qA 8 lenSl 7,qB 9 (binA prog .lss 3) 6 8,qC 10 9,⟨some 11, some (10, true), .v fun s => some (s.get 5)⟩,⟨some 12, some (10, true), .v fun s => some (s.get 1)⟩,⟨some 13, some (10, true), .v fun s => lenSl (s.get 12)⟩,⟨some 14, some (10, true), .v fun s => binA prog .lss 3 (s.get 11) (s.get 13)⟩,qF 15 fun s => pickA (s.get 10) (s.get 14) (.bool false)] K s := (den_reg hf _ K s).trans (by kernel_rfl)
theorem i0_eq : den prog ann 67 (.code i0 :: K) s = ifV prog ann 67 15 i0t i0e K s (s.get 15) := den_if hf (by kernel_rfl) K s
theorem i0t_eq : den prog ann 67 (.code i0t :: K) s = den prog ann 67 (K) s := den_flat hf (l := []) (by kernel_rfl) K s
theorem i0e_eq : den prog ann 67 (.code i0e :: K) s = den prog ann 67 (.code (.exit 0) :: K) s := den_flat hf (l := [(.exit 0)]) (by kernel_rfl) K s
theorem k1_eq : den prog ann 67 (.code k1 :: K) s = den prog ann 67 (.code r4 :: .code i1 :: .inBlock 1 :: K) s := den_blk hf (b := blkOf k1) (l := [r4, i1]) (by kernel_rfl) (by kernel_rfl) K s
theorem r4_draw : drawOk (fun g => (ann g).pure) (modeOf (ann 67) (idOf r4)) (frzOf (ann 67) (idOf r4)) (opsOf r4) = true := drawOk_of (an := [0, 0, 3, 7, 0, 0, 48, 112, 255]) (by kernel_rfl) (by kernel_rfl)
theorem r4_eq : den prog ann 67 (.code r4 :: K) s = mreg prog ann 67 none [] (some 9) [] [qC 18 0,qC 19 5,qB 20 (idxSl 1) 18 19,qA 21 (loadF false 1) 20,qC 22 1,qC 23 5,qB 24 (idxSl 1) 22 23,qA 25 (loadF false 1) 24,qB 26 (binA prog .neq 3) 21 25] K s := (den_regD hf r4_draw K s).trans (by kernel_rfl)
theorem i1_eq : den prog ann 67 (.code i1 :: K) s = ifV prog ann 67 26 i1t i1e K s (s.get 26) := den_if hf (by kernel_rfl) K s
theorem i1t_eq : den prog ann 67 (.code i1t :: K) s = den prog ann 67 (.code r5 :: .code .ret :: K) s := den_flat hf (l := [r5, .ret]) (by kernel_rfl) K s
theorem r5_draw : drawOk (fun g => (ann g).pure) (modeOf (ann 67) (idOf r5)) (frzOf (ann 67) (idOf r5)) (opsOf r5) = true := drawOk_of (an := [0, 0, 3, 7, 0, 0, 48, 112, 255, 511]) (by kernel_rfl) (by kernel_rfl)
theorem r5_eq : den prog ann 67 (.code r5 :: K) s = mreg prog ann 67 none [] (some 10) [] [qC 27 0,qC 28 5,qB 29 (idxSl 1) 27 28,qA 30 (loadF false 1) 29,qC 31 1,qC 32 5,qB 33 (idxSl 1) 31 32,qA 34 (loadF false 1) 33,qB 35 (binA prog .lss 3) 30 34,qC 4 35] K s := (den_regD hf r5_draw K s).trans (by kernel_rfl)
theorem i1e_eq : den prog ann 67 (.code i1e :: K) s = den prog ann 67 (K) s := den_flat hf (l := []) (by kernel_rfl) K s
theorem r3_eq : den prog ann 67 (.code r3 :: K) s = mreg prog ann 67 (some [0, 1, 5]) [] none [] [qC 16 5,qF 17 fun s => binA prog .add 3 (s.get 16) (.int .i64 1),qC 5 17] K s := (den_reg hf _ K s).trans (by kernel_rfl)
theorem r6_eq : den prog ann 67 (.code r6 :: K) s = mreg prog ann 67 (some [0, 1]) [] none [] [qC 36 0,qA 37 lenSl 36,qC 38 1,qA 39 lenSl 38,qB 40 (binA prog .lss 3) 37 39,qC 4 40] K s := (den_reg hf _ K s).trans (by kernel_rfl)
theorem ret_eq : den prog ann 67 (.code .ret :: K) s = finM true [fun s => some (s.get 4)] s := (den_ret hf K s).trans (by kernel_rfl)
theorem nil_eq (s : St) : den prog ann 67 [] s = finM true [fun s => some (s.get 4)] s := (den_nil hf s).trans (by kernel_rfl)
theorem inBlock_eq (id : Nat) (K : List Item) (s : St) : den prog ann 67 (.inBlock id :: K) s = den prog ann 67 K s := den_inBlock hf id K s
theorem exit_eq (id : Nat) (K : List Item) (s : St) : den prog ann 67 (.code (.exit id) :: K) s = exitV prog ann 67 (exitTo id K) s := den_exitV hf id K s
theorem call_eq (v0 v1 : AV) (m : Mem) (h : closedL [v0, v1] = true) : denC prog ann 67 [v0, v1] m = (den prog ann 67 [.code b] ⟨[(0, v0), (1, v1)], 41, Mem.empty⟩).bind fun r => some (r.1, m) := (denC_pure hf (b := b) (by kernel_rfl) (by kernel_rfl) (by kernel_rfl) h m).trans (by kernel_rfl)
theorem pure_eq : (ann 67).pure = true := by kernel_rfl
attribute [simp] b_eq r0_eq r1_eq k0_eq l0_eq r2_eq i0_eq i0t_eq i0e_eq k1_eq r4_eq i1_eq i1t_eq r5_eq i1e_eq r3_eq r6_eq ret_eq nil_eq inBlock_eq exit_eq pure_eq
end
end r01_Before
namespace r09_in
noncomputable section
variable (K : List Item) (s : St)
def b : Code := (Try.f64.body).getD .skip
theorem hf : prog.funcs[64]? = some Try.f64 := by kernel_rfl
def r0 := findReg b 0
def r1 := findReg b 1
theorem b_eq : den prog ann 64 (.code b :: K) s = den prog ann 64 (.code r0 :: .code r1 :: .code .ret :: K) s := den_flat hf (l := [r0, r1, .ret]) (by kernel_rfl) K s
theorem r0_eq : den prog ann 64 (.code r0 :: K) s = mreg prog ann 64 none [] none [] [qF 6 fun s => some (.bool false)] K s := (den_reg hf _ K s).trans (by kernel_rfl)
theorem r1_eq : den prog ann 64 (.code r1 :: K) s = mreg prog ann 64 none [] none [] [qC 7 0,qC 8 1,qB 9 (binA prog .geq 3) 7 8,qC 10 9,⟨some 11, some (10, true), .v fun s => some (s.get 0)⟩,⟨some 12, some (10, true), .v fun s => some (s.get 2)⟩,⟨some 13, some (10, true), .v fun s => binA prog .leq 3 (s.get 11) (s.get 12)⟩,qF 14 fun s => pickA (s.get 10) (s.get 13) (.bool false),qC 6 14] K s := (den_reg hf _ K s).trans (by kernel_rfl)
theorem ret_eq : den prog ann 64 (.code .ret :: K) s = finM true [fun s => some (s.get 6)] s := (den_ret hf K s).trans (by kernel_rfl)
theorem nil_eq (s : St) : den prog ann 64 [] s = finM true [fun s => some (s.get 6)] s := (den_nil hf s).trans (by kernel_rfl)
theorem inBlock_eq (id : Nat) (K : List Item) (s : St) : den prog ann 64 (.inBlock id :: K) s = den prog ann 64 K s := den_inBlock hf id K s
theorem exit_eq (id : Nat) (K : List Item) (s : St) : den prog ann 64 (.code (.exit id) :: K) s = exitV prog ann 64 (exitTo id K) s := den_exitV hf id K s
theorem call_eq (v0 v1 v2 : AV) (m : Mem) (h : closedL [v0, v1, v2] = true) : denC prog ann 64 [v0, v1, v2] m = (den prog ann 64 [.code b] ⟨[(0, v0), (1, v1), (2, v2)], 15, Mem.empty⟩).bind fun r => some (r.1, m) := (denC_pure hf (b := b) (by kernel_rfl) (by kernel_rfl) (by kernel_rfl) h m).trans (by kernel_rfl)
theorem pure_eq : (ann 64).pure = true := by kernel_rfl
attribute [simp] b_eq r0_eq r1_eq ret_eq nil_eq inBlock_eq exit_eq pure_eq
end
end r09_in
namespace r09_Join
noncomputable section
variable (K : List Item) (s : St)
def b : Code := (Try.f29.body).getD .skip
theorem hf : prog.funcs[29]? = some Try.f29 := by kernel_rfl
def r0 := findReg b 0
def r1 := findReg b 1
def r2 := findReg b 2
def k0 := findBlk b 0
def l0 := loopOf k0
def L0 (x0 x1 x5 x6 : AV) (m : Mem) (K : List Item) : Option Res := den prog ann 29 (.code l0 :: .inLoop l0 :: .inBlock 0 :: K) ⟨[(0, x0), (1, x1), (5, x5), (6, x6)], 27, m⟩
def r3 := findReg b 3
def i0 := findCond b 0
def i0t := thenOf i0
def i0e := elseOf i0
def k1 := findBlk b 1
def r5 := findReg b 5
def r4 := findReg b 4
def r6 := findReg b 6
theorem b_eq : den prog ann 29 (.code b :: K) s = den prog ann 29 (.code r0 :: .code r1 :: .code r2 :: .code k0 :: .code r6 :: .code .ret :: K) s := den_flat hf (l := [r0, r1, r2, k0, r6, .ret]) (by kernel_rfl) K s
theorem r0_eq : den prog ann 29 (.code r0 :: K) s = mreg prog ann 29 none [] none [] [qF 4 fun s => some (.nils)] K s := (den_reg hf _ K s).trans (by kernel_rfl)
theorem r1_eq : den prog ann 29 (.code r1 :: K) s = mreg prog ann 29 none [] none [] [⟨some 7, none, .w false none fun s => bslM s.m 0 (bslA 1 0 [.int .i64 0] [])⟩,qC 5 7] K s := (den_reg hf _ K s).trans (by kernel_rfl)
theorem r2_eq : den prog ann 29 (.code r2 :: K) s = mreg prog ann 29 none [] none [] [qF 6 fun s => some (.int .i64 0)] K s := (den_reg hf _ K s).trans (by kernel_rfl)
theorem k0_eq (K : List Item) (t : List (Nat × AV)) (m : Mem) : den prog ann 29 (.code k0 :: K) ⟨t, 27, m⟩ = L0 (get t 0) (get t 1) (get t 5) (get t 6) m K := den_loop_enter hf (b := l0) (id := 3) (l := [0, 1, 5, 6]) (by kernel_rfl) (by kernel_rfl) (by kernel_rfl) K _
theorem l0_eq (K : List Item) (t : List (Nat × AV)) (m : Mem) : den prog ann 29 (.inLoop l0 :: .inBlock 0 :: K) ⟨t, 27, m⟩ = L0 (get t 0) (get t 1) (get t 5) (get t 6) m K := den_loop_again hf (id := 3) (l := [0, 1, 5, 6]) (by kernel_rfl) (by kernel_rfl) (.inBlock 0 :: K) _
theorem L0_eq (x0 x1 x5 x6 : AV) (m : Mem) (K : List Item) : L0 x0 x1 x5 x6 m K = den prog ann 29 (.code r3 :: .code i0 :: .code k1 :: .code r4 :: .inLoop l0 :: .inBlock 0 :: K) ⟨[(0, x0), (1, x1), (5, x5), (6, x6)], 27, m⟩ := den_flat hf (l := [r3, i0, k1, r4]) (by kernel_rfl) _ _
theorem r3_eq : den prog ann 29 (.code r3 :: K) s = mreg prog ann 29 (some [0, 1, 5, 6]) [] none [] [qC 8 6,qC 9 0,qA 10 lenSl 9,qB 11 (binA prog .lss 3) 8 10] K s := (den_reg hf _ K s).trans (by kernel_rfl)
theorem i0_eq : den prog ann 29 (.code i0 :: K) s = ifV prog ann 29 11 i0t i0e K s (s.get 11) := den_if hf (by kernel_rfl) K s
theorem i0t_eq : den prog ann 29 (.code i0t :: K) s = den prog ann 29 (K) s := den_flat hf (l := []) (by kernel_rfl) K s
theorem i0e_eq : den prog ann 29 (.code i0e :: K) s = den prog ann 29 (.code (.exit 0) :: K) s := den_flat hf (l := [(.exit 0)]) (by kernel_rfl) K s
theorem k1_eq : den prog ann 29 (.code k1 :: K) s = den prog ann 29 (.code r5 :: .inBlock 1 :: K) s := den_blk hf (b := blkOf k1) (l := [r5]) (by kernel_rfl) (by kernel_rfl) K s
theorem r5_draw : drawOk (fun g => (ann g).pure) (modeOf (ann 29) (idOf r5)) (frzOf (ann 29) (idOf r5)) (opsOf r5) = true := drawOk_of (an := [0, 0, 0, 6, 14, 0, 0, 96, 224, 510, 1022, 2047, 4095]) (by kernel_rfl) (by kernel_rfl)
theorem r5_eq : den prog ann 29 (.code r5 :: K) s = mreg prog ann 29 none [] (some 13) [] [qC 14 5,qC 15 0,qC 16 6,qB 17 (idxSl 1) 15 16,qA 18 (loadF false 1) 17,qC 19 1,qC 20 6,qB 21 (idxSl 1) 19 20,qA 22 (loadF false 1) 21,qF 23 fun s => foldA max2A (s.get 18) [(s.get 22)],qF 24 fun s => bslF 1 (bslA 1 1 [.int .i64 0] [(0, (s.get 23))]),⟨some 25, none, .w false (some 11) fun s => appendA 1 8 s.m (s.get 14) (s.get 24)⟩,qC 5 25] K s := (den_regD hf r5_draw K s).trans (by kernel_rfl)
theorem r4_eq : den prog ann 29 (.code r4 :: K) s = mreg prog ann 29 (some [0, 1, 5, 6]) [] none [] [qC 12 6,qF 13 fun s => binA prog .add 3 (s.get 12) (.int .i64 1),qC 6 13] K s := (den_reg hf _ K s).trans (by kernel_rfl)
theorem r6_eq : den prog ann 29 (.code r6 :: K) s = mreg prog ann 29 (some [5]) [] none [] [qC 26 5,qC 4 26] K s := (den_reg hf _ K s).trans (by kernel_rfl)
theorem ret_eq : den prog ann 29 (.code .ret :: K) s = finM true [fun s => some (s.get 4)] s := (den_ret hf K s).trans (by kernel_rfl)
theorem nil_eq (s : St) : den prog ann 29 [] s = finM true [fun s => some (s.get 4)] s := (den_nil hf s).trans (by kernel_rfl)
theorem inBlock_eq (id : Nat) (K : List Item) (s : St) : den prog ann 29 (.inBlock id :: K) s = den prog ann 29 K s := den_inBlock hf id K s
theorem exit_eq (id : Nat) (K : List Item) (s : St) : den prog ann 29 (.code (.exit id) :: K) s = exitV prog ann 29 (exitTo id K) s := den_exitV hf id K s
theorem call_eq (v0 v1 : AV) (m : Mem) (h : closedL [v0, v1] = true) : denC prog ann 29 [v0, v1] m = (den prog ann 29 [.code b] ⟨[(0, v0), (1, v1)], 27, Mem.empty⟩).bind fun r => some (r.1, m) := (denC_pure hf (b := b) (by kernel_rfl) (by kernel_rfl) (by kernel_rfl) h m).trans (by kernel_rfl)
theorem pure_eq : (ann 29).pure = true := by kernel_rfl
attribute [simp] b_eq r0_eq r1_eq r2_eq k0_eq l0_eq r3_eq i0_eq i0t_eq i0e_eq k1_eq r5_eq r4_eq r6_eq ret_eq nil_eq inBlock_eq exit_eq pure_eq
end
end r09_Join
namespace r09_Consistent
noncomputable section
variable (K : List Item) (s : St)
def b : Code := (Try.f66.body).getD .skip
theorem hf : prog.funcs[66]? = some Try.f66 := by kernel_rfl
def r0 := findReg b 0
def r1 := findReg b 1
def k0 := findBlk b 0
def l0 := loopOf k0
def L0 (x1 x2 x5 : AV) (m : Mem) (K : List Item) : Option Res := den prog ann 66 (.code l0 :: .inLoop l0 :: .inBlock 0 :: K) ⟨[(1, x1), (2, x2), (5, x5)], 37, m⟩
def r2 := findReg b 2
def i0 := findCond b 0
def i0t := thenOf i0
def i0e := elseOf i0
def k1 := findBlk b 1
def r4 := findReg b 4
def r5 := findReg b 5
def i1 := findCond b 1
def i1t := thenOf i1
def i1e := elseOf i1
def r6 := findReg b 6
def r3 := findReg b 3
def r7 := findReg b 7
theorem b_eq : den prog ann 66 (.code b :: K) s = den prog ann 66 (.code r0 :: .code r1 :: .code k0 :: .code r7 :: .code .ret :: K) s := den_flat hf (l := [r0, r1, k0, r7, .ret]) (by kernel_rfl) K s
theorem r0_eq : den prog ann 66 (.code r0 :: K) s = mreg prog ann 66 none [] none [] [qA 2 frozenPtr 0,qF 4 fun s => some (.bool false)] K s := (den_reg hf _ K s).trans (by kernel_rfl)
theorem r1_eq : den prog ann 66 (.code r1 :: K) s = mreg prog ann 66 none [] none [] [qF 5 fun s => some (.int .i64 0)] K s := (den_reg hf _ K s).trans (by kernel_rfl)
theorem k0_eq (K : List Item) (t : List (Nat × AV)) (m : Mem) : den prog ann 66 (.code k0 :: K) ⟨t, 37, m⟩ = L0 (get t 1) (get t 2) (get t 5) m K := den_loop_enter hf (b := l0) (id := 2) (l := [1, 2, 5]) (by kernel_rfl) (by kernel_rfl) (by kernel_rfl) K _
theorem l0_eq (K : List Item) (t : List (Nat × AV)) (m : Mem) : den prog ann 66 (.inLoop l0 :: .inBlock 0 :: K) ⟨t, 37, m⟩ = L0 (get t 1) (get t 2) (get t 5) m K := den_loop_again hf (id := 2) (l := [1, 2, 5]) (by kernel_rfl) (by kernel_rfl) (.inBlock 0 :: K) _
theorem L0_eq (x1 x2 x5 : AV) (m : Mem) (K : List Item) : L0 x1 x2 x5 m K = den prog ann 66 (.code r2 :: .code i0 :: .code k1 :: .code r3 :: .inLoop l0 :: .inBlock 0 :: K) ⟨[(1, x1), (2, x2), (5, x5)], 37, m⟩ := den_flat hf (l := [r2, i0, k1, r3]) (by kernel_rfl) _ _
theorem r2_eq : den prog ann 66 (.code r2 :: K) s = mreg prog ann 66 (some [1, 2, 5]) [] none [] [qC 7 5,qA 8 (fieldA 1) 2,qA 9 (loadF false 1) 8,qA 10 lenSl 9,qB 11 (binA prog .lss 3) 7 10] K s := (den_reg hf _ K s).trans (by kernel_rfl)
theorem i0_eq : den prog ann 66 (.code i0 :: K) s = ifV prog ann 66 11 i0t i0e K s (s.get 11) := den_if hf (by kernel_rfl) K s
theorem i0t_eq : den prog ann 66 (.code i0t :: K) s = den prog ann 66 (K) s := den_flat hf (l := []) (by kernel_rfl) K s
theorem i0e_eq : den prog ann 66 (.code i0e :: K) s = den prog ann 66 (.code (.exit 0) :: K) s := den_flat hf (l := [(.exit 0)]) (by kernel_rfl) K s
theorem k1_eq : den prog ann 66 (.code k1 :: K) s = den prog ann 66 (.code r4 :: .code r5 :: .code i1 :: .inBlock 1 :: K) s := den_blk hf (b := blkOf k1) (l := [r4, r5, i1]) (by kernel_rfl) (by kernel_rfl) K s
theorem r4_eq : den prog ann 66 (.code r4 :: K) s = mreg prog ann 66 none [] none [6] [qA 14 (fieldA 1) 2,qA 15 (loadF false 1) 14,qC 16 5,qB 17 (idxSl 4) 15 16,qA 18 (loadF true 4) 17,⟨some 6, none, .w false none fun s => newPtr s.m [.int .i64 0, .int .i64 0, .int .i64 0, .int .i64 0]⟩,⟨none, none, .w false none fun s => stA true 4 s.m (s.get 6) (s.get 18)⟩] K s := (den_reg hf _ K s).trans (by kernel_rfl)
theorem r5_draw : drawOk (fun g => (ann g).pure) (modeOf (ann 66) (idOf r5)) (frzOf (ann 66) (idOf r5)) (opsOf r5) = true := drawOk_of (an := [0, 0, 2, 7, 15, 0, 32, 127, 255, 511, 511, 1535, 4095, 8191, 511, 16895, 65535, 131071]) (by kernel_rfl) (by kernel_rfl)
theorem r5_eq : den prog ann 66 (.code r5 :: K) s = mreg prog ann 66 none [] (some 18) [] [qC 19 1,qA 20 (fieldA 2) 6,qA 21 (loadF false 1) 20,qB 22 (idxSl 1) 19 21,qA 23 (loadF false 1) 22,qA 24 (fieldA 3) 6,qA 25 (loadF false 1) 24,qB 26 (binA prog .geq 3) 23 25,qC 27 26,⟨some 28, some (27, true), .v fun s => some (s.get 1)⟩,⟨some 29, some (27, true), .v fun s => fieldA 0 (s.get 6)⟩,⟨some 30, some (27, true), .v fun s => loadF false 1 (s.get 29)⟩,⟨some 31, some (27, true), .v fun s => idxSl 1 (s.get 28) (s.get 30)⟩,⟨some 32, some (27, true), .v fun s => loadF false 1 (s.get 31)⟩,⟨some 33, some (27, true), .v fun s => fieldA 1 (s.get 6)⟩,⟨some 34, some (27, true), .v fun s => loadF false 1 (s.get 33)⟩,⟨some 35, some (27, true), .v fun s => binA prog .lss 3 (s.get 32) (s.get 34)⟩,qF 36 fun s => pickA (s.get 27) (s.get 35) (.bool false)] K s := (den_regD hf r5_draw K s).trans (by kernel_rfl)
theorem i1_eq : den prog ann 66 (.code i1 :: K) s = ifV prog ann 66 36 i1t i1e K s (s.get 36) := den_if hf (by kernel_rfl) K s
theorem i1t_eq : den prog ann 66 (.code i1t :: K) s = den prog ann 66 (.code r6 :: .code .ret :: K) s := den_flat hf (l := [r6, .ret]) (by kernel_rfl) K s
theorem r6_eq : den prog ann 66 (.code r6 :: K) s = mreg prog ann 66 none [] none [] [qF 4 fun s => some (.bool false)] K s := (den_reg hf _ K s).trans (by kernel_rfl)
theorem i1e_eq : den prog ann 66 (.code i1e :: K) s = den prog ann 66 (K) s := den_flat hf (l := []) (by kernel_rfl) K s
theorem r3_eq : den prog ann 66 (.code r3 :: K) s = mreg prog ann 66 (some [1, 2, 5]) [] none [] [qC 12 5,qF 13 fun s => binA prog .add 3 (s.get 12) (.int .i64 1),qC 5 13] K s := (den_reg hf _ K s).trans (by kernel_rfl)
theorem r7_eq : den prog ann 66 (.code r7 :: K) s = mreg prog ann 66 (some []) [] none [] [qF 4 fun s => some (.bool true)] K s := (den_reg hf _ K s).trans (by kernel_rfl)
theorem ret_eq : den prog ann 66 (.code .ret :: K) s = finM true [fun s => some (s.get 4)] s := (den_ret hf K s).trans (by kernel_rfl)
theorem nil_eq (s : St) : den prog ann 66 [] s = finM true [fun s => some (s.get 4)] s := (den_nil hf s).trans (by kernel_rfl)
theorem inBlock_eq (id : Nat) (K : List Item) (s : St) : den prog ann 66 (.inBlock id :: K) s = den prog ann 66 K s := den_inBlock hf id K s
theorem exit_eq (id : Nat) (K : List Item) (s : St) : den prog ann 66 (.code (.exit id) :: K) s = exitV prog ann 66 (exitTo id K) s := den_exitV hf id K s
theorem call_eq (v0 v1 : AV) (m : Mem) (h : closedL [v0, v1] = true) : denC prog ann 66 [v0, v1] m = (den prog ann 66 [.code b] ⟨[(0, v0), (1, v1)], 37, Mem.empty⟩).bind fun r => some (r.1, m) := (denC_pure hf (b := b) (by kernel_rfl) (by kernel_rfl) (by kernel_rfl) h m).trans (by kernel_rfl)
theorem pure_eq : (ann 66).pure = true := by kernel_rfl
attribute [simp] b_eq r0_eq r1_eq k0_eq l0_eq r2_eq i0_eq i0t_eq i0e_eq k1_eq r4_eq r5_eq i1_eq i1t_eq r6_eq i1e_eq r3_eq r7_eq ret_eq nil_eq inBlock_eq exit_eq pure_eq
end
end r09_Consistent
namespace r09_ready
noncomputable section
variable (K : List Item) (s : St)
def b : Code := (Try.f65.body).getD .skip
theorem hf : prog.funcs[65]? = some Try.f65 := by kernel_rfl
def r0 := findReg b 0
def r1 := findReg b 1
def k0 := findBlk b 0
def l0 := loopOf k0
def L0 (x1 x2 x3 x7 : AV) (m : Mem) (K : List Item) : Option Res := den prog ann 65 (.code l0 :: .inLoop l0 :: .inBlock 0 :: K) ⟨[(1, x1), (2, x2), (3, x3), (7, x7)], 45, m⟩
def r2 := findReg b 2
def i0 := findCond b 0
def i0t := thenOf i0
def i0e := elseOf i0
def k1 := findBlk b 1
def r4 := findReg b 4
def r5 := findReg b 5
def i1 := findCond b 1
def i1t := thenOf i1
def i1e := elseOf i1
def r6 := findReg b 6
def r3 := findReg b 3
def r7 := findReg b 7
theorem b_eq : den prog ann 65 (.code b :: K) s = den prog ann 65 (.code r0 :: .code r1 :: .code k0 :: .code r7 :: .code .ret :: K) s := den_flat hf (l := [r0, r1, k0, r7, .ret]) (by kernel_rfl) K s
theorem r0_eq : den prog ann 65 (.code r0 :: K) s = mreg prog ann 65 none [] none [] [qA 3 frozenPtr 0,qF 6 fun s => some (.bool false)] K s := (den_reg hf _ K s).trans (by kernel_rfl)
theorem r1_eq : den prog ann 65 (.code r1 :: K) s = mreg prog ann 65 none [] none [] [qF 7 fun s => some (.int .i64 0)] K s := (den_reg hf _ K s).trans (by kernel_rfl)
theorem k0_eq (K : List Item) (t : List (Nat × AV)) (m : Mem) : den prog ann 65 (.code k0 :: K) ⟨t, 45, m⟩ = L0 (get t 1) (get t 2) (get t 3) (get t 7) m K := den_loop_enter hf (b := l0) (id := 2) (l := [1, 2, 3, 7]) (by kernel_rfl) (by kernel_rfl) (by kernel_rfl) K _
theorem l0_eq (K : List Item) (t : List (Nat × AV)) (m : Mem) : den prog ann 65 (.inLoop l0 :: .inBlock 0 :: K) ⟨t, 45, m⟩ = L0 (get t 1) (get t 2) (get t 3) (get t 7) m K := den_loop_again hf (id := 2) (l := [1, 2, 3, 7]) (by kernel_rfl) (by kernel_rfl) (.inBlock 0 :: K) _
theorem L0_eq (x1 x2 x3 x7 : AV) (m : Mem) (K : List Item) : L0 x1 x2 x3 x7 m K = den prog ann 65 (.code r2 :: .code i0 :: .code k1 :: .code r3 :: .inLoop l0 :: .inBlock 0 :: K) ⟨[(1, x1), (2, x2), (3, x3), (7, x7)], 45, m⟩ := den_flat hf (l := [r2, i0, k1, r3]) (by kernel_rfl) _ _
theorem r2_eq : den prog ann 65 (.code r2 :: K) s = mreg prog ann 65 (some [1, 2, 3, 7]) [] none [] [qC 9 7,qA 10 (fieldA 1) 3,qA 11 (loadF false 1) 10,qA 12 lenSl 11,qB 13 (binA prog .lss 3) 9 12] K s := (den_reg hf _ K s).trans (by kernel_rfl)
theorem i0_eq : den prog ann 65 (.code i0 :: K) s = ifV prog ann 65 13 i0t i0e K s (s.get 13) := den_if hf (by kernel_rfl) K s
theorem i0t_eq : den prog ann 65 (.code i0t :: K) s = den prog ann 65 (K) s := den_flat hf (l := []) (by kernel_rfl) K s
theorem i0e_eq : den prog ann 65 (.code i0e :: K) s = den prog ann 65 (.code (.exit 0) :: K) s := den_flat hf (l := [(.exit 0)]) (by kernel_rfl) K s
theorem k1_eq : den prog ann 65 (.code k1 :: K) s = den prog ann 65 (.code r4 :: .code r5 :: .code i1 :: .inBlock 1 :: K) s := den_blk hf (b := blkOf k1) (l := [r4, r5, i1]) (by kernel_rfl) (by kernel_rfl) K s
theorem r4_eq : den prog ann 65 (.code r4 :: K) s = mreg prog ann 65 none [] none [8] [qA 16 (fieldA 1) 3,qA 17 (loadF false 1) 16,qC 18 7,qB 19 (idxSl 4) 17 18,qA 20 (loadF true 4) 19,⟨some 8, none, .w false none fun s => newPtr s.m [.int .i64 0, .int .i64 0, .int .i64 0, .int .i64 0]⟩,⟨none, none, .w false none fun s => stA true 4 s.m (s.get 8) (s.get 20)⟩] K s := (den_reg hf _ K s).trans (by kernel_rfl)
theorem r5_draw : drawOk (fun g => (ann g).pure) (modeOf (ann 65) (idOf r5)) (frzOf (ann 65) (idOf r5)) (opsOf r5) = true := drawOk_of (an := [0, 1, 0, 7, 15, 31, 63, 31, 31, 415, 927, 1951, 4095, 8191, 16383, 32767, 32767, 98303, 262143, 524287, 32767, 1081343, 4194303, 8388607]) (by kernel_rfl) (by kernel_rfl)
theorem r5_eq : den prog ann 65 (.code r5 :: K) s = mreg prog ann 65 none [] (some 24) [] [qA 21 (fieldA 2) 8,qA 22 (loadF false 1) 21,qC 23 2,qB 24 (binA prog .eql 3) 22 23,qC 25 24,⟨some 26, some (25, true), .v fun s => fieldA 3 (s.get 8)⟩,⟨some 27, some (25, true), .v fun s => loadF false 1 (s.get 26)⟩,⟨some 28, some (25, true), .v fun s => some (s.get 1)⟩,⟨some 29, some (25, true), .v fun s => some (s.get 2)⟩,⟨some 30, some (25, true), .v fun s => idxSl 1 (s.get 28) (s.get 29)⟩,⟨some 31, some (25, true), .v fun s => loadF false 1 (s.get 30)⟩,⟨some 32, some (25, true), .v fun s => binA prog .add 3 (s.get 31) (.int .i64 1)⟩,⟨some 33, some (25, true), .v fun s => binA prog .eql 3 (s.get 27) (s.get 32)⟩,qF 34 fun s => pickA (s.get 25) (s.get 33) (.bool false),qC 35 34,⟨some 36, some (35, true), .v fun s => some (s.get 1)⟩,⟨some 37, some (35, true), .v fun s => fieldA 0 (s.get 8)⟩,⟨some 38, some (35, true), .v fun s => loadF false 1 (s.get 37)⟩,⟨some 39, some (35, true), .v fun s => idxSl 1 (s.get 36) (s.get 38)⟩,⟨some 40, some (35, true), .v fun s => loadF false 1 (s.get 39)⟩,⟨some 41, some (35, true), .v fun s => fieldA 1 (s.get 8)⟩,⟨some 42, some (35, true), .v fun s => loadF false 1 (s.get 41)⟩,⟨some 43, some (35, true), .v fun s => binA prog .lss 3 (s.get 40) (s.get 42)⟩,qF 44 fun s => pickA (s.get 35) (s.get 43) (.bool false)] K s := (den_regD hf r5_draw K s).trans (by kernel_rfl)
theorem i1_eq : den prog ann 65 (.code i1 :: K) s = ifV prog ann 65 44 i1t i1e K s (s.get 44) := den_if hf (by kernel_rfl) K s
theorem i1t_eq : den prog ann 65 (.code i1t :: K) s = den prog ann 65 (.code r6 :: .code .ret :: K) s := den_flat hf (l := [r6, .ret]) (by kernel_rfl) K s
theorem r6_eq : den prog ann 65 (.code r6 :: K) s = mreg prog ann 65 none [] none [] [qF 6 fun s => some (.bool false)] K s := (den_reg hf _ K s).trans (by kernel_rfl)
theorem i1e_eq : den prog ann 65 (.code i1e :: K) s = den prog ann 65 (K) s := den_flat hf (l := []) (by kernel_rfl) K s
theorem r3_eq : den prog ann 65 (.code r3 :: K) s = mreg prog ann 65 (some [1, 2, 3, 7]) [] none [] [qC 14 7,qF 15 fun s => binA prog .add 3 (s.get 14) (.int .i64 1),qC 7 15] K s := (den_reg hf _ K s).trans (by kernel_rfl)
theorem r7_eq : den prog ann 65 (.code r7 :: K) s = mreg prog ann 65 (some []) [] none [] [qF 6 fun s => some (.bool true)] K s := (den_reg hf _ K s).trans (by kernel_rfl)
theorem ret_eq : den prog ann 65 (.code .ret :: K) s = finM true [fun s => some (s.get 6)] s := (den_ret hf K s).trans (by kernel_rfl)
theorem nil_eq (s : St) : den prog ann 65 [] s = finM true [fun s => some (s.get 6)] s := (den_nil hf s).trans (by kernel_rfl)
theorem inBlock_eq (id : Nat) (K : List Item) (s : St) : den prog ann 65 (.inBlock id :: K) s = den prog ann 65 K s := den_inBlock hf id K s
theorem exit_eq (id : Nat) (K : List Item) (s : St) : den prog ann 65 (.code (.exit id) :: K) s = exitV prog ann 65 (exitTo id K) s := den_exitV hf id K s
theorem call_eq (v0 v1 v2 : AV) (m : Mem) (h : closedL [v0, v1, v2] = true) : denC prog ann 65 [v0, v1, v2] m = (den prog ann 65 [.code b] ⟨[(0, v0), (1, v1), (2, v2)], 45, Mem.empty⟩).bind fun r => some (r.1, m) := (denC_pure hf (b := b) (by kernel_rfl) (by kernel_rfl) (by kernel_rfl) h m).trans (by kernel_rfl)
theorem pure_eq : (ann 65).pure = true := by kernel_rfl
attribute [simp] b_eq r0_eq r1_eq k0_eq l0_eq r2_eq i0_eq i0t_eq i0e_eq k1_eq r4_eq r5_eq i1_eq i1t_eq r6_eq i1e_eq r3_eq r7_eq ret_eq nil_eq inBlock_eq exit_eq pure_eq
end
end r09_ready
namespace r09_Cuts
noncomputable section
variable (K : List Item) (s : St)
def b : Code := (Try.f20.body).getD .skip
theorem hf : prog.funcs[20]? = some Try.f20 := by kernel_rfl
def r0 := findReg b 0
def r1 := findReg b 1
def k0 := findBlk b 0
def l0 := loopOf k0
def L0 (x1 x3 x4 : AV) (m : Mem) (K : List Item) : Option Res := den prog ann 20 (.code l0 :: .inLoop l0 :: .inBlock 0 :: K) ⟨[(1, x1), (3, x3), (4, x4)], 51, m⟩
def k1 := findBlk b 1
def r2 := findReg b 2
def i0 := findCond b 0
def i0t := thenOf i0
def i0e := elseOf i0
def r3 := findReg b 3
def r4 := findReg b 4
def k2 := findBlk b 2
def l2 := loopOf k2
def L2 (x1 x3 x4 x5 : AV) (m : Mem) (K : List Item) : Option Res := den prog ann 20 (.code l2 :: .inLoop l2 :: .inBlock 2 :: K) ⟨[(1, x1), (3, x3), (4, x4), (5, x5)], 51, m⟩
def r5 := findReg b 5
def i1 := findCond b 1
def i1t := thenOf i1
def i1e := elseOf i1
def k3 := findBlk b 3
def r6 := findReg b 6
def r7 := findReg b 7
def r8 := findReg b 8
def i2 := findCond b 2
def i2t := thenOf i2
def i2e := elseOf i2
def r9 := findReg b 9
def r10 := findReg b 10
theorem b_eq : den prog ann 20 (.code b :: K) s = den prog ann 20 (.code r0 :: .code r1 :: .code k0 :: K) s := den_flat hf (l := [r0, r1, k0]) (by kernel_rfl) K s
theorem r0_eq : den prog ann 20 (.code r0 :: K) s = mreg prog ann 20 none [] none [] [qA 1 frozenPtr 0,qF 2 fun s => some (.nils)] K s := (den_reg hf _ K s).trans (by kernel_rfl)
theorem r1_draw : drawOk (fun g => (ann g).pure) (modeOf (ann 20) (idOf r1)) (frzOf (ann 20) (idOf r1)) (opsOf r1) = true := drawOk_of (an := [0, 0, 2, 6, 14, 1, 63]) (by kernel_rfl) (by kernel_rfl)
theorem r1_eq : den prog ann 20 (.code r1 :: K) s = mreg prog ann 20 none [] (some 7) [] [⟨some 6, none, .w false (some 0) fun s => bslM s.m 0 (bslA 1 0 [.nils] [])⟩,qA 7 (fieldA 0) 1,qA 8 (loadF false 1) 7,qA 9 lenSl 8,⟨some 10, none, .w false (some 4) fun s => makeA 1 8 (.int .i64 0) s.m (s.get 9) (s.get 9)⟩,qC 3 6,qC 4 10] K s := (den_regD hf r1_draw K s).trans (by kernel_rfl)
theorem k0_eq (K : List Item) (t : List (Nat × AV)) (m : Mem) : den prog ann 20 (.code k0 :: K) ⟨t, 51, m⟩ = L0 (get t 1) (get t 3) (get t 4) m K := den_loop_enter hf (b := l0) (id := 2) (l := [1, 3, 4]) (by kernel_rfl) (by kernel_rfl) (by kernel_rfl) K _
theorem l0_eq (K : List Item) (t : List (Nat × AV)) (m : Mem) : den prog ann 20 (.inLoop l0 :: .inBlock 0 :: K) ⟨t, 51, m⟩ = L0 (get t 1) (get t 3) (get t 4) m K := den_loop_again hf (id := 2) (l := [1, 3, 4]) (by kernel_rfl) (by kernel_rfl) (.inBlock 0 :: K) _
theorem L0_eq (x1 x3 x4 : AV) (m : Mem) (K : List Item) : L0 x1 x3 x4 m K = den prog ann 20 (.code k1 :: .inLoop l0 :: .inBlock 0 :: K) ⟨[(1, x1), (3, x3), (4, x4)], 51, m⟩ := den_flat hf (l := [k1]) (by kernel_rfl) _ _
theorem k1_eq : den prog ann 20 (.code k1 :: K) s = den prog ann 20 (.code r2 :: .code i0 :: .code r4 :: .code k2 :: .code r8 :: .code i2 :: .code r10 :: .inBlock 1 :: K) s := den_blk hf (b := blkOf k1) (l := [r2, i0, r4, k2, r8, i2, r10]) (by kernel_rfl) (by kernel_rfl) K s
theorem r2_eq : den prog ann 20 (.code r2 :: K) s = mreg prog ann 20 (some [1, 3, 4]) [] none [] [qA 11 (loadF true 2) 1,qC 12 4,⟨some 13, none, .c 0 (fun s => (.fn 66 [] [])) fun s => [(s.get 11), (s.get 12)]⟩] K s := (den_reg hf _ K s).trans (by kernel_rfl)
theorem i0_eq : den prog ann 20 (.code i0 :: K) s = ifV prog ann 20 13 i0t i0e K s (s.get 13) := den_if hf (by kernel_rfl) K s
theorem i0t_eq : den prog ann 20 (.code i0t :: K) s = den prog ann 20 (.code r3 :: K) s := den_flat hf (l := [r3]) (by kernel_rfl) K s
theorem r3_eq : den prog ann 20 (.code r3 :: K) s = mreg prog ann 20 none [] none [] [qC 14 3,⟨some 15, none, .w false none fun s => bslM s.m 0 (bslA 1 0 [.int .i64 0] [])⟩,qC 16 4,⟨some 17, none, .w true none fun s => appendA 1 8 s.m (s.get 15) (s.get 16)⟩,qF 18 fun s => bslF 1 (bslA 1 1 [.nils] [(0, (s.get 17))]),⟨some 19, none, .w false none fun s => appendA 1 24 s.m (s.get 14) (s.get 18)⟩,qC 3 19] K s := (den_reg hf _ K s).trans (by kernel_rfl)
theorem i0e_eq : den prog ann 20 (.code i0e :: K) s = den prog ann 20 (K) s := den_flat hf (l := []) (by kernel_rfl) K s
theorem r4_eq : den prog ann 20 (.code r4 :: K) s = mreg prog ann 20 (some [1, 3, 4]) [] none [] [qC 20 4,qA 21 lenSl 20,qF 22 fun s => binA prog .sub 3 (s.get 21) (.int .i64 1),qC 5 22] K s := (den_reg hf _ K s).trans (by kernel_rfl)
theorem k2_eq (K : List Item) (t : List (Nat × AV)) (m : Mem) : den prog ann 20 (.code k2 :: K) ⟨t, 51, m⟩ = L2 (get t 1) (get t 3) (get t 4) (get t 5) m K := den_loop_enter hf (b := l2) (id := 5) (l := [1, 3, 4, 5]) (by kernel_rfl) (by kernel_rfl) (by kernel_rfl) K _
theorem l2_eq (K : List Item) (t : List (Nat × AV)) (m : Mem) : den prog ann 20 (.inLoop l2 :: .inBlock 2 :: K) ⟨t, 51, m⟩ = L2 (get t 1) (get t 3) (get t 4) (get t 5) m K := den_loop_again hf (id := 5) (l := [1, 3, 4, 5]) (by kernel_rfl) (by kernel_rfl) (.inBlock 2 :: K) _
theorem L2_eq (x1 x3 x4 x5 : AV) (m : Mem) (K : List Item) : L2 x1 x3 x4 x5 m K = den prog ann 20 (.code r5 :: .code i1 :: .code k3 :: .inLoop l2 :: .inBlock 2 :: K) ⟨[(1, x1), (3, x3), (4, x4), (5, x5)], 51, m⟩ := den_flat hf (l := [r5, i1, k3]) (by kernel_rfl) _ _
theorem r5_draw : drawOk (fun g => (ann g).pure) (modeOf (ann 20) (idOf r5)) (frzOf (ann 20) (idOf r5)) (opsOf r5) = true := drawOk_of (an := [0, 1, 3, 7, 7, 31, 63, 7, 135, 7, 903, 1927, 4095, 8191]) (by kernel_rfl) (by kernel_rfl)
theorem r5_eq : den prog ann 20 (.code r5 :: K) s = mreg prog ann 20 (some [1, 3, 4, 5]) [] (some 14) [] [qC 23 5,qF 24 fun s => binA prog .geq 3 (s.get 23) (.int .i64 0),qC 25 24,⟨some 26, some (25, true), .v fun s => some (s.get 4)⟩,⟨some 27, some (25, true), .v fun s => some (s.get 5)⟩,⟨some 28, some (25, true), .v fun s => idxSl 1 (s.get 26) (s.get 27)⟩,⟨some 29, some (25, true), .v fun s => loadA false 1 s.m (s.get 28)⟩,⟨some 30, some (25, true), .v fun s => fieldA 0 (s.get 1)⟩,⟨some 31, some (25, true), .v fun s => loadF false 1 (s.get 30)⟩,⟨some 32, some (25, true), .v fun s => some (s.get 5)⟩,⟨some 33, some (25, true), .v fun s => idxSl 1 (s.get 31) (s.get 32)⟩,⟨some 34, some (25, true), .v fun s => loadF false 1 (s.get 33)⟩,⟨some 35, some (25, true), .v fun s => binA prog .eql 3 (s.get 29) (s.get 34)⟩,qF 36 fun s => pickA (s.get 25) (s.get 35) (.bool false)] K s := (den_regD hf r5_draw K s).trans (by kernel_rfl)
theorem i1_eq : den prog ann 20 (.code i1 :: K) s = ifV prog ann 20 36 i1t i1e K s (s.get 36) := den_if hf (by kernel_rfl) K s
theorem i1t_eq : den prog ann 20 (.code i1t :: K) s = den prog ann 20 (K) s := den_flat hf (l := []) (by kernel_rfl) K s
theorem i1e_eq : den prog ann 20 (.code i1e :: K) s = den prog ann 20 (.code (.exit 2) :: K) s := den_flat hf (l := [(.exit 2)]) (by kernel_rfl) K s
theorem k3_eq : den prog ann 20 (.code k3 :: K) s = den prog ann 20 (.code r6 :: .code r7 :: .inBlock 3 :: K) s := den_blk hf (b := blkOf k3) (l := [r6, r7]) (by kernel_rfl) (by kernel_rfl) K s
theorem r6_eq : den prog ann 20 (.code r6 :: K) s = mreg prog ann 20 none [] none [] [qC 37 4,qC 38 5,qB 39 (idxSl 1) 37 38,⟨none, none, .w false none fun s => stA false 1 s.m (s.get 39) (.int .i64 0)⟩] K s := (den_reg hf _ K s).trans (by kernel_rfl)
theorem r7_eq : den prog ann 20 (.code r7 :: K) s = mreg prog ann 20 none [] none [] [qC 40 5,qF 41 fun s => binA prog .sub 3 (s.get 40) (.int .i64 1),qC 5 41] K s := (den_reg hf _ K s).trans (by kernel_rfl)
theorem r8_eq : den prog ann 20 (.code r8 :: K) s = mreg prog ann 20 (some [1, 3, 4, 5]) [] none [] [qC 42 5,qF 43 fun s => binA prog .lss 3 (s.get 42) (.int .i64 0)] K s := (den_reg hf _ K s).trans (by kernel_rfl)
theorem i2_eq : den prog ann 20 (.code i2 :: K) s = ifV prog ann 20 43 i2t i2e K s (s.get 43) := den_if hf (by kernel_rfl) K s
theorem i2t_eq : den prog ann 20 (.code i2t :: K) s = den prog ann 20 (.code r9 :: .code .ret :: K) s := den_flat hf (l := [r9, .ret]) (by kernel_rfl) K s
theorem r9_eq : den prog ann 20 (.code r9 :: K) s = mreg prog ann 20 none [] none [] [qC 44 3,qC 2 44] K s := (den_reg hf _ K s).trans (by kernel_rfl)
theorem i2e_eq : den prog ann 20 (.code i2e :: K) s = den prog ann 20 (K) s := den_flat hf (l := []) (by kernel_rfl) K s
theorem r10_eq : den prog ann 20 (.code r10 :: K) s = mreg prog ann 20 none [] none [] [qC 45 4,qC 46 5,qB 47 (idxSl 1) 45 46,qF 48 fun s => loadA false 1 s.m (s.get 47),qF 49 fun s => binA prog .add 3 (s.get 48) (.int .i64 1),qB 50 (idxSl 1) 45 46,⟨none, none, .w false none fun s => stA false 1 s.m (s.get 50) (s.get 49)⟩] K s := (den_reg hf _ K s).trans (by kernel_rfl)
theorem ret_eq : den prog ann 20 (.code .ret :: K) s = finM true [fun s => some (s.get 2)] s := (den_ret hf K s).trans (by kernel_rfl)
theorem nil_eq (s : St) : den prog ann 20 [] s = finM true [fun s => some (s.get 2)] s := (den_nil hf s).trans (by kernel_rfl)
theorem inBlock_eq (id : Nat) (K : List Item) (s : St) : den prog ann 20 (.inBlock id :: K) s = den prog ann 20 K s := den_inBlock hf id K s
theorem exit_eq (id : Nat) (K : List Item) (s : St) : den prog ann 20 (.code (.exit id) :: K) s = exitV prog ann 20 (exitTo id K) s := den_exitV hf id K s
theorem call_eq (v0 : AV) (m : Mem) (h : closedL [v0] = true) : denC prog ann 20 [v0] m = (den prog ann 20 [.code b] ⟨[(0, v0)], 51, Mem.empty⟩).bind fun r => some (r.1, m) := (denC_pure hf (b := b) (by kernel_rfl) (by kernel_rfl) (by kernel_rfl) h m).trans (by kernel_rfl)
theorem pure_eq : (ann 20).pure = true := by kernel_rfl
attribute [simp] b_eq r0_eq r1_eq k0_eq l0_eq k1_eq r2_eq i0_eq i0t_eq r3_eq i0e_eq r4_eq k2_eq l2_eq r5_eq i1_eq i1t_eq i1e_eq k3_eq r6_eq r7_eq r8_eq i2_eq i2t_eq r9_eq i2e_eq r10_eq ret_eq nil_eq inBlock_eq exit_eq pure_eq
end
end r09_Cuts
namespace r09_Valid
noncomputable section
variable (K : List Item) (s : St)
def b : Code := (Try.f19.body).getD .skip
theorem hf : prog.funcs[19]? = some Try.f19 := by kernel_rfl
def r0 := findReg b 0
def r1 := findReg b 1
def k0 := findBlk b 0
def l0 := loopOf k0
def L0 (x1 x3 : AV) (m : Mem) (K : List Item) : Option Res := den prog ann 19 (.code l0 :: .inLoop l0 :: .inBlock 0 :: K) ⟨[(1, x1), (3, x3)], 132, m⟩
def r2 := findReg b 2
def i0 := findCond b 0
def i0t := thenOf i0
def i0e := elseOf i0
def k1 := findBlk b 1
def r4 := findReg b 4
def i1 := findCond b 1
def i1t := thenOf i1
def i1e := elseOf i1
def r5 := findReg b 5
def r3 := findReg b 3
def r6 := findReg b 6
def i2 := findCond b 2
def i2t := thenOf i2
def i2e := elseOf i2
def r7 := findReg b 7
def r8 := findReg b 8
def k2 := findBlk b 2
def l2 := loopOf k2
def L2 (x1 x4 : AV) (m : Mem) (K : List Item) : Option Res := den prog ann 19 (.code l2 :: .inLoop l2 :: .inBlock 2 :: K) ⟨[(1, x1), (4, x4)], 132, m⟩
def r9 := findReg b 9
def i3 := findCond b 3
def i3t := thenOf i3
def i3e := elseOf i3
def k3 := findBlk b 3
def r11 := findReg b 11
def r12 := findReg b 12
def i4 := findCond b 4
def i4t := thenOf i4
def i4e := elseOf i4
def r13 := findReg b 13
def r10 := findReg b 10
def r14 := findReg b 14
def r15 := findReg b 15
def k4 := findBlk b 4
def l4 := loopOf k4
def L4 (x1 x6 x7 : AV) (m : Mem) (K : List Item) : Option Res := den prog ann 19 (.code l4 :: .inLoop l4 :: .inBlock 4 :: K) ⟨[(1, x1), (6, x6), (7, x7)], 132, m⟩
def r16 := findReg b 16
def i5 := findCond b 5
def i5t := thenOf i5
def i5e := elseOf i5
def k5 := findBlk b 5
def r17 := findReg b 17
def r18 := findReg b 18
def k6 := findBlk b 6
def l6 := loopOf k6
def L6 (x1 x6 x7 x8 : AV) (m : Mem) (K : List Item) : Option Res := den prog ann 19 (.code l6 :: .inLoop l6 :: .inBlock 6 :: K) ⟨[(1, x1), (6, x6), (7, x7), (8, x8)], 132, m⟩
def r19 := findReg b 19
def i6 := findCond b 6
def i6t := thenOf i6
def i6e := elseOf i6
def k7 := findBlk b 7
def r21 := findReg b 21
def i7 := findCond b 7
def i7t := thenOf i7
def i7e := elseOf i7
def r22 := findReg b 22
def r23 := findReg b 23
def r20 := findReg b 20
def r24 := findReg b 24
theorem b_eq : den prog ann 19 (.code b :: K) s = den prog ann 19 (.code r0 :: .code r1 :: .code k0 :: .code r6 :: .code i2 :: .code r8 :: .code k2 :: .code r14 :: .code r15 :: .code k4 :: .code r24 :: .code .ret :: K) s := den_flat hf (l := [r0, r1, k0, r6, i2, r8, k2, r14, r15, k4, r24, .ret]) (by kernel_rfl) K s
theorem r0_eq : den prog ann 19 (.code r0 :: K) s = mreg prog ann 19 none [] none [] [qA 1 frozenPtr 0,qF 2 fun s => some (.bool false)] K s := (den_reg hf _ K s).trans (by kernel_rfl)
theorem r1_eq : den prog ann 19 (.code r1 :: K) s = mreg prog ann 19 none [] none [] [qF 3 fun s => some (.int .i64 0)] K s := (den_reg hf _ K s).trans (by kernel_rfl)
theorem k0_eq (K : List Item) (t : List (Nat × AV)) (m : Mem) : den prog ann 19 (.code k0 :: K) ⟨t, 132, m⟩ = L0 (get t 1) (get t 3) m K := den_loop_enter hf (b := l0) (id := 2) (l := [1, 3]) (by kernel_rfl) (by kernel_rfl) (by kernel_rfl) K _
theorem l0_eq (K : List Item) (t : List (Nat × AV)) (m : Mem) : den prog ann 19 (.inLoop l0 :: .inBlock 0 :: K) ⟨t, 132, m⟩ = L0 (get t 1) (get t 3) m K := den_loop_again hf (id := 2) (l := [1, 3]) (by kernel_rfl) (by kernel_rfl) (.inBlock 0 :: K) _
theorem L0_eq (x1 x3 : AV) (m : Mem) (K : List Item) : L0 x1 x3 m K = den prog ann 19 (.code r2 :: .code i0 :: .code k1 :: .code r3 :: .inLoop l0 :: .inBlock 0 :: K) ⟨[(1, x1), (3, x3)], 132, m⟩ := den_flat hf (l := [r2, i0, k1, r3]) (by kernel_rfl) _ _
theorem r2_eq : den prog ann 19 (.code r2 :: K) s = mreg prog ann 19 (some [1, 3]) [] none [] [qC 9 3,qA 10 (fieldA 0) 1,qA 11 (loadF false 1) 10,qA 12 lenSl 11,qB 13 (binA prog .lss 3) 9 12] K s := (den_reg hf _ K s).trans (by kernel_rfl)
theorem i0_eq : den prog ann 19 (.code i0 :: K) s = ifV prog ann 19 13 i0t i0e K s (s.get 13) := den_if hf (by kernel_rfl) K s
theorem i0t_eq : den prog ann 19 (.code i0t :: K) s = den prog ann 19 (K) s := den_flat hf (l := []) (by kernel_rfl) K s
theorem i0e_eq : den prog ann 19 (.code i0e :: K) s = den prog ann 19 (.code (.exit 0) :: K) s := den_flat hf (l := [(.exit 0)]) (by kernel_rfl) K s
theorem k1_eq : den prog ann 19 (.code k1 :: K) s = den prog ann 19 (.code r4 :: .code i1 :: .inBlock 1 :: K) s := den_blk hf (b := blkOf k1) (l := [r4, i1]) (by kernel_rfl) (by kernel_rfl) K s
theorem r4_eq : den prog ann 19 (.code r4 :: K) s = mreg prog ann 19 none [] none [] [qA 16 (fieldA 0) 1,qA 17 (loadF false 1) 16,qC 18 3,qB 19 (idxSl 1) 17 18,qA 20 (loadF false 1) 19,⟨some 21, none, .c 0 (fun s => (.fn 64 [] [])) fun s => [(s.get 20), (.int .i64 0), (.int .i64 6)]⟩,qA 22 (unA .not) 21] K s := (den_reg hf _ K s).trans (by kernel_rfl)
theorem i1_eq : den prog ann 19 (.code i1 :: K) s = ifV prog ann 19 22 i1t i1e K s (s.get 22) := den_if hf (by kernel_rfl) K s
theorem i1t_eq : den prog ann 19 (.code i1t :: K) s = den prog ann 19 (.code r5 :: .code .ret :: K) s := den_flat hf (l := [r5, .ret]) (by kernel_rfl) K s
theorem r5_eq : den prog ann 19 (.code r5 :: K) s = mreg prog ann 19 none [] none [] [qF 2 fun s => some (.bool false)] K s := (den_reg hf _ K s).trans (by kernel_rfl)
theorem i1e_eq : den prog ann 19 (.code i1e :: K) s = den prog ann 19 (K) s := den_flat hf (l := []) (by kernel_rfl) K s
theorem r3_eq : den prog ann 19 (.code r3 :: K) s = mreg prog ann 19 (some [1, 3]) [] none [] [qC 14 3,qF 15 fun s => binA prog .add 3 (s.get 14) (.int .i64 1),qC 3 15] K s := (den_reg hf _ K s).trans (by kernel_rfl)
theorem r6_eq : den prog ann 19 (.code r6 :: K) s = mreg prog ann 19 (some [1]) [] none [] [qA 23 (fieldA 0) 1,qA 24 (loadF false 1) 23,qA 25 lenSl 24,⟨some 26, none, .c 0 (fun s => (.fn 64 [] [])) fun s => [(s.get 25), (.int .i64 1), (.int .i64 4)]⟩,qA 27 (unA .not) 26,qC 28 27,⟨some 29, some (28, false), .v fun s => fieldA 1 (s.get 1)⟩,⟨some 30, some (28, false), .v fun s => loadF false 1 (s.get 29)⟩,⟨some 31, some (28, false), .v fun s => lenSl (s.get 30)⟩,⟨some 32, some (28, false), .v fun s => binA prog .gtr 3 (s.get 31) (.int .i64 24)⟩,qF 33 fun s => pickA (s.get 28) (.bool true) (s.get 32)] K s := (den_reg hf _ K s).trans (by kernel_rfl)
theorem i2_eq : den prog ann 19 (.code i2 :: K) s = ifV prog ann 19 33 i2t i2e K s (s.get 33) := den_if hf (by kernel_rfl) K s
theorem i2t_eq : den prog ann 19 (.code i2t :: K) s = den prog ann 19 (.code r7 :: .code .ret :: K) s := den_flat hf (l := [r7, .ret]) (by kernel_rfl) K s
theorem r7_eq : den prog ann 19 (.code r7 :: K) s = mreg prog ann 19 none [] none [] [qF 2 fun s => some (.bool false)] K s := (den_reg hf _ K s).trans (by kernel_rfl)
theorem i2e_eq : den prog ann 19 (.code i2e :: K) s = den prog ann 19 (K) s := den_flat hf (l := []) (by kernel_rfl) K s
theorem r8_eq : den prog ann 19 (.code r8 :: K) s = mreg prog ann 19 none [] none [] [qF 4 fun s => some (.int .i64 0)] K s := (den_reg hf _ K s).trans (by kernel_rfl)
theorem k2_eq (K : List Item) (t : List (Nat × AV)) (m : Mem) : den prog ann 19 (.code k2 :: K) ⟨t, 132, m⟩ = L2 (get t 1) (get t 4) m K := den_loop_enter hf (b := l2) (id := 9) (l := [1, 4]) (by kernel_rfl) (by kernel_rfl) (by kernel_rfl) K _
theorem l2_eq (K : List Item) (t : List (Nat × AV)) (m : Mem) : den prog ann 19 (.inLoop l2 :: .inBlock 2 :: K) ⟨t, 132, m⟩ = L2 (get t 1) (get t 4) m K := den_loop_again hf (id := 9) (l := [1, 4]) (by kernel_rfl) (by kernel_rfl) (.inBlock 2 :: K) _
theorem L2_eq (x1 x4 : AV) (m : Mem) (K : List Item) : L2 x1 x4 m K = den prog ann 19 (.code r9 :: .code i3 :: .code k3 :: .code r10 :: .inLoop l2 :: .inBlock 2 :: K) ⟨[(1, x1), (4, x4)], 132, m⟩ := den_flat hf (l := [r9, i3, k3, r10]) (by kernel_rfl) _ _
theorem r9_eq : den prog ann 19 (.code r9 :: K) s = mreg prog ann 19 (some [1, 4]) [] none [] [qC 34 4,qA 35 (fieldA 1) 1,qA 36 (loadF false 1) 35,qA 37 lenSl 36,qB 38 (binA prog .lss 3) 34 37] K s := (den_reg hf _ K s).trans (by kernel_rfl)
theorem i3_eq : den prog ann 19 (.code i3 :: K) s = ifV prog ann 19 38 i3t i3e K s (s.get 38) := den_if hf (by kernel_rfl) K s
theorem i3t_eq : den prog ann 19 (.code i3t :: K) s = den prog ann 19 (K) s := den_flat hf (l := []) (by kernel_rfl) K s
theorem i3e_eq : den prog ann 19 (.code i3e :: K) s = den prog ann 19 (.code (.exit 2) :: K) s := den_flat hf (l := [(.exit 2)]) (by kernel_rfl) K s
theorem k3_eq : den prog ann 19 (.code k3 :: K) s = den prog ann 19 (.code r11 :: .code r12 :: .code i4 :: .inBlock 3 :: K) s := den_blk hf (b := blkOf k3) (l := [r11, r12, i4]) (by kernel_rfl) (by kernel_rfl) K s
theorem r11_eq : den prog ann 19 (.code r11 :: K) s = mreg prog ann 19 none [] none [5] [qA 41 (fieldA 1) 1,qA 42 (loadF false 1) 41,qC 43 4,qB 44 (idxSl 4) 42 43,qA 45 (loadF true 4) 44,⟨some 5, none, .w false none fun s => newPtr s.m [.int .i64 0, .int .i64 0, .int .i64 0, .int .i64 0]⟩,⟨none, none, .w false none fun s => stA true 4 s.m (s.get 5) (s.get 45)⟩] K s := (den_reg hf _ K s).trans (by kernel_rfl)
theorem r12_draw : drawOk (fun g => (ann g).pure) (modeOf (ann 19) (idOf r12)) (frzOf (ann 19) (idOf r12)) (opsOf r12) = true := drawOk_of (an := [0, 1, 0, 4, 12, 28, 63, 127, 255, 511, 1023, 511, 2559, 6655, 14847, 32767, 65535, 131071, 262143, 524287, 1048575, 524287, 2621439, 8388607, 16777215, 33554431, 67108863, 134217727, 67108863, 335544319, 67108863, 1140850687, 4093640703, 8388607999, 17179869183, 34359738367, 68719476735, 137438953471, 274877906943, 549755813887, 274877906943, 1374389534719, 274877906943, 4672924418047, 16767552323583, 34359738367999, 70368744177663, 140737488355327, 281474976710655]) (by kernel_rfl) (by kernel_rfl)
theorem r12_eq : den prog ann 19 (.code r12 :: K) s = mreg prog ann 19 none [] (some 49) [] [qA 46 (fieldA 0) 5,qA 47 (loadF false 1) 46,qA 48 (fieldA 0) 1,qA 49 (loadF false 1) 48,qA 50 lenSl 49,qF 51 fun s => binA prog .sub 3 (s.get 50) (.int .i64 1),⟨some 52, none, .c 0 (fun s => (.fn 64 [] [])) fun s => [(s.get 47), (.int .i64 0), (s.get 51)]⟩,qA 53 (unA .not) 52,qC 54 53,⟨some 55, some (54, false), .v fun s => fieldA 2 (s.get 5)⟩,⟨some 56, some (54, false), .v fun s => loadF false 1 (s.get 55)⟩,⟨some 57, some (54, false), .v fun s => fieldA 0 (s.get 1)⟩,⟨some 58, some (54, false), .v fun s => loadF false 1 (s.get 57)⟩,⟨some 59, some (54, false), .v fun s => lenSl (s.get 58)⟩,⟨some 60, some (54, false), .v fun s => binA prog .sub 3 (s.get 59) (.int .i64 1)⟩,⟨some 61, some (54, false), .c 0 (fun s => (.fn 64 [] [])) fun s => [(s.get 56), (.int .i64 0), (s.get 60)]⟩,⟨some 62, some (54, false), .v fun s => unA .not (s.get 61)⟩,qF 63 fun s => pickA (s.get 54) (.bool true) (s.get 62),qC 64 63,⟨some 65, some (64, false), .v fun s => fieldA 0 (s.get 5)⟩,⟨some 66, some (64, false), .v fun s => loadF false 1 (s.get 65)⟩,⟨some 67, some (64, false), .v fun s => fieldA 2 (s.get 5)⟩,⟨some 68, some (64, false), .v fun s => loadF false 1 (s.get 67)⟩,⟨some 69, some (64, false), .v fun s => binA prog .eql 3 (s.get 66) (s.get 68)⟩,qF 70 fun s => pickA (s.get 64) (.bool true) (s.get 69),qC 71 70,⟨some 72, some (71, false), .v fun s => fieldA 1 (s.get 5)⟩,⟨some 73, some (71, false), .v fun s => loadF false 1 (s.get 72)⟩,⟨some 74, some (71, false), .v fun s => fieldA 0 (s.get 1)⟩,⟨some 75, some (71, false), .v fun s => loadF false 1 (s.get 74)⟩,⟨some 76, some (71, false), .v fun s => fieldA 0 (s.get 5)⟩,⟨some 77, some (71, false), .v fun s => loadF false 1 (s.get 76)⟩,⟨some 78, some (71, false), .v fun s => idxSl 1 (s.get 75) (s.get 77)⟩,⟨some 79, some (71, false), .v fun s => loadF false 1 (s.get 78)⟩,⟨some 80, some (71, false), .c 0 (fun s => (.fn 64 [] [])) fun s => [(s.get 73), (.int .i64 1), (s.get 79)]⟩,⟨some 81, some (71, false), .v fun s => unA .not (s.get 80)⟩,qF 82 fun s => pickA (s.get 71) (.bool true) (s.get 81),qC 83 82,⟨some 84, some (83, false), .v fun s => fieldA 3 (s.get 5)⟩,⟨some 85, some (83, false), .v fun s => loadF false 1 (s.get 84)⟩,⟨some 86, some (83, false), .v fun s => fieldA 0 (s.get 1)⟩,⟨some 87, some (83, false), .v fun s => loadF false 1 (s.get 86)⟩,⟨some 88, some (83, false), .v fun s => fieldA 2 (s.get 5)⟩,⟨some 89, some (83, false), .v fun s => loadF false 1 (s.get 88)⟩,⟨some 90, some (83, false), .v fun s => idxSl 1 (s.get 87) (s.get 89)⟩,⟨some 91, some (83, false), .v fun s => loadF false 1 (s.get 90)⟩,⟨some 92, some (83, false), .c 0 (fun s => (.fn 64 [] [])) fun s => [(s.get 85), (.int .i64 1), (s.get 91)]⟩,⟨some 93, some (83, false), .v fun s => unA .not (s.get 92)⟩,qF 94 fun s => pickA (s.get 83) (.bool true) (s.get 93)] K s := (den_regD hf r12_draw K s).trans (by kernel_rfl)
theorem i4_eq : den prog ann 19 (.code i4 :: K) s = ifV prog ann 19 94 i4t i4e K s (s.get 94) := den_if hf (by kernel_rfl) K s
theorem i4t_eq : den prog ann 19 (.code i4t :: K) s = den prog ann 19 (.code r13 :: .code .ret :: K) s := den_flat hf (l := [r13, .ret]) (by kernel_rfl) K s
theorem r13_eq : den prog ann 19 (.code r13 :: K) s = mreg prog ann 19 none [] none [] [qF 2 fun s => some (.bool false)] K s := (den_reg hf _ K s).trans (by kernel_rfl)
theorem i4e_eq : den prog ann 19 (.code i4e :: K) s = den prog ann 19 (K) s := den_flat hf (l := []) (by kernel_rfl) K s
theorem r10_eq : den prog ann 19 (.code r10 :: K) s = mreg prog ann 19 (some [1, 4]) [] none [] [qC 39 4,qF 40 fun s => binA prog .add 3 (s.get 39) (.int .i64 1),qC 4 40] K s := (den_reg hf _ K s).trans (by kernel_rfl)
theorem r14_eq : den prog ann 19 (.code r14 :: K) s = mreg prog ann 19 (some [1]) [] none [] [qA 95 (fieldA 0) 1,qA 96 (loadF false 1) 95,qA 97 lenSl 96,⟨some 98, none, .w false none fun s => makeA 1 8 (.int .i64 0) s.m (s.get 97) (s.get 97)⟩,qC 6 98] K s := (den_reg hf _ K s).trans (by kernel_rfl)
theorem r15_eq : den prog ann 19 (.code r15 :: K) s = mreg prog ann 19 none [] none [] [qF 7 fun s => some (.bool true)] K s := (den_reg hf _ K s).trans (by kernel_rfl)
theorem k4_eq (K : List Item) (t : List (Nat × AV)) (m : Mem) : den prog ann 19 (.code k4 :: K) ⟨t, 132, m⟩ = L4 (get t 1) (get t 6) (get t 7) m K := den_loop_enter hf (b := l4) (id := 16) (l := [1, 6, 7]) (by kernel_rfl) (by kernel_rfl) (by kernel_rfl) K _
theorem l4_eq (K : List Item) (t : List (Nat × AV)) (m : Mem) : den prog ann 19 (.inLoop l4 :: .inBlock 4 :: K) ⟨t, 132, m⟩ = L4 (get t 1) (get t 6) (get t 7) m K := den_loop_again hf (id := 16) (l := [1, 6, 7]) (by kernel_rfl) (by kernel_rfl) (.inBlock 4 :: K) _
theorem L4_eq (x1 x6 x7 : AV) (m : Mem) (K : List Item) : L4 x1 x6 x7 m K = den prog ann 19 (.code r16 :: .code i5 :: .code k5 :: .inLoop l4 :: .inBlock 4 :: K) ⟨[(1, x1), (6, x6), (7, x7)], 132, m⟩ := den_flat hf (l := [r16, i5, k5]) (by kernel_rfl) _ _
theorem r16_eq : den prog ann 19 (.code r16 :: K) s = mreg prog ann 19 (some [1, 6, 7]) [] none [] [qC 99 7] K s := (den_reg hf _ K s).trans (by kernel_rfl)
theorem i5_eq : den prog ann 19 (.code i5 :: K) s = ifV prog ann 19 99 i5t i5e K s (s.get 99) := den_if hf (by kernel_rfl) K s
theorem i5t_eq : den prog ann 19 (.code i5t :: K) s = den prog ann 19 (K) s := den_flat hf (l := []) (by kernel_rfl) K s
theorem i5e_eq : den prog ann 19 (.code i5e :: K) s = den prog ann 19 (.code (.exit 4) :: K) s := den_flat hf (l := [(.exit 4)]) (by kernel_rfl) K s
theorem k5_eq : den prog ann 19 (.code k5 :: K) s = den prog ann 19 (.code r17 :: .code r18 :: .code k6 :: .inBlock 5 :: K) s := den_blk hf (b := blkOf k5) (l := [r17, r18, k6]) (by kernel_rfl) (by kernel_rfl) K s
theorem r17_eq : den prog ann 19 (.code r17 :: K) s = mreg prog ann 19 none [] none [] [qF 7 fun s => some (.bool false)] K s := (den_reg hf _ K s).trans (by kernel_rfl)
theorem r18_eq : den prog ann 19 (.code r18 :: K) s = mreg prog ann 19 none [] none [] [qF 8 fun s => some (.int .i64 0)] K s := (den_reg hf _ K s).trans (by kernel_rfl)
theorem k6_eq (K : List Item) (t : List (Nat × AV)) (m : Mem) : den prog ann 19 (.code k6 :: K) ⟨t, 132, m⟩ = L6 (get t 1) (get t 6) (get t 7) (get t 8) m K := den_loop_enter hf (b := l6) (id := 19) (l := [1, 6, 7, 8]) (by kernel_rfl) (by kernel_rfl) (by kernel_rfl) K _
theorem l6_eq (K : List Item) (t : List (Nat × AV)) (m : Mem) : den prog ann 19 (.inLoop l6 :: .inBlock 6 :: K) ⟨t, 132, m⟩ = L6 (get t 1) (get t 6) (get t 7) (get t 8) m K := den_loop_again hf (id := 19) (l := [1, 6, 7, 8]) (by kernel_rfl) (by kernel_rfl) (.inBlock 6 :: K) _
theorem L6_eq (x1 x6 x7 x8 : AV) (m : Mem) (K : List Item) : L6 x1 x6 x7 x8 m K = den prog ann 19 (.code r19 :: .code i6 :: .code k7 :: .code r20 :: .inLoop l6 :: .inBlock 6 :: K) ⟨[(1, x1), (6, x6), (7, x7), (8, x8)], 132, m⟩ := den_flat hf (l := [r19, i6, k7, r20]) (by kernel_rfl) _ _
theorem r19_eq : den prog ann 19 (.code r19 :: K) s = mreg prog ann 19 (some [1, 6, 7, 8]) [] none [] [qC 100 8,qC 101 6,qA 102 lenSl 101,qB 103 (binA prog .lss 3) 100 102] K s := (den_reg hf _ K s).trans (by kernel_rfl)
theorem i6_eq : den prog ann 19 (.code i6 :: K) s = ifV prog ann 19 103 i6t i6e K s (s.get 103) := den_if hf (by kernel_rfl) K s
theorem i6t_eq : den prog ann 19 (.code i6t :: K) s = den prog ann 19 (K) s := den_flat hf (l := []) (by kernel_rfl) K s
theorem i6e_eq : den prog ann 19 (.code i6e :: K) s = den prog ann 19 (.code (.exit 6) :: K) s := den_flat hf (l := [(.exit 6)]) (by kernel_rfl) K s
theorem k7_eq : den prog ann 19 (.code k7 :: K) s = den prog ann 19 (.code r21 :: .code i7 :: .inBlock 7 :: K) s := den_blk hf (b := blkOf k7) (l := [r21, i7]) (by kernel_rfl) (by kernel_rfl) K s
theorem r21_draw : drawOk (fun g => (ann g).pure) (modeOf (ann 19) (idOf r21)) (frzOf (ann 19) (idOf r21)) (opsOf r21) = true := drawOk_of (an := [0, 0, 3, 7, 0, 16, 0, 112, 240, 511, 1023, 2047, 2047, 2047, 16383, 32767]) (by kernel_rfl) (by kernel_rfl)
theorem r21_eq : den prog ann 19 (.code r21 :: K) s = mreg prog ann 19 none [] (some 16) [] [qC 106 6,qC 107 8,qB 108 (idxSl 1) 106 107,qF 109 fun s => loadA false 1 s.m (s.get 108),qA 110 (fieldA 0) 1,qA 111 (loadF false 1) 110,qC 112 8,qB 113 (idxSl 1) 111 112,qA 114 (loadF false 1) 113,qB 115 (binA prog .lss 3) 109 114,qC 116 115,⟨some 117, some (116, true), .v fun s => loadF true 2 (s.get 1)⟩,⟨some 118, some (116, true), .v fun s => some (s.get 6)⟩,⟨some 119, some (116, true), .v fun s => some (s.get 8)⟩,⟨some 120, some (116, true), .c 0 (fun s => (.fn 65 [] [])) fun s => [(s.get 117), (s.get 118), (s.get 119)]⟩,qF 121 fun s => pickA (s.get 116) (s.get 120) (.bool false)] K s := (den_regD hf r21_draw K s).trans (by kernel_rfl)
theorem i7_eq : den prog ann 19 (.code i7 :: K) s = ifV prog ann 19 121 i7t i7e K s (s.get 121) := den_if hf (by kernel_rfl) K s
theorem i7t_eq : den prog ann 19 (.code i7t :: K) s = den prog ann 19 (.code r22 :: .code r23 :: K) s := den_flat hf (l := [r22, r23]) (by kernel_rfl) K s
theorem r22_eq : den prog ann 19 (.code r22 :: K) s = mreg prog ann 19 none [] none [] [qC 122 6,qC 123 8,qB 124 (idxSl 1) 122 123,qF 125 fun s => loadA false 1 s.m (s.get 124),qF 126 fun s => binA prog .add 3 (s.get 125) (.int .i64 1),qB 127 (idxSl 1) 122 123,⟨none, none, .w false none fun s => stA false 1 s.m (s.get 127) (s.get 126)⟩] K s := (den_reg hf _ K s).trans (by kernel_rfl)
theorem r23_eq : den prog ann 19 (.code r23 :: K) s = mreg prog ann 19 none [] none [] [qF 7 fun s => some (.bool true)] K s := (den_reg hf _ K s).trans (by kernel_rfl)
theorem i7e_eq : den prog ann 19 (.code i7e :: K) s = den prog ann 19 (K) s := den_flat hf (l := []) (by kernel_rfl) K s
theorem r20_eq : den prog ann 19 (.code r20 :: K) s = mreg prog ann 19 (some [1, 6, 7, 8]) [] none [] [qC 104 8,qF 105 fun s => binA prog .add 3 (s.get 104) (.int .i64 1),qC 8 105] K s := (den_reg hf _ K s).trans (by kernel_rfl)
theorem r24_eq : den prog ann 19 (.code r24 :: K) s = mreg prog ann 19 (some [1, 6]) [] none [] [qC 128 6,qA 129 (fieldA 0) 1,qA 130 (loadF false 1) 129,⟨some 131, none, .c 0 (fun s => (.fn 21 [] [])) fun s => [(s.get 128), (s.get 130)]⟩,qC 2 131] K s := (den_reg hf _ K s).trans (by kernel_rfl)
theorem ret_eq : den prog ann 19 (.code .ret :: K) s = finM true [fun s => some (s.get 2)] s := (den_ret hf K s).trans (by kernel_rfl)
theorem nil_eq (s : St) : den prog ann 19 [] s = finM true [fun s => some (s.get 2)] s := (den_nil hf s).trans (by kernel_rfl)
theorem inBlock_eq (id : Nat) (K : List Item) (s : St) : den prog ann 19 (.inBlock id :: K) s = den prog ann 19 K s := den_inBlock hf id K s
theorem exit_eq (id : Nat) (K : List Item) (s : St) : den prog ann 19 (.code (.exit id) :: K) s = exitV prog ann 19 (exitTo id K) s := den_exitV hf id K s
theorem call_eq (v0 : AV) (m : Mem) (h : closedL [v0] = true) : denC prog ann 19 [v0] m = (den prog ann 19 [.code b] ⟨[(0, v0)], 132, Mem.empty⟩).bind fun r => some (r.1, m) := (denC_pure hf (b := b) (by kernel_rfl) (by kernel_rfl) (by kernel_rfl) h m).trans (by kernel_rfl)
theorem pure_eq : (ann 19).pure = true := by kernel_rfl
attribute [simp] b_eq r0_eq r1_eq k0_eq l0_eq r2_eq i0_eq i0t_eq i0e_eq k1_eq r4_eq i1_eq i1t_eq r5_eq i1e_eq r3_eq r6_eq i2_eq i2t_eq r7_eq i2e_eq r8_eq k2_eq l2_eq r9_eq i3_eq i3t_eq i3e_eq k3_eq r11_eq r12_eq i4_eq i4t_eq r13_eq i4e_eq r10_eq r14_eq r15_eq k4_eq l4_eq r16_eq i5_eq i5t_eq i5e_eq k5_eq r17_eq r18_eq k6_eq l6_eq r19_eq i6_eq i6t_eq i6e_eq k7_eq r21_eq i7_eq i7t_eq r22_eq r23_eq i7e_eq r20_eq r24_eq ret_eq nil_eq inBlock_eq exit_eq pure_eq
end
end r09_Valid
end Go.Proofs.Ytdkmepjedjclkaa

/-
  WHAT THE REFERENCE's SMALL FUNCTIONS COMPUTE: the order of lists, the same list. Conditions: none.
-/
namespace Go.Proofs.Ytdkmepjedjclkaa
open Go.AM
open Go.Proofs.Try (prog)
set_option linter.all false
set_option maxRecDepth 10000
def lexLt : List Int → List Int → Bool
  | [], [] => false
  | [], _ :: _ => true
  | _ :: _, [] => false
  | a :: x, b :: y => if a = b then lexLt x y else decide (a < b)
theorem lexLt_drop {a b : List Int} {i : Nat} (h1 : i < a.length) (h2 : i < b.length) : lexLt (a.drop i) (b.drop i) = if nth a i = nth b i then lexLt (a.drop (i + 1)) (b.drop (i + 1)) else decide (nth a i < nth b i) := by
  rw [drop_nth h1, drop_nth h2]; simp [lexLt]
theorem before_loop {va vb : AV} {a b : List Int} (ha : IsInts va a) (hb : IsInts vb b) (hla : a.length < 4611686018427387904) : ∀ (n i : Nat) (m : Mem), a.length - i ≤ n → i ≤ a.length → i ≤ b.length →
    r01_Before.L0 va vb (.int .i64 i) m [.code r01_Before.r6, .code .ret] = some (.bool (lexLt (a.drop i) (b.drop i)), Mem.empty) := by
  intro n
  induction n with
  | zero =>
    intro i m hn hi hi2
    have e : i = a.length := by omega
    subst e
    rw [r01_Before.L0_eq]
    simp [ha.len, hb.len]
    rcases Nat.lt_or_ge a.length b.length with h | h
    · simp [h, drop_nth h, lexLt]
    · have e2 : a.length = b.length := by omega
      simp [e2, lexLt]
  | succ n ih =>
    intro i m hn hi hi2
    rw [r01_Before.L0_eq]
    simp [ha.len, hb.len]
    by_cases h1 : i < a.length
    · by_cases h2 : i < b.length
      · simp [ha.len, hb.len, h1, h2, ha.idx, hb.idx, ints_head]
        by_cases h3 : nth a i = nth b i
        · simp [h3]
          rw [wrap_id (by omega) (by omega)]
          have := ih (i + 1) ⟨m.h, m.nx + 9⟩ (by omega) (by omega) (by omega)
          simp at this
          rw [this, lexLt_drop h1 h2]
          simp [h3]
        · simp [h3, ha.idx, hb.idx, h1, h2, ints_head]
          rw [lexLt_drop h1 h2]
          simp [h3]
      · have e : i = b.length := by omega
        subst e
        simp [ha.len, hb.len, h1]
        have h4 : ¬ a.length < b.length := by omega
        simp [h4, drop_nth h1, lexLt]
    · have e : i = a.length := by omega
      subst e
      simp [ha.len, hb.len]
      rcases Nat.lt_or_ge a.length b.length with h | h
      · simp [h, drop_nth h, lexLt]
      · have e2 : a.length = b.length := by omega
        simp [e2, lexLt]
theorem before_spec {va vb : AV} {a b : List Int} (ha : IsInts va a) (hb : IsInts vb b) (hla : a.length < 4611686018427387904) (m : Mem) :
    denC prog ann 67 [va, vb] m = some (.bool (lexLt a b), m) := by
  rw [r01_Before.call_eq _ _ _ (by simp [ha.closed, hb.closed])]
  have := before_loop ha hb hla _ 0 Mem.empty (Nat.le_refl _) (by omega) (by omega)
  simp at this
  simp [this]
theorem lexLt_same : ∀ a b : List Int, (!lexLt a b && !lexLt b a) = decide (a = b)
  | [], [] => by simp [lexLt]
  | [], _ :: _ => by simp [lexLt]
  | _ :: _, [] => by simp [lexLt]
  | a :: x, b :: y => by
    have ih := lexLt_same x y
    by_cases h : a = b
    · subst h; simpa [lexLt] using ih
    · have h' : ¬ b = a := fun e => h e.symm
      simp only [lexLt, h, h', if_false]
      by_cases h1 : a < b
      · simp [h1, h]
      · have : b < a := by omega
        simp [this, h]
theorem same_spec {va vb : AV} {a b : List Int} (ha : IsInts va a) (hb : IsInts vb b) (hla : a.length < 4611686018427387904) (hlb : b.length < 4611686018427387904) (m : Mem) :
    denC prog ann 21 [va, vb] m = some (.bool (decide (a = b)), m) := by
  rw [r01_Same.call_eq _ _ _ (by simp [ha.closed, hb.closed])]
  simp [ha.closed, hb.closed, before_spec ha hb hla, before_spec hb ha hlb]
  have h := lexLt_same a b
  cases h1 : lexLt a b <;> cases h2 : lexLt b a <;> simp [h1, h2] at h <;> (try subst h) <;> simp [ha.closed, hb.closed, before_spec hb ha hlb, h1, h2, *]
end Go.Proofs.Ytdkmepjedjclkaa

/-
  WHAT THE REFERENCE COMPUTES OF A STORY: which cuts are consistent. Conditions: none.
-/
namespace Go.Proofs.Ytdkmepjedjclkaa
open Go.AM
open Go.Proofs.Try (prog)
set_option linter.all false
set_option maxRecDepth 10000
structure Note where
  f : Int
  s : Int
  t : Int
  r : Int
deriving Inhabited
def noteC (x : Note) : List AV := [.int .i64 x.f, .int .i64 x.s, .int .i64 x.t, .int .i64 x.r]
theorem noteC_len (l : List Note) : ∀ x ∈ l, (noteC x).length = 4 := fun _ _ => rfl
@[simp] theorem noteC_one (x : Note) : oneL (noteC x) = true := rfl
@[simp] theorem noteC_closed (x : Note) : closedL (noteC x) = true := rfl
def nt (l : List Note) (i : Nat) : Note := l.getD i default
theorem nt_eq {l : List Note} {i : Nat} (h : i < l.length) : l[i]? = some (nt l i) := by
  rw [List.getElem?_eq_getElem h]; simp [nt, List.getD, List.getElem?_eq_getElem h]
theorem nt_mem {l : List Note} {i : Nat} (h : i < l.length) : nt l i ∈ l := List.mem_of_getElem? (nt_eq h)
theorem load_note {l : List Note} {i : Nat} (h : i < l.length) : loadF true 4 (.fptr (flatC noteC (l.drop i))) = some (.agg (noteC (nt l i))) := by
  rw [flatC_at (nt_eq h)]; simp [noteC]
theorem drop_nt {l : List Note} {i : Nat} (h : i < l.length) : l.drop i = nt l i :: l.drop (i + 1) := by
  obtain ⟨h1, h2⟩ := List.getElem?_eq_some_iff.1 (nt_eq h)
  rw [List.drop_eq_getElem_cons h1, h2]
structure IsTale (v : AV) (D : List Int) (N : List Note) : Prop where
  ex : ∃ vD vN, v = .agg [vD, vN] ∧ IsInts vD D ∧ IsSl noteC vN N
theorem IsTale.closed {v : AV} {D : List Int} {N : List Note} (h : IsTale v D N) : v.closed = true := by
  obtain ⟨vD, vN, rfl, h1, h2⟩ := h.ex; simp [h1.closed, h2.closed]
def noteOk (c : List Int) (x : Note) : Bool := !(decide (x.r ≤ nth c x.t.toNat) && decide (nth c x.f.toNat < x.s))
def conR (N : List Note) (c : List Int) : Bool := N.all (noteOk c)
theorem consR_loop {vD vN vc : AV} {D : List Int} {N : List Note} {c : List Int} (hD : IsInts vD D) (hN : IsSl noteC vN N) (hc : IsInts vc c) (hl : N.length < 1000000)
    (hr : ∀ x ∈ N, 0 ≤ x.f ∧ x.f < c.length ∧ 0 ≤ x.t ∧ x.t < c.length) : ∀ (n i : Nat) (m : Mem), N.length - i ≤ n → i ≤ N.length →
    r09_Consistent.L0 vc (.fptr [vD, vN]) (.int .i64 i) m [.code r09_Consistent.r7, .code .ret] = some (.bool (conR (N.drop i) c), Mem.empty) := by
  intro n
  induction n with
  | zero =>
    intro i m h1 h2
    have e : i = N.length := by omega
    subst e
    rw [r09_Consistent.L0_eq]
    simp [hN.len, conR]
  | succ n ih =>
    intro i m h1 h2
    by_cases h3 : i < N.length
    · rw [r09_Consistent.L0_eq]
      obtain ⟨f0, f1, t0, t1⟩ := hr _ (nt_mem h3)
      have hw : IntKind.wrap .i64 ((i : Int) + 1) = (i : Int) + 1 := wrap_id (by omega) (by omega)
      simp [hN.len, h3, hN.idx (noteC_len N) h3, load_note h3]
      simp [noteC, hc.idxI f0 f1, hc.idxI t0 t1, ints_headI f0 f1, ints_headI t0 t1]
      have hi := fun m => ih (i + 1) m (by omega) (by omega)
      simp at hi
      have hd : conR (N.drop i) c = (noteOk c (nt N i) && conR (N.drop (i + 1)) c) := by rw [drop_nt h3]; rfl
      rw [hd]
      by_cases q1 : (nt N i).r ≤ nth c (nt N i).t.toNat
      · by_cases q2 : nth c (nt N i).f.toNat < (nt N i).s
        · simp [q1, q2, hc.idxI f0 f1, ints_headI f0 f1, noteOk]
        · simp [q1, q2, hc.idxI f0 f1, ints_headI f0 f1, noteOk, hw, hi]
      · simp [q1, noteOk, hw, hi]
    · have e : i = N.length := by omega
      subst e
      rw [r09_Consistent.L0_eq]
      simp [hN.len, conR]
theorem consR_spec {v vc : AV} {D : List Int} {N : List Note} {c : List Int} (hs : IsTale v D N) (hc : IsInts vc c) (hl : N.length < 1000000)
    (hr : ∀ x ∈ N, 0 ≤ x.f ∧ x.f < c.length ∧ 0 ≤ x.t ∧ x.t < c.length) (m : Mem) : denC prog ann 66 [v, vc] m = some (.bool (conR N c), m) := by
  have hcl := hs.closed
  obtain ⟨vD, vN, rfl, hD, hN⟩ := hs.ex
  rw [r09_Consistent.call_eq _ _ _ (by simp [hc.closed, hD.closed, hN.closed])]
  have := consR_loop hD hN hc hl hr _ 0 Mem.empty (Nat.le_refl _) (by omega)
  simp at this
  simp [hD.one, hN.one, hD.closed, hN.closed, this]
theorem in_spec (v lo hi : Int) (m : Mem) : denC prog ann 64 [.int .i64 v, .int .i64 lo, .int .i64 hi] m = some (.bool (decide (lo ≤ v) && decide (v ≤ hi)), m) := by
  rw [r09_in.call_eq _ _ _ _ (by simp)]
  simp
  by_cases h : lo ≤ v <;> simp [h]
def readyOk (done : List Int) (h : Nat) (x : Note) : Bool := !(decide (x.t = h) && (decide (x.r = nth done h + 1) && decide (nth done x.f.toNat < x.s)))
def readyL (N : List Note) (done : List Int) (h : Nat) : Bool := N.all (readyOk done h)
theorem ready_loop {vD vN vd : AV} {N : List Note} {done : List Int} (hN : IsSl noteC vN N) (hd : IsInts vd done) (hl : N.length < 1000000) {h : Nat} (hh : h < done.length) (hb : nth done h < 1000000) (hb0 : 0 ≤ nth done h)
    (hr : ∀ x ∈ N, 0 ≤ x.f ∧ x.f < done.length ∧ 0 ≤ x.t ∧ x.t < done.length) : ∀ (n i : Nat) (m : Mem), N.length - i ≤ n → i ≤ N.length →
    r09_ready.L0 vd (.int .i64 h) (.fptr [vD, vN]) (.int .i64 i) m [.code r09_ready.r7, .code .ret] = some (.bool (readyL (N.drop i) done h), Mem.empty) := by
  intro n
  induction n with
  | zero =>
    intro i m h1 h2
    have e : i = N.length := by omega
    subst e
    rw [r09_ready.L0_eq]
    simp [hN.len, readyL]
  | succ n ih =>
    intro i m h1 h2
    by_cases h3 : i < N.length
    · rw [r09_ready.L0_eq]
      obtain ⟨f0, f1, t0, t1⟩ := hr _ (nt_mem h3)
      have hw : IntKind.wrap .i64 ((i : Int) + 1) = (i : Int) + 1 := wrap_id (by omega) (by omega)
      have hw2 : IntKind.wrap .i64 (nth done h + 1) = nth done h + 1 := wrap_id (by omega) (by omega)
      have hi := fun m => ih (i + 1) m (by omega) (by omega)
      simp at hi
      have hd' : readyL (N.drop i) done h = (readyOk done h (nt N i) && readyL (N.drop (i + 1)) done h) := by rw [drop_nt h3]; rfl
      rw [hd']
      simp [hN.len, h3, hN.idx (noteC_len N) h3, load_note h3]
      by_cases q0 : (nt N i).t = h
      · by_cases q1 : (nt N i).r = nth done h + 1
        · by_cases q2 : nth done (nt N i).f.toNat < (nt N i).s
          · simp [noteC, q0, q1, q2, hd.idx hh, ints_head hh, hd.idxI f0 f1, ints_headI f0 f1, readyOk, hw2]
          · simp [noteC, q0, q1, q2, hd.idx hh, ints_head hh, hd.idxI f0 f1, ints_headI f0 f1, readyOk, hw2, hw, hi]
        · simp [noteC, q0, q1, hd.idx hh, ints_head hh, readyOk, hw2, hw, hi]
      · simp [noteC, q0, readyOk, hw, hi]
    · have e : i = N.length := by omega
      subst e
      rw [r09_ready.L0_eq]
      simp [hN.len, readyL]
theorem ready_spec {v vd : AV} {D : List Int} {N : List Note} {done : List Int} (hs : IsTale v D N) (hd : IsInts vd done) (hl : N.length < 1000000) {h : Nat} (hh : h < done.length) (hb : nth done h < 1000000) (hb0 : 0 ≤ nth done h)
    (hr : ∀ x ∈ N, 0 ≤ x.f ∧ x.f < done.length ∧ 0 ≤ x.t ∧ x.t < done.length) (m : Mem) : denC prog ann 65 [v, vd, .int .i64 h] m = some (.bool (readyL N done h), m) := by
  obtain ⟨vD, vN, rfl, hD, hN⟩ := hs.ex
  rw [r09_ready.call_eq _ _ _ _ (by simp [hd.closed, hD.closed, hN.closed])]
  have := ready_loop (vD := vD) hN hd hl hh hb hb0 hr _ 0 Mem.empty (Nat.le_refl _) (by omega)
  simp at this
  simp [hD.one, hN.one, hD.closed, hN.closed, this]
end Go.Proofs.Ytdkmepjedjclkaa

/-
  WHAT THE REFERENCE's Cuts COMPUTES: the consistent ones among all tuples, in lexicographic order. Conditions: none.
-/
namespace Go.Proofs.Ytdkmepjedjclkaa
open Go.AM
open Go.Proofs.Try (prog)
set_option linter.all false
set_option maxRecDepth 10000
def tuplesL : List Int → List (List Int)
  | [] => [[]]
  | d :: D => (List.range (d.toNat + 1)).flatMap fun (i : Nat) => (tuplesL D).map (List.cons (i : Int))
def fromL : List Int → List Int → List (List Int)
  | d :: D, x :: c => (fromL D c).map (List.cons x) ++ (List.range' 1 (d - x).toNat).flatMap fun (i : Nat) => (tuplesL D).map (List.cons (x + i))
  | _, _ => [[]]
def nextL : List Int → List Int → Option (List Int)
  | d :: D, x :: c => match nextL D c with
    | some c' => some (x :: c')
    | none => if x < d then some ((x + 1) :: List.replicate c.length 0) else none
  | _, _ => none
theorem fromL_zero : ∀ (D : List Int), (∀ d ∈ D, 0 ≤ d) → fromL D (List.replicate D.length 0) = tuplesL D
  | [], _ => rfl
  | d :: D, h => by
    have hd := h d (by simp)
    simp only [List.length_cons, List.replicate_succ, fromL, tuplesL, fromL_zero D (fun x hx => h x (by simp [hx])), Int.sub_zero]
    rw [List.range_eq_range', List.range'_succ, List.flatMap_cons]
    congr 1
    simp
theorem fromL_next : ∀ (D c : List Int), c.length = D.length → (∀ d ∈ D, 0 ≤ d) → fromL D c = c :: (match nextL D c with | none => [] | some c' => fromL D c')
  | [], [], _, _ => rfl
  | d :: D, x :: c, h, hd => by
    have hl : c.length = D.length := by simpa using h
    have ih := fromL_next D c hl (fun y hy => hd y (by simp [hy]))
    have hz := fromL_zero D (fun y hy => hd y (by simp [hy]))
    cases hn : nextL D c with
    | some c' =>
      rw [hn] at ih
      simp only [fromL, nextL, hn, ih, List.map_cons, List.cons_append]
    | none =>
      rw [hn] at ih
      simp only [fromL, nextL, hn, ih, List.map_cons, List.map_nil, List.cons_append, List.nil_append]
      by_cases hx : x < d
      · simp only [hx, if_true, fromL, hl, hz]
        have e : (d - x).toNat = (d - (x + 1)).toNat + 1 := by omega
        rw [e, List.range'_succ, List.flatMap_cons]
        congr 2
        rw [show (1 : Nat) + 1 = 1 + 1 by rfl, List.range'_eq_map_range, List.range'_eq_map_range, List.flatMap_map, List.flatMap_map]
        congr 1
        funext i
        congr 2
        simp only [Int.natCast_add]
        omega
      · have e : (d - x).toNat = 0 := by omega
        simp [hx, e]
def odo (D : List Int) : List Int → Nat → Option (List Int)
  | _, 0 => none
  | c, j + 1 => if nth c j = nth D j then odo D (c.set j 0) j else some (c.set j (nth c j + 1))
def zeroTo : List Int → Nat → List Int
  | c, 0 => c
  | c, j + 1 => zeroTo (c.set j 0) j
theorem odo_cons (d x : Int) (D : List Int) : ∀ (j : Nat) (c : List Int), odo (d :: D) (x :: c) (j + 1) = match odo D c j with | some c' => some (x :: c') | none => if x = d then none else some ((x + 1) :: zeroTo c j)
  | 0, c => by
    by_cases h : x = d <;> simp [odo, nth_cons0, zeroTo, h]
  | j + 1, c => by
    rw [odo, nth_cons1, nth_cons1]
    simp only [List.set_cons_succ]
    rw [odo_cons d x D j (c.set j 0)]
    rw [show odo D c (j + 1) = if nth c j = nth D j then odo D (c.set j 0) j else some (c.set j (nth c j + 1)) from rfl]
    by_cases h : nth c j = nth D j
    · simp [h, zeroTo]
    · simp [h]
theorem zeroTo_all : ∀ (c : List Int), zeroTo c c.length = List.replicate c.length 0
  | [] => rfl
  | x :: c => by
    have go : ∀ (j : Nat) (c : List Int), zeroTo (x :: c) (j + 1) = 0 :: zeroTo c j := by
      intro j
      induction j with
      | zero => intro c; rfl
      | succ j ih => intro c; rw [zeroTo]; simp only [List.set_cons_succ]; rw [ih]; rfl
    rw [List.length_cons, go, zeroTo_all c]; rfl
theorem odo_next : ∀ (D c : List Int), c.length = D.length → (∀ i, nth c i ≤ nth D i) → odo D c c.length = nextL D c
  | [], [], _, _ => rfl
  | d :: D, x :: c, h, hle => by
    have hl : c.length = D.length := by simpa using h
    rw [List.length_cons, odo_cons, odo_next D c hl (fun i => by simpa [nth_cons1] using hle (i + 1))]
    have h0 := hle 0
    simp only [nth_cons0] at h0
    simp only [nextL]
    cases nextL D c with
    | some c' => rfl
    | none =>
      simp only [zeroTo_all]
      by_cases hx : x < d
      · have : ¬ x = d := by omega
        simp [hx, this]
      · have : x = d := by omega
        simp [hx, this]
def rowC (c : List Int) : List AV := [.fsl false c.length (ints c)]
@[simp] theorem rowC_one (c : List Int) : oneL (rowC c) = true := rfl
@[simp] theorem rowC_closed (c : List Int) : closedL (rowC c) = true := rfl
theorem rowC_len (l : List (List Int)) : ∀ c ∈ l, (rowC c).length = 1 := fun _ _ => rfl
structure InBox (D c : List Int) : Prop where
  len : c.length = D.length
  lo : ∀ i, 0 ≤ nth c i
  hi : ∀ i, nth c i ≤ nth D i
theorem odo_box {D : List Int} : ∀ (j : Nat) (c c' : List Int), InBox D c → j ≤ D.length → odo D c j = some c' → InBox D c'
  | 0, c, c', _, _, h => by simp [odo] at h
  | j + 1, c, c', hb, hj, h => by
    have hc := hb.len
    rw [odo] at h
    split at h
    · rename_i he
      have h0 := hb.hi j; have h1 := hb.lo j
      refine odo_box j (c.set j 0) c' ⟨by simp [hc], fun i => ?_, fun i => ?_⟩ (by omega) h
      · simp only [nth, List.getD, List.getElem?_set]
        have := hb.lo i
        simp only [nth, List.getD] at this
        split
        · split <;> simp
        · exact this
      · have h2 := hb.hi i; have h3 := hb.lo i
        by_cases e : j = i
        · subst e
          have : nth (c.set j 0) j = 0 := by simp [nth, List.getD, List.getElem?_set, show j < c.length by omega]
          omega
        · have : nth (c.set j 0) i = nth c i := by simp [nth, List.getD, List.getElem?_set, e]
          omega
    · rename_i he
      cases h
      have h0 := hb.hi j; have h1 := hb.lo j
      refine ⟨by simp [hc], fun i => ?_, fun i => ?_⟩
      · by_cases e : j = i
        · subst e
          have : nth (c.set j (nth c j + 1)) j = nth c j + 1 := by simp [nth, List.getD, List.getElem?_set, show j < c.length by omega]
          omega
        · have : nth (c.set j (nth c j + 1)) i = nth c i := by simp [nth, List.getD, List.getElem?_set, e]
          have := hb.lo i
          omega
      · by_cases e : j = i
        · subst e
          have : nth (c.set j (nth c j + 1)) j = nth c j + 1 := by simp [nth, List.getD, List.getElem?_set, show j < c.length by omega]
          omega
        · have : nth (c.set j (nth c j + 1)) i = nth c i := by simp [nth, List.getD, List.getElem?_set, e]
          have := hb.hi i
          omega
structure Lims (D : List Int) (N : List Note) : Prop where
  n1 : 1 ≤ D.length
  n4 : D.length ≤ 4
  lo : ∀ i, 0 ≤ nth D i
  hi : ∀ i, nth D i ≤ 6
  N24 : N.length ≤ 24
  notes : ∀ x ∈ N, 0 ≤ x.f ∧ x.f < D.length ∧ 0 ≤ x.t ∧ x.t < D.length
theorem odo_loop {vD vN : AV} {D : List Int} {N : List Note} (hD : IsInts vD D) (L : Lims D N) {acc : List (List Int)} : ∀ (j : Nat) (c : List Int) (m : Mem), j ≤ D.length → InBox D c →
    m.h 0 = some (.cells (flatC rowC acc)) → m.h 4 = some (.cells (ints c)) →
    match odo D c j with
    | none => r09_Cuts.L2 (.fptr [vD, vN]) (.sl 0 1 0 acc.length acc.length) (.sl 4 1 0 D.length D.length) (.int .i64 ((j : Int) - 1)) m [.code r09_Cuts.r8, .code r09_Cuts.i2, .code r09_Cuts.r10, .inBlock 1, .inLoop r09_Cuts.l0, .inBlock 0] = some (.fsl false acc.length (flatC rowC acc), Mem.empty)
    | some c' => ∃ nx, m.nx ≤ nx ∧ r09_Cuts.L2 (.fptr [vD, vN]) (.sl 0 1 0 acc.length acc.length) (.sl 4 1 0 D.length D.length) (.int .i64 ((j : Int) - 1)) m [.code r09_Cuts.r8, .code r09_Cuts.i2, .code r09_Cuts.r10, .inBlock 1, .inLoop r09_Cuts.l0, .inBlock 0] =
        r09_Cuts.L0 (.fptr [vD, vN]) (.sl 0 1 0 acc.length acc.length) (.sl 4 1 0 D.length D.length) ⟨upd m.h 4 (some (.cells (ints c'))), nx⟩ [] := by
  intro j
  induction j with
  | zero =>
    intro c m hj hc h0 h4
    simp only [odo]
    rw [r09_Cuts.L2_eq]
    have hfl : (flatC rowC acc).length = acc.length := by simpa using flatC_len (k := 1) (rowC_len acc)
    have hdp := flatC_deep m.h 4 (f := rowC) (fun a => by simp [rowC]) acc
    have ht : (flatC rowC acc).take acc.length = flatC rowC acc := List.take_of_length_le (by omega)
    simp [h0, hfl, hdp, ht]
  | succ j ih =>
    intro c m hj hc h0 h4
    have hl := hc.len
    have hj' : j < c.length := by omega
    have b1 := hc.lo j
    have b2 := hc.hi j
    have b3 := L.hi j
    have hlen := L.n4
    have hw : IntKind.wrap .i64 ((j : Int) - 1) = (j : Int) - 1 := wrap_id (by omega) (by omega)
    have hw2 : IntKind.wrap .i64 (nth c j + 1) = nth c j + 1 := wrap_id (by omega) (by omega)
    have e : ((j + 1 : Nat) : Int) - 1 = j := by omega
    rw [odo, e]
    by_cases hq : nth c j = nth D j
    · simp only [hq, if_true]
      have hc' : InBox D (c.set j 0) := by
        refine ⟨by simp [hl], fun i => ?_, fun i => ?_⟩
        · by_cases e : j = i
          · subst e; simp [nth, List.getD, List.getElem?_set, hj']
          · have : nth (c.set j 0) i = nth c i := by simp [nth, List.getD, List.getElem?_set, e]
            have := hc.lo i; omega
        · by_cases e : j = i
          · subst e
            have : nth (c.set j 0) j = 0 := by simp [nth, List.getD, List.getElem?_set, hj']
            omega
          · have : nth (c.set j 0) i = nth c i := by simp [nth, List.getD, List.getElem?_set, e]
            have := hc.hi i; omega
      have step : r09_Cuts.L2 (.fptr [vD, vN]) (.sl 0 1 0 acc.length acc.length) (.sl 4 1 0 D.length D.length) (.int .i64 j) m [.code r09_Cuts.r8, .code r09_Cuts.i2, .code r09_Cuts.r10, .inBlock 1, .inLoop r09_Cuts.l0, .inBlock 0] =
          r09_Cuts.L2 (.fptr [vD, vN]) (.sl 0 1 0 acc.length acc.length) (.sl 4 1 0 D.length D.length) (.int .i64 ((j : Int) - 1)) ⟨upd m.h 4 (some (.cells (ints (c.set j 0)))), m.nx + 14⟩ [.code r09_Cuts.r8, .code r09_Cuts.i2, .code r09_Cuts.r10, .inBlock 1, .inLoop r09_Cuts.l0, .inBlock 0] := by
        rw [r09_Cuts.L2_eq]
        simp [hD.idx (show j < D.length by omega), ints_head (show j < D.length by omega), h4, hl, show j < D.length by omega, hq, hw]
      rw [step]
      have := ih (c.set j 0) ⟨upd m.h 4 (some (.cells (ints (c.set j 0)))), m.nx + 14⟩ (by omega) hc' (by simpa using h0) (by simp)
      cases ho : odo D (c.set j 0) j with
      | none => rw [ho] at this; exact this
      | some c' =>
        rw [ho] at this
        obtain ⟨nx, h1, h2⟩ := this
        exact ⟨nx, by simp at h1; omega, by rw [h2]; simp⟩
    · simp only [hq, if_false]
      refine ⟨m.nx + 14, by omega, ?_⟩
      rw [r09_Cuts.L2_eq]
      simp [hD.idx (show j < D.length by omega), ints_head (show j < D.length by omega), h4, hl, show j < D.length by omega, hq, hw2]
theorem fromL_len_pos (D c : List Int) : 0 < (fromL D c).length := by
  match D, c with
  | [], _ => simp [fromL]
  | _ :: _, [] => simp [fromL]
  | d :: D, x :: c => have := fromL_len_pos D c; simp [fromL]; omega
theorem cuts_loop {vD vN : AV} {D : List Int} {N : List Note} (hD : IsInts vD D) (hN : IsSl noteC vN N) (L : Lims D N) : ∀ (n : Nat) (c : List Int) (acc : List (List Int)) (m : Mem), (fromL D c).length ≤ n → InBox D c →
    m.h 0 = some (.cells (flatC rowC acc)) → m.h 4 = some (.cells (ints c)) → 5 ≤ m.nx → acc.length + (fromL D c).length ≤ 1000000 →
    r09_Cuts.L0 (.fptr [vD, vN]) (.sl 0 1 0 acc.length acc.length) (.sl 4 1 0 D.length D.length) m [] = some (.fsl false (acc ++ (fromL D c).filter (conR N)).length (flatC rowC (acc ++ (fromL D c).filter (conR N))), Mem.empty) := by
  intro n
  induction n with
  | zero => intro c acc m h; have := fromL_len_pos D c; omega
  | succ n ih =>
    intro c acc m hlen hc h0 h4 hnx hb
    have hl := hc.len
    have hn1 := L.n1
    have hn4 := L.n4
    have hpos : ∀ d ∈ D, 0 ≤ d := by
      intro d hd
      obtain ⟨i, hi, rfl⟩ := List.mem_iff_getElem.1 hd
      rw [nth_get hi]; exact L.lo i
    have htale : IsTale (.agg [vD, vN]) D N := ⟨vD, vN, rfl, hD, hN⟩
    have hcon := consR_spec htale (vc := .fsl false D.length (ints c)) (c := c) (.inr ⟨false, by rw [hl]⟩) (by have := L.N24; omega) (fun x hx => by rw [hl]; exact L.notes x hx) Mem.empty
    have hfl : (flatC rowC acc).length = acc.length := by simpa using flatC_len (k := 1) (rowC_len acc)
    have hno := fromL_next D c hl hpos
    have hon := odo_next D c hl hc.hi
    rw [hl] at hon
    have e04 : (0 == 4) = false := rfl
    have hw : IntKind.wrap .i64 ((D.length : Int) - 1) = (D.length : Int) - 1 := wrap_id (by omega) (by omega)
    have htk : (ints c).take D.length = ints c := List.take_of_length_le (by simp; omega)
    rw [hno] at hlen hb
    simp only [List.length_cons] at hlen hb
    have go : ∀ (acc : List (List Int)) (m : Mem), m.h 0 = some (.cells (flatC rowC acc)) → m.h 4 = some (.cells (ints c)) → 5 ≤ m.nx → acc.length + (match nextL D c with | none => [] | some c' => fromL D c').length ≤ 1000000 →
        r09_Cuts.L2 (.fptr [vD, vN]) (.sl 0 1 0 acc.length acc.length) (.sl 4 1 0 D.length D.length) (.int .i64 ((D.length : Int) - 1)) m [.code r09_Cuts.r8, .code r09_Cuts.i2, .code r09_Cuts.r10, .inBlock 1, .inLoop r09_Cuts.l0, .inBlock 0] =
          some (.fsl false (acc ++ (match nextL D c with | none => [] | some c' => fromL D c').filter (conR N)).length (flatC rowC (acc ++ (match nextL D c with | none => [] | some c' => fromL D c').filter (conR N))), Mem.empty) := by
      intro acc m h0 h4 hnx hb
      have := odo_loop (vN := vN) hD L (acc := acc) D.length c m (Nat.le_refl _) hc h0 h4
      rw [hon] at this
      cases hq : nextL D c with
      | none => rw [hq] at this; simpa using this
      | some c' =>
        rw [hq] at this hlen hb
        obtain ⟨nx, q1, q2⟩ := this
        rw [q2]
        have hc' : InBox D c' := odo_box D.length c c' hc (Nat.le_refl _) (by rw [hon, hq])
        exact ih c' acc _ (by simp only at hlen; omega) hc' (by simpa using h0) (by simp) (by simp; omega) hb
    rw [r09_Cuts.L0_eq]
    rw [hno]
    by_cases hq : conR N c = true
    · have hg := go (acc ++ [c]) ⟨upd (upd m.h m.nx none) 0 (some (.cells (flatC rowC (acc ++ [c])))), m.nx + 1⟩ (by simp) (by
          have : (4 == m.nx) = false := by simp; omega
          simpa [this] using h4) (by simp; omega) (by rw [List.length_append]; simp; omega)
      have e0 : (0 == m.nx) = false := by simp; omega
      have e4 : (4 == m.nx) = false := by simp; omega
      have hr : flatC rowC acc ++ [.fsl false D.length (ints c)] = flatC rowC (acc ++ [c]) := by rw [flatC_append, flatC_one]; simp [rowC, hl]
      have hfl' : (flatC rowC (acc ++ [c])).length = acc.length + 1 := by simpa using flatC_len (k := 1) (rowC_len (acc ++ [c]))
      have en : (D.length == 0) = false := by rw [beq_eq_false_iff_ne]; omega
      simp [List.append_assoc] at hg
      simp [h4, hl, htk, hD.closed, hN.closed, hcon, hD.deep m.h 4, hN.deep m.h 4, AV.flat, AV.flat1, hq, h0, e0, e4, hfl, en, hw, show D.length ≤ 4611686018427387904 by omega, show D.length * 8 ≤ 70368744177664 by omega, show acc.length ≤ 4611686018427387903 by omega, show (acc.length + 1) * 24 ≤ 70368744177664 by omega, hr, hfl', hg]
    · have hq' : conR N c = false := by simpa using hq
      have hg := go acc m h0 h4 hnx (by omega)
      simp at hg
      simp [h4, hl, htk, hD.closed, hN.closed, hcon, hD.deep m.h 4, hN.deep m.h 4, AV.flat, AV.flat1, hq', hw, hg]
theorem tuplesL_len : ∀ (D : List Int), (∀ d ∈ D, d ≤ 6) → (tuplesL D).length ≤ 7 ^ D.length
  | [], _ => by simp [tuplesL]
  | d :: D, h => by
    have ih := tuplesL_len D (fun x hx => h x (by simp [hx]))
    have go : ∀ (l : List Nat), (l.flatMap fun (i : Nat) => (tuplesL D).map (List.cons (i : Int))).length ≤ l.length * 7 ^ D.length := by
      intro l
      induction l with
      | nil => simp
      | cons a l ihl => rw [List.flatMap_cons, List.length_append, List.length_cons, Nat.succ_mul, List.length_map]; omega
    have h1 := go (List.range (d.toNat + 1))
    simp only [List.length_range] at h1
    have h2 : (d.toNat + 1) * 7 ^ D.length ≤ 7 * 7 ^ D.length := Nat.mul_le_mul_right _ (by have := h d (by simp); omega)
    rw [List.length_cons, Nat.pow_succ, Nat.mul_comm]
    simp only [tuplesL]
    omega
theorem Lims.all {D : List Int} {N : List Note} (L : Lims D N) : ∀ d ∈ D, 0 ≤ d ∧ d ≤ 6 := by
  intro d hd
  obtain ⟨i, hi, rfl⟩ := List.mem_iff_getElem.1 hd
  rw [nth_get hi]; exact ⟨L.lo i, L.hi i⟩
def cutsL (D : List Int) (N : List Note) : List (List Int) := (tuplesL D).filter (conR N)
theorem cutsR_spec {v : AV} {D : List Int} {N : List Note} (hs : IsTale v D N) (L : Lims D N) (m : Mem) :
    denC prog ann 20 [v] m = some (.fsl false (cutsL D N).length (flatC rowC (cutsL D N)), m) := by
  obtain ⟨vD, vN, rfl, hD, hN⟩ := hs.ex
  have hz : ∀ i, nth (List.replicate D.length 0) i = 0 := fun i => by
    simp only [nth, List.getD, List.getElem?_replicate]
    split <;> rfl
  have hlen : (tuplesL D).length ≤ 1000000 := by
    have h1 := tuplesL_len D (fun d hd => (L.all d hd).2)
    have h2 : 7 ^ D.length ≤ 7 ^ 4 := Nat.pow_le_pow_right (by omega) L.n4
    omega
  have hfz := fromL_zero D (fun d hd => (L.all d hd).1)
  have := cuts_loop hD hN L _ (List.replicate D.length 0) [] ⟨upd (upd Mem.empty.h 0 (some (.cells []))) 4 (some (.cells (List.replicate D.length (.int .i64 0)))), 7⟩ (Nat.le_refl _)
    ⟨by simp, fun i => by rw [hz]; omega, fun i => by rw [hz]; exact L.lo i⟩ (by simp) (by simp [ints]) (by simp) (by rw [hfz]; simpa using hlen)
  rw [r09_Cuts.call_eq _ _ (by simp [hD.closed, hN.closed])]
  rw [hfz] at this
  simp at this
  have hn4 := L.n4
  have h7 : (D.length : Int).toNat = D.length := by simp
  have hone : oneL (List.replicate D.length (AV.int .i64 0)) = true := by
    have := ints_oneL (List.replicate D.length 0)
    simpa [ints] using this
  simp [hD.one, hN.one, hD.closed, hN.closed, hD.len, this, hone, show D.length ≤ 4611686018427387904 by omega, show D.length * 8 ≤ 70368744177664 by omega, cutsL]
end Go.Proofs.Ytdkmepjedjclkaa

/-
  WHAT THE REFERENCE's Valid COMPUTES: within the limits, and all deeds can be done one by one. Conditions: none.
-/
namespace Go.Proofs.Ytdkmepjedjclkaa
open Go.AM
open Go.Proofs.Try (prog)
set_option linter.all false
set_option maxRecDepth 10000
def Step (D : List Int) (N : List Note) (done : List Int) (h : Nat) : Prop := h < D.length ∧ nth done h < nth D h ∧ readyL N done h = true
inductive Reach (D : List Int) (N : List Note) : List Int → Prop where
  | zero : Reach D N (List.replicate D.length 0)
  | step {done : List Int} {h : Nat} : Reach D N done → Step D N done h → Reach D N (done.set h (nth done h + 1))
theorem Reach.box {D : List Int} {N : List Note} (lo : ∀ i, 0 ≤ nth D i) {done : List Int} (r : Reach D N done) : InBox D done := by
  induction r with
  | zero =>
    have hz : ∀ i, nth (List.replicate D.length 0) i = 0 := fun i => by
      simp only [nth, List.getD, List.getElem?_replicate]; split <;> rfl
    exact ⟨by simp, fun i => by rw [hz]; omega, fun i => by rw [hz]; exact lo i⟩
  | @step done h r s ih =>
    obtain ⟨s1, s2, _⟩ := s
    have hl := ih.len
    refine ⟨by simp [hl], fun i => ?_, fun i => ?_⟩
    · by_cases e : h = i
      · subst e
        have : nth (done.set h (nth done h + 1)) h = nth done h + 1 := by simp [nth, List.getD, List.getElem?_set, show h < done.length by omega]
        have := ih.lo h; omega
      · have : nth (done.set h (nth done h + 1)) i = nth done i := by simp [nth, List.getD, List.getElem?_set, e]
        have := ih.lo i; omega
    · by_cases e : h = i
      · subst e
        have : nth (done.set h (nth done h + 1)) h = nth done h + 1 := by simp [nth, List.getD, List.getElem?_set, show h < done.length by omega]
        omega
      · have : nth (done.set h (nth done h + 1)) i = nth done i := by simp [nth, List.getD, List.getElem?_set, e]
        have := ih.hi i; omega
def Stuck (D : List Int) (N : List Note) (done : List Int) : Prop := ∀ h, ¬ Step D N done h
theorem stuck_most {D : List Int} {N : List Note} {done x : List Int} (hd : done.length = D.length) (st : Stuck D N done) (r : Reach D N x) (lo : ∀ i, 0 ≤ nth D i) (hn : ∀ i, 0 ≤ nth done i) : ∀ i, nth x i ≤ nth done i := by
  induction r with
  | zero => intro i; have : nth (List.replicate D.length 0) i = 0 := by { simp only [nth, List.getD, List.getElem?_replicate]; split <;> rfl }; have := hn i; omega
  | @step x h r s ih =>
    obtain ⟨s1, s2, s3⟩ := s
    have hl := (Reach.box lo r).len
    intro i
    by_cases e : h = i
    · subst e
      have e1 : nth (x.set h (nth x h + 1)) h = nth x h + 1 := by simp [nth, List.getD, List.getElem?_set, show h < x.length by omega]
      rw [e1]
      have h1 := ih h
      rcases Int.lt_or_eq_of_le h1 with h2 | h2
      · omega
      · exfalso
        refine st h ⟨s1, by omega, ?_⟩
        simp only [readyL, List.all_eq_true] at s3 ⊢
        intro y hy
        have := s3 y hy
        simp only [readyOk] at this ⊢
        rw [← h2]
        have h3 := ih y.f.toNat
        by_cases q1 : y.t = h <;> by_cases q2 : y.r = nth x h + 1 <;> simp [q1, q2] at this ⊢
        omega
    · have : nth (x.set h (nth x h + 1)) i = nth x i := by simp [nth, List.getD, List.getElem?_set, e]
      rw [this]; exact ih i
theorem ext_nth {a b : List Int} (hl : a.length = b.length) (h : ∀ i, nth a i = nth b i) : a = b := by
  refine List.ext_getElem hl fun i h1 h2 => ?_
  rw [nth_get h1, nth_get h2]; exact h i
structure NoteIn (D : List Int) (x : Note) : Prop where
  f0 : 0 ≤ x.f
  f1 : x.f < D.length
  t0 : 0 ≤ x.t
  t1 : x.t < D.length
  ne : x.f ≠ x.t
  s0 : 1 ≤ x.s
  s1 : x.s ≤ nth D x.f.toNat
  r0 : 1 ≤ x.r
  r1 : x.r ≤ nth D x.t.toNat
structure ValidS (D : List Int) (N : List Note) : Prop where
  n1 : 1 ≤ D.length
  n4 : D.length ≤ 4
  lo : ∀ i, 0 ≤ nth D i
  hi : ∀ i, nth D i ≤ 6
  N24 : N.length ≤ 24
  notes : ∀ x ∈ N, NoteIn D x
  all : Reach D N D
theorem ValidS.lims {D : List Int} {N : List Note} (v : ValidS D N) : Lims D N := ⟨v.n1, v.n4, v.lo, v.hi, v.N24, fun x hx => ⟨(v.notes x hx).f0, (v.notes x hx).f1, (v.notes x hx).t0, (v.notes x hx).t1⟩⟩
theorem sum_set : ∀ (l : List Int) (i : Nat) (a : Int), i < l.length → (l.set i a).sum = l.sum - nth l i + a
  | x :: l, 0, a, _ => by simp [nth_cons0]; omega
  | x :: l, i + 1, a, h => by
    have := sum_set l i a (by simpa using h)
    simp only [List.set_cons_succ, List.sum_cons, nth_cons1, this]; omega
theorem sum_le : ∀ (a b : List Int), a.length = b.length → (∀ i, nth a i ≤ nth b i) → a.sum ≤ b.sum
  | [], [], _, _ => by simp
  | x :: a, y :: b, hl, h => by
    have h0 := h 0
    have := sum_le a b (by simpa using hl) (fun i => by simpa [nth_cons1] using h (i + 1))
    simp only [nth_cons0] at h0
    simp only [List.sum_cons]; omega
theorem sweep_loop {vD vN : AV} {D : List Int} {N : List Note} (hD : IsInts vD D) (hN : IsSl noteC vN N) (L : Lims D N) {id : Nat} {done0 : List Int} : ∀ (k h : Nat) (done : List Int) (mv : Bool) (m : Mem), h + k = D.length → Reach D N done →
    m.h id = some (.cells (ints done)) → ((mv = false ∧ done = done0 ∧ ∀ g, g < h → ¬ Step D N done0 g) ∨ (mv = true ∧ done0.sum < done.sum)) →
    ∃ done' mv' m', r09_Valid.L6 (.fptr [vD, vN]) (.sl id 1 0 D.length D.length) (.bool mv) (.int .i64 h) m [.inBlock 5, .inLoop r09_Valid.l4, .inBlock 4, .code r09_Valid.r24, .code .ret] =
        r09_Valid.L4 (.fptr [vD, vN]) (.sl id 1 0 D.length D.length) (.bool mv') m' [.code r09_Valid.r24, .code .ret] ∧ Reach D N done' ∧ m'.h id = some (.cells (ints done')) ∧
        ((mv' = false ∧ done' = done0 ∧ Stuck D N done0) ∨ (mv' = true ∧ done0.sum < done'.sum)) := by
  intro k
  induction k with
  | zero =>
    intro h done mv m hk hr hm hp
    have e : h = D.length := by omega
    subst e
    refine ⟨done, mv, m, ?_, hr, hm, hp.imp (fun ⟨a, b, c⟩ => ⟨a, b, fun g hg => c g hg.1 hg⟩) (fun h => h)⟩
    rw [r09_Valid.L6_eq]
    simp
  | succ k ih =>
    intro h done mv m hk hr hm hp
    have hh : h < D.length := by omega
    have hb := hr.box L.lo
    have hl := hb.len
    have b1 := hb.lo h; have b2 := hb.hi h; have b3 := L.hi h
    have hn4 := L.n4
    have htale : IsTale (.agg [vD, vN]) D N := ⟨vD, vN, rfl, hD, hN⟩
    have hrd := ready_spec htale (vd := .fsl false D.length (ints done)) (done := done) (.inr ⟨false, by rw [hl]⟩) (by have := L.N24; omega) (h := h) (by omega) (by omega) b1 (fun x hx => by rw [hl]; exact L.notes x hx) Mem.empty
    have hw : IntKind.wrap .i64 ((h : Int) + 1) = (h : Int) + 1 := wrap_id (by omega) (by omega)
    have hw2 : IntKind.wrap .i64 (nth done h + 1) = nth done h + 1 := wrap_id (by omega) (by omega)
    have htk : (ints done).take D.length = ints done := List.take_of_length_le (by simp; omega)
    rw [r09_Valid.L6_eq]
    by_cases q1 : nth done h < nth D h
    · by_cases q2 : readyL N done h = true
      · -- done
        have st : Step D N done h := ⟨hh, q1, q2⟩
        have := ih (h + 1) (done.set h (nth done h + 1)) true ⟨upd m.h id (some (.cells (ints (done.set h (nth done h + 1))))), m.nx + 16⟩ (by omega) (hr.step st) (by simp) (.inr ⟨rfl, by
          rw [sum_set _ _ _ (by omega)]
          rcases hp with ⟨_, e, _⟩ | ⟨_, e⟩
          · subst e; omega
          · omega⟩)
        obtain ⟨done', mv', m', e, r⟩ := this
        refine ⟨done', mv', m', ?_, r⟩
        rw [← e]
        simp [hh, hm, hl, hD.idx hh, ints_head hh, q1, hD.closed, hN.closed, hD.deep m.h 4, hN.deep m.h 4, htk, hrd, AV.flat, AV.flat1, q2, hw, hw2]
      · have q2' : readyL N done h = false := by simpa using q2
        have := ih (h + 1) done mv ⟨m.h, m.nx + 16⟩ (by omega) hr (by simpa using hm) (by
          rcases hp with ⟨a, b, c⟩ | hp
          · refine .inl ⟨a, b, fun g hg => ?_⟩
            by_cases e : g = h
            · subst e; subst b; intro st; rw [st.2.2] at q2'; cases q2'
            · exact c g (by omega)
          · exact .inr hp)
        obtain ⟨done', mv', m', e, r⟩ := this
        refine ⟨done', mv', m', ?_, r⟩
        rw [← e]
        simp [hh, hm, hl, hD.idx hh, ints_head hh, q1, hD.closed, hN.closed, hD.deep m.h 4, hN.deep m.h 4, htk, hrd, AV.flat, AV.flat1, q2', hw, hw2]
    · have := ih (h + 1) done mv ⟨m.h, m.nx + 16⟩ (by omega) hr (by simpa using hm) (by
          rcases hp with ⟨a, b, c⟩ | hp
          · refine .inl ⟨a, b, fun g hg => ?_⟩
            by_cases e : g = h
            · subst e; subst b; intro st; exact q1 st.2.1
            · exact c g (by omega)
          · exact .inr hp)
      obtain ⟨done', mv', m', e, r⟩ := this
      refine ⟨done', mv', m', ?_, r⟩
      rw [← e]
      simp [hh, hm, hl, hD.idx hh, ints_head hh, q1, hw]
theorem sim_loop {vD vN : AV} {D : List Int} {N : List Note} (hD : IsInts vD D) (hN : IsSl noteC vN N) (L : Lims D N) {id : Nat} : ∀ (n : Nat) (done : List Int) (mv : Bool) (m : Mem), (D.sum - done.sum).toNat ≤ n → Reach D N done →
    m.h id = some (.cells (ints done)) → (mv = false → Stuck D N done) →
    ∃ fin, Reach D N fin ∧ Stuck D N fin ∧ r09_Valid.L4 (.fptr [vD, vN]) (.sl id 1 0 D.length D.length) (.bool mv) m [.code r09_Valid.r24, .code .ret] = some (.bool (decide (fin = D)), Mem.empty) := by
  have last : ∀ (done : List Int) (m : Mem), Reach D N done → m.h id = some (.cells (ints done)) → r09_Valid.L4 (.fptr [vD, vN]) (.sl id 1 0 D.length D.length) (.bool false) m [.code r09_Valid.r24, .code .ret] = some (.bool (decide (done = D)), Mem.empty) := by
    intro done m hr hm
    have hl := (hr.box L.lo).len
    have hn4 := L.n4
    have htk : (ints done).take D.length = ints done := List.take_of_length_le (by simp; omega)
    have hs := same_spec (va := .fsl false D.length (ints done)) (a := done) (.inr ⟨false, by rw [hl]⟩) hD (by omega) (by omega) Mem.empty
    rw [r09_Valid.L4_eq]
    simp [hm, hl, htk, hD.deep m.h 5, hs, AV.flat, AV.flat1]
  have sweep : ∀ (done : List Int) (m : Mem), Reach D N done → m.h id = some (.cells (ints done)) → ∃ done' mv' m', r09_Valid.L4 (.fptr [vD, vN]) (.sl id 1 0 D.length D.length) (.bool true) m [.code r09_Valid.r24, .code .ret] =
        r09_Valid.L4 (.fptr [vD, vN]) (.sl id 1 0 D.length D.length) (.bool mv') m' [.code r09_Valid.r24, .code .ret] ∧ Reach D N done' ∧ m'.h id = some (.cells (ints done')) ∧
        ((mv' = false ∧ done' = done ∧ Stuck D N done) ∨ (mv' = true ∧ done.sum < done'.sum)) := by
    intro done m hr hm
    obtain ⟨done', mv', m', e, r⟩ := sweep_loop hD hN L (id := id) (done0 := done) D.length 0 done false m (by omega) hr hm (.inl ⟨rfl, rfl, fun g hg => by omega⟩)
    refine ⟨done', mv', m', ?_, r⟩
    rw [← e, r09_Valid.L4_eq]
    simp
  intro n
  induction n with
  | zero =>
    intro done mv m hn hr hm hst
    cases mv with
    | false => exact ⟨done, hr, hst rfl, last done m hr hm⟩
    | true =>
      obtain ⟨done', mv', m', e, r1, r2, r3⟩ := sweep done m hr hm
      rcases r3 with ⟨rfl, rfl, h3⟩ | ⟨rfl, h3⟩
      · exact ⟨_, r1, h3, by rw [e]; exact last _ m' r1 r2⟩
      · exfalso
        have hb := r1.box L.lo
        have := sum_le done' D hb.len hb.hi
        omega
  | succ n ih =>
    intro done mv m hn hr hm hst
    cases mv with
    | false => exact ⟨done, hr, hst rfl, last done m hr hm⟩
    | true =>
      obtain ⟨done', mv', m', e, r1, r2, r3⟩ := sweep done m hr hm
      rcases r3 with ⟨rfl, rfl, h3⟩ | ⟨rfl, h3⟩
      · exact ⟨_, r1, h3, by rw [e]; exact last _ m' r1 r2⟩
      · obtain ⟨fin, f1, f2, f3⟩ := ih done' true m' (by omega) r1 r2 (fun h => by cases h)
        exact ⟨fin, f1, f2, by rw [e]; exact f3⟩
end Go.Proofs.Ytdkmepjedjclkaa
