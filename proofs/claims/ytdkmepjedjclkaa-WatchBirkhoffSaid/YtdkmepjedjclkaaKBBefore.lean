/-
  BODIES OF FUNCTIONS OF THE PROGRAM AS SMALL OPERATIONS (written by gen.py; checked by the kernel against the program). Conditions: none.
-/
import Derived.Test.YtdkmepjedjclkaaKAmH
set_option linter.all false
namespace Go.Proofs.Ytdkmepjedjclkaa
open Go.AM
open Go.Proofs.Try (prog)
set_option maxRecDepth 100000
set_option linter.all false




namespace watch_Clocks
/-- pommel/watch.Clocks -/
noncomputable def b : Code := (Try.f43.body).getD .skip
theorem hf : prog.funcs[43]? = some Try.f43 := by kernel_rfl
noncomputable def r0 : Code := findReg b 0
noncomputable def r1 : Code := findReg b 1
noncomputable def r2 : Code := findReg b 2
noncomputable def i0 : Code := findCond b 0
noncomputable def i0t : Code := thenOf i0
noncomputable def i0e : Code := elseOf i0
noncomputable def r3 : Code := findReg b 3
noncomputable def r4 : Code := findReg b 4
noncomputable def r5 : Code := findReg b 5
noncomputable def k0 : Code := findBlk b 0
noncomputable def l0 : Code := loopOf k0
noncomputable def L0 (x4 x6 x25 x26 : AV) (m : Mem) (K : List Item) : Option Res := den prog ann 43 (.code l0 :: .inLoop l0 :: .inBlock 0 :: K) ⟨[(4, x4), (6, x6), (25, x25), (26, x26)], 55, m⟩
noncomputable def r6 : Code := findReg b 6
noncomputable def i1 : Code := findCond b 1
noncomputable def i1t : Code := thenOf i1
noncomputable def i1e : Code := elseOf i1
noncomputable def k1 : Code := findBlk b 1
noncomputable def r7 : Code := findReg b 7
noncomputable def r8 : Code := findReg b 8
noncomputable def k2 : Code := findBlk b 2
noncomputable def l2 : Code := loopOf k2
noncomputable def L2 (x4 x6 x7 x25 x26 x34 x35 x36 : AV) (m : Mem) (K : List Item) : Option Res := den prog ann 43 (.code l2 :: .inLoop l2 :: .inBlock 2 :: K) ⟨[(4, x4), (6, x6), (7, x7), (25, x25), (26, x26), (34, x34), (35, x35), (36, x36)], 55, m⟩
noncomputable def r9 : Code := findReg b 9
noncomputable def i2 : Code := findCond b 2
noncomputable def i2t : Code := thenOf i2
noncomputable def i2e : Code := elseOf i2
noncomputable def k3 : Code := findBlk b 3
noncomputable def r10 : Code := findReg b 10
noncomputable def r11 : Code := findReg b 11
noncomputable def r12 : Code := findReg b 12
noncomputable def r13 : Code := findReg b 13
noncomputable def r14 : Code := findReg b 14
theorem b_eq (K : List Item) (s : St) : den prog ann 43 (.code b :: K) s = den prog ann 43 (.code r0 :: .code r1 :: .code r2 :: .code i0 :: .code r4 :: .code r5 :: .code k0 :: .code r14 :: .code .ret :: K) s := den_flat hf (l := [r0, r1, r2, i0, r4, r5, k0, r14, .ret]) (by kernel_rfl) K s
theorem r0_eq (K : List Item) (s : St) : den prog ann 43 (.code r0 :: K) s = mreg prog ann 43 none [] none [] [
    ⟨some 1, none, .v fun s => frozenPtr (s.get 0)⟩,
    ⟨some 2, none, .v fun s => some (.nils)⟩,
    ⟨some 3, none, .v fun s => some (.int .i64 0)⟩] K s := (den_reg hf _ K s).trans (by kernel_rfl)
theorem r1_eq (K : List Item) (s : St) : den prog ann 43 (.code r1 :: K) s = mreg prog ann 43 none [] none [] [
    ⟨some 11, none, .v fun s => loadF true 2 (s.get 1)⟩,
    ⟨some 12, none, .c 0 (fun s => (.fn 61 [] [])) fun s => [(s.get 11)]⟩,
    ⟨some 10, none, .v fun s => some (s.get 12)⟩,
    ⟨some 13, none, .v fun s => extA (s.get 10) 0⟩,
    ⟨some 14, none, .v fun s => extA (s.get 10) 1⟩,
    ⟨some 4, none, .v fun s => some (s.get 13)⟩,
    ⟨some 5, none, .v fun s => some (s.get 14)⟩] K s := (den_reg hf _ K s).trans (by kernel_rfl)
theorem r2_eq (K : List Item) (s : St) : den prog ann 43 (.code r2 :: K) s = mreg prog ann 43 none [] none [] [
    ⟨some 15, none, .v fun s => some (s.get 5)⟩,
    ⟨some 16, none, .v fun s => unA .not (s.get 15)⟩] K s := (den_reg hf _ K s).trans (by kernel_rfl)
theorem i0_eq (K : List Item) (s : St) : den prog ann 43 (.code i0 :: K) s = ifV prog ann 43 16 i0t i0e K s (s.get 16) := den_if hf (by kernel_rfl) K s
theorem i0t_eq (K : List Item) (s : St) : den prog ann 43 (.code i0t :: K) s = den prog ann 43 (.code r3 :: .code .ret :: K) s := den_flat hf (l := [r3, .ret]) (by kernel_rfl) K s
theorem r3_eq (K : List Item) (s : St) : den prog ann 43 (.code r3 :: K) s = mreg prog ann 43 none [] none [] [
    ⟨some 2, none, .v fun s => some (.nils)⟩,
    ⟨some 3, none, .v fun s => some (.int .i64 1)⟩] K s := (den_reg hf _ K s).trans (by kernel_rfl)
theorem i0e_eq (K : List Item) (s : St) : den prog ann 43 (.code i0e :: K) s = den prog ann 43 (K) s := den_flat hf (l := []) (by kernel_rfl) K s
theorem r4_eq (K : List Item) (s : St) : den prog ann 43 (.code r4 :: K) s = mreg prog ann 43 none [] none [] [
    ⟨some 17, none, .v fun s => some (s.get 4)⟩,
    ⟨some 18, none, .v fun s => nilA (s.get 17)⟩,
    ⟨some 19, none, .v fun s => fieldA 0 (s.get 18)⟩,
    ⟨some 20, none, .v fun s => loadF false 1 (s.get 19)⟩,
    ⟨some 21, none, .w false none fun s => makeA 1 24 (.nils) s.m (s.get 20) (s.get 20)⟩,
    ⟨some 6, none, .v fun s => some (s.get 21)⟩] K s := (den_reg hf _ K s).trans (by kernel_rfl)
theorem r5_eq (K : List Item) (s : St) : den prog ann 43 (.code r5 :: K) s = mreg prog ann 43 none [] none [] [
    ⟨some 22, none, .v fun s => some (s.get 4)⟩,
    ⟨some 23, none, .v fun s => nilA (s.get 22)⟩,
    ⟨some 24, none, .v fun s => fieldA 0 (s.get 23)⟩,
    ⟨some 25, none, .v fun s => loadF false 1 (s.get 24)⟩,
    ⟨some 26, none, .v fun s => some (.int .i64 0)⟩] K s := (den_reg hf _ K s).trans (by kernel_rfl)
theorem k0_eq (K : List Item) (t : List (Nat × AV)) (m : Mem) : den prog ann 43 (.code k0 :: K) ⟨t, 55, m⟩ = L0 (get t 4) (get t 6) (get t 25) (get t 26) m K := den_loop_enter hf (b := l0) (id := 6) (l := [4, 6, 25, 26]) (by kernel_rfl) (by kernel_rfl) (by kernel_rfl) K _
theorem l0_eq (K : List Item) (t : List (Nat × AV)) (m : Mem) : den prog ann 43 (.inLoop l0 :: .inBlock 0 :: K) ⟨t, 55, m⟩ = L0 (get t 4) (get t 6) (get t 25) (get t 26) m K := den_loop_again hf (id := 6) (l := [4, 6, 25, 26]) (by kernel_rfl) (by kernel_rfl) (.inBlock 0 :: K) _
theorem L0_eq (x4 x6 x25 x26 : AV) (m : Mem) (K : List Item) : L0 x4 x6 x25 x26 m K = den prog ann 43 (.code r6 :: .code i1 :: .code k1 :: .code r13 :: .inLoop l0 :: .inBlock 0 :: K) ⟨[(4, x4), (6, x6), (25, x25), (26, x26)], 55, m⟩ := den_flat hf (l := [r6, i1, k1, r13]) (by kernel_rfl) _ _
theorem r6_eq (K : List Item) (s : St) : den prog ann 43 (.code r6 :: K) s = mreg prog ann 43 (some [4, 6, 25, 26]) [] none [] [
    ⟨some 27, none, .v fun s => binA prog .lss 3 (s.get 26) (s.get 25)⟩] K s := (den_reg hf _ K s).trans (by kernel_rfl)
theorem i1_eq (K : List Item) (s : St) : den prog ann 43 (.code i1 :: K) s = ifV prog ann 43 27 i1t i1e K s (s.get 27) := den_if hf (by kernel_rfl) K s
theorem i1t_eq (K : List Item) (s : St) : den prog ann 43 (.code i1t :: K) s = den prog ann 43 (K) s := den_flat hf (l := []) (by kernel_rfl) K s
theorem i1e_eq (K : List Item) (s : St) : den prog ann 43 (.code i1e :: K) s = den prog ann 43 (.code (.exit 0) :: K) s := den_flat hf (l := [(.exit 0)]) (by kernel_rfl) K s
theorem k1_eq (K : List Item) (s : St) : den prog ann 43 (.code k1 :: K) s = den prog ann 43 (.code r7 :: .code r8 :: .code k2 :: .inBlock 1 :: K) s := den_blk hf (b := blkOf k1) (l := [r7, r8, k2]) (by kernel_rfl) (by kernel_rfl) K s
theorem r7_eq (K : List Item) (s : St) : den prog ann 43 (.code r7 :: K) s = mreg prog ann 43 none [] none [] [
    ⟨some 28, none, .v fun s => some (s.get 26)⟩,
    ⟨some 7, none, .v fun s => some (s.get 28)⟩] K s := (den_reg hf _ K s).trans (by kernel_rfl)
theorem r8_eq (K : List Item) (s : St) : den prog ann 43 (.code r8 :: K) s = mreg prog ann 43 none [] none [] [
    ⟨some 29, none, .v fun s => some (s.get 4)⟩,
    ⟨some 30, none, .v fun s => some (s.get 7)⟩,
    ⟨some 31, none, .v fun s => nilA (s.get 29)⟩,
    ⟨some 32, none, .v fun s => fieldA 5 (s.get 31)⟩,
    ⟨some 33, none, .v fun s => idxArr 4 1 (s.get 32) (s.get 30)⟩,
    ⟨some 34, none, .v fun s => loadF false 1 (s.get 33)⟩,
    ⟨some 35, none, .v fun s => lenSl (s.get 34)⟩,
    ⟨some 36, none, .v fun s => some (.int .i64 0)⟩] K s := (den_reg hf _ K s).trans (by kernel_rfl)
theorem k2_eq (K : List Item) (t : List (Nat × AV)) (m : Mem) : den prog ann 43 (.code k2 :: K) ⟨t, 55, m⟩ = L2 (get t 4) (get t 6) (get t 7) (get t 25) (get t 26) (get t 34) (get t 35) (get t 36) m K := den_loop_enter hf (b := l2) (id := 9) (l := [4, 6, 7, 25, 26, 34, 35, 36]) (by kernel_rfl) (by kernel_rfl) (by kernel_rfl) K _
theorem l2_eq (K : List Item) (t : List (Nat × AV)) (m : Mem) : den prog ann 43 (.inLoop l2 :: .inBlock 2 :: K) ⟨t, 55, m⟩ = L2 (get t 4) (get t 6) (get t 7) (get t 25) (get t 26) (get t 34) (get t 35) (get t 36) m K := den_loop_again hf (id := 9) (l := [4, 6, 7, 25, 26, 34, 35, 36]) (by kernel_rfl) (by kernel_rfl) (.inBlock 2 :: K) _
theorem L2_eq (x4 x6 x7 x25 x26 x34 x35 x36 : AV) (m : Mem) (K : List Item) : L2 x4 x6 x7 x25 x26 x34 x35 x36 m K = den prog ann 43 (.code r9 :: .code i2 :: .code k3 :: .code r12 :: .inLoop l2 :: .inBlock 2 :: K) ⟨[(4, x4), (6, x6), (7, x7), (25, x25), (26, x26), (34, x34), (35, x35), (36, x36)], 55, m⟩ := den_flat hf (l := [r9, i2, k3, r12]) (by kernel_rfl) _ _
theorem r9_eq (K : List Item) (s : St) : den prog ann 43 (.code r9 :: K) s = mreg prog ann 43 (some [4, 6, 7, 25, 26, 34, 35, 36]) [] none [] [
    ⟨some 37, none, .v fun s => binA prog .lss 3 (s.get 36) (s.get 35)⟩] K s := (den_reg hf _ K s).trans (by kernel_rfl)
theorem i2_eq (K : List Item) (s : St) : den prog ann 43 (.code i2 :: K) s = ifV prog ann 43 37 i2t i2e K s (s.get 37) := den_if hf (by kernel_rfl) K s
theorem i2t_eq (K : List Item) (s : St) : den prog ann 43 (.code i2t :: K) s = den prog ann 43 (K) s := den_flat hf (l := []) (by kernel_rfl) K s
theorem i2e_eq (K : List Item) (s : St) : den prog ann 43 (.code i2e :: K) s = den prog ann 43 (.code (.exit 2) :: K) s := den_flat hf (l := [(.exit 2)]) (by kernel_rfl) K s
theorem k3_eq (K : List Item) (s : St) : den prog ann 43 (.code k3 :: K) s = den prog ann 43 (.code r10 :: .code r11 :: .inBlock 3 :: K) s := den_blk hf (b := blkOf k3) (l := [r10, r11]) (by kernel_rfl) (by kernel_rfl) K s
theorem r10_eq (K : List Item) (s : St) : den prog ann 43 (.code r10 :: K) s = mreg prog ann 43 none [] none [9] [
    ⟨some 38, none, .v fun s => idxSl 4 (s.get 34) (s.get 36)⟩,
    ⟨some 39, none, .v fun s => loadF true 4 (s.get 38)⟩,
    ⟨some 9, none, .w false none fun s => newPtr s.m [.int .i64 0, .int .i64 0, .int .i64 0, .int .i64 0]⟩,
    ⟨none, none, .w false none fun s => stA true 4 s.m (s.get 9) (s.get 39)⟩] K s := (den_reg hf _ K s).trans (by kernel_rfl)
theorem r11_draw : drawOk (fun g => (ann g).pure) (modeOf (ann 43) (idOf r11)) (frzOf (ann 43) (idOf r11)) (opsOf r11) = true := drawOk_of (an := [0, 0, 0, 0, 12, 28, 0, 0, 192, 448, 1020, 2047, 4095]) (by kernel_rfl) (by kernel_rfl)
theorem r11_eq (K : List Item) (s : St) : den prog ann 43 (.code r11 :: K) s = mreg prog ann 43 none [] (some 13) [] [
    ⟨some 40, none, .v fun s => some (s.get 6)⟩,
    ⟨some 41, none, .v fun s => some (s.get 7)⟩,
    ⟨some 42, none, .v fun s => some (s.get 6)⟩,
    ⟨some 43, none, .v fun s => some (s.get 7)⟩,
    ⟨some 44, none, .v fun s => idxSl 1 (s.get 42) (s.get 43)⟩,
    ⟨some 45, none, .v fun s => loadA false 1 s.m (s.get 44)⟩,
    ⟨some 46, none, .v fun s => some (s.get 4)⟩,
    ⟨some 47, none, .v fun s => loadF true 4 (s.get 9)⟩,
    ⟨some 48, none, .c 0 (fun s => (.fn 63 [] [])) fun s => [(s.get 46), (s.get 47)]⟩,
    ⟨some 49, none, .v fun s => bslF 1 (bslA 1 1 [.nils] [(0, (s.get 48))])⟩,
    ⟨some 50, none, .w false (some 10) fun s => appendA 1 24 s.m (s.get 45) (s.get 49)⟩,
    ⟨some 51, none, .v fun s => idxSl 1 (s.get 40) (s.get 41)⟩,
    ⟨none, none, .w false (some 12) fun s => stA false 1 s.m (s.get 51) (s.get 50)⟩] K s := (den_regD hf r11_draw K s).trans (by kernel_rfl)
theorem r12_eq (K : List Item) (s : St) : den prog ann 43 (.code r12 :: K) s = mreg prog ann 43 (some [4, 6, 7, 25, 26, 34, 35, 36]) [] none [] [
    ⟨some 52, none, .v fun s => binA prog .add 3 (s.get 36) (.int .i64 1)⟩,
    ⟨some 36, none, .v fun s => some (s.get 52)⟩] K s := (den_reg hf _ K s).trans (by kernel_rfl)
theorem r13_eq (K : List Item) (s : St) : den prog ann 43 (.code r13 :: K) s = mreg prog ann 43 (some [4, 6, 25, 26]) [] none [] [
    ⟨some 53, none, .v fun s => binA prog .add 3 (s.get 26) (.int .i64 1)⟩,
    ⟨some 26, none, .v fun s => some (s.get 53)⟩] K s := (den_reg hf _ K s).trans (by kernel_rfl)
theorem r14_eq (K : List Item) (s : St) : den prog ann 43 (.code r14 :: K) s = mreg prog ann 43 (some [6]) [] none [] [
    ⟨some 54, none, .v fun s => some (s.get 6)⟩,
    ⟨some 2, none, .v fun s => some (s.get 54)⟩,
    ⟨some 3, none, .v fun s => some (.int .i64 0)⟩] K s := (den_reg hf _ K s).trans (by kernel_rfl)
theorem ret_eq (K : List Item) (s : St) : den prog ann 43 (.code .ret :: K) s = finM true [fun s => some (s.get 2), fun s => some (s.get 3)] s := (den_ret hf K s).trans (by kernel_rfl)
theorem nil_eq (s : St) : den prog ann 43 [] s = finM true [fun s => some (s.get 2), fun s => some (s.get 3)] s := (den_nil hf s).trans (by kernel_rfl)
theorem inBlock_eq (id : Nat) (K : List Item) (s : St) : den prog ann 43 (.inBlock id :: K) s = den prog ann 43 K s := den_inBlock hf id K s
theorem exit_eq (id : Nat) (K : List Item) (s : St) : den prog ann 43 (.code (.exit id) :: K) s = exitV prog ann 43 (exitTo id K) s := den_exitV hf id K s
theorem call_eq (v0 : AV) (m : Mem) (h : closedL [v0] = true) : denC prog ann 43 [v0] m = (den prog ann 43 [.code b] ⟨[(0, v0)], 55, Mem.empty⟩).bind fun r => some (r.1, m) := (denC_pure hf (b := b) (by kernel_rfl) (by kernel_rfl) (by kernel_rfl) h m).trans (by kernel_rfl)
theorem pure_eq : (ann 43).pure = true := by kernel_rfl
attribute [simp] b_eq r0_eq r1_eq r2_eq i0_eq i0t_eq r3_eq i0e_eq r4_eq r5_eq k0_eq l0_eq r6_eq i1_eq i1t_eq i1e_eq k1_eq r7_eq r8_eq k2_eq l2_eq r9_eq i2_eq i2t_eq i2e_eq k3_eq r10_eq r11_eq r12_eq r13_eq r14_eq ret_eq nil_eq inBlock_eq exit_eq pure_eq
end watch_Clocks

end Go.Proofs.Ytdkmepjedjclkaa
