/-
  BODIES OF FUNCTIONS OF THE PROGRAM AS SMALL OPERATIONS (written by gen.py; checked by the kernel against the program). Conditions: none.
-/
import Derived.Test.YtofceaeboboflaaDoorKAmH
set_option linter.all false
namespace Go.Proofs.YtofceaeboboflaaDoor
open Go.AM
open Go.Proofs.Tryd (prog)
set_option maxRecDepth 100000
set_option linter.all false

namespace r01_Before
/-- pommel/pommelref01.Before -/
noncomputable def b : Code := (Tryd.f24.body).getD .skip
theorem hf : prog.funcs[24]? = some Tryd.f24 := by kernel_rfl
noncomputable def r0 : Code := findReg b 0
noncomputable def r1 : Code := findReg b 1
noncomputable def k0 : Code := findBlk b 0
noncomputable def l0 : Code := loopOf k0
noncomputable def L0 (x0 x1 x5 : AV) (m : Mem) (K : List Item) : Option Res := den prog ann 24 (.code l0 :: .inLoop l0 :: .inBlock 0 :: K) ⟨[(0, x0), (1, x1), (5, x5)], 41, m⟩
noncomputable def r2 : Code := findReg b 2
noncomputable def i0 : Code := findCond b 0
noncomputable def i0t : Code := thenOf i0
noncomputable def i0e : Code := elseOf i0
noncomputable def k1 : Code := findBlk b 1
noncomputable def r4 : Code := findReg b 4
noncomputable def i1 : Code := findCond b 1
noncomputable def i1t : Code := thenOf i1
noncomputable def i1e : Code := elseOf i1
noncomputable def r5 : Code := findReg b 5
noncomputable def r3 : Code := findReg b 3
noncomputable def r6 : Code := findReg b 6
theorem b_eq (K : List Item) (s : St) : den prog ann 24 (.code b :: K) s = den prog ann 24 (.code r0 :: .code r1 :: .code k0 :: .code r6 :: .code .ret :: K) s := den_flat hf (l := [r0, r1, k0, r6, .ret]) (by kernel_rfl) K s
theorem r0_eq (K : List Item) (s : St) : den prog ann 24 (.code r0 :: K) s = mreg prog ann 24 none [] none [] [
    ⟨some 4, none, .v fun s => some (.bool false)⟩] K s := (den_reg hf _ K s).trans (by kernel_rfl)
theorem r1_eq (K : List Item) (s : St) : den prog ann 24 (.code r1 :: K) s = mreg prog ann 24 none [] none [] [
    ⟨some 5, none, .v fun s => some (.int .i64 0)⟩] K s := (den_reg hf _ K s).trans (by kernel_rfl)
theorem k0_eq (K : List Item) (t : List (Nat × AV)) (m : Mem) : den prog ann 24 (.code k0 :: K) ⟨t, 41, m⟩ = L0 (get t 0) (get t 1) (get t 5) m K := den_loop_enter hf (b := l0) (id := 2) (l := [0, 1, 5]) (by kernel_rfl) (by kernel_rfl) (by kernel_rfl) K _
theorem l0_eq (K : List Item) (t : List (Nat × AV)) (m : Mem) : den prog ann 24 (.inLoop l0 :: .inBlock 0 :: K) ⟨t, 41, m⟩ = L0 (get t 0) (get t 1) (get t 5) m K := den_loop_again hf (id := 2) (l := [0, 1, 5]) (by kernel_rfl) (by kernel_rfl) (.inBlock 0 :: K) _
theorem L0_eq (x0 x1 x5 : AV) (m : Mem) (K : List Item) : L0 x0 x1 x5 m K = den prog ann 24 (.code r2 :: .code i0 :: .code k1 :: .code r3 :: .inLoop l0 :: .inBlock 0 :: K) ⟨[(0, x0), (1, x1), (5, x5)], 41, m⟩ := den_flat hf (l := [r2, i0, k1, r3]) (by kernel_rfl) _ _
theorem r2_eq (K : List Item) (s : St) : den prog ann 24 (.code r2 :: K) s = mreg prog ann 24 (some [0, 1, 5]) [] none [] [
    ⟨some 6, none, .v fun s => some (s.get 5)⟩,
    ⟨some 7, none, .v fun s => some (s.get 0)⟩,
    ⟨some 8, none, .v fun s => lenSl (s.get 7)⟩,
    ⟨some 9, none, .v fun s => binA prog .lss 3 (s.get 6) (s.get 8)⟩,
    ⟨some 10, none, .v fun s => some (s.get 9)⟩,
    ⟨some 11, some (10, true), .v fun s => some (s.get 5)⟩,
    ⟨some 12, some (10, true), .v fun s => some (s.get 1)⟩,
    ⟨some 13, some (10, true), .v fun s => lenSl (s.get 12)⟩,
    ⟨some 14, some (10, true), .v fun s => binA prog .lss 3 (s.get 11) (s.get 13)⟩,
    ⟨some 15, none, .v fun s => pickA (s.get 10) (s.get 14) (.bool false)⟩] K s := (den_reg hf _ K s).trans (by kernel_rfl)
theorem i0_eq (K : List Item) (s : St) : den prog ann 24 (.code i0 :: K) s = ifV prog ann 24 15 i0t i0e K s (s.get 15) := den_if hf (by kernel_rfl) K s
theorem i0t_eq (K : List Item) (s : St) : den prog ann 24 (.code i0t :: K) s = den prog ann 24 (K) s := den_flat hf (l := []) (by kernel_rfl) K s
theorem i0e_eq (K : List Item) (s : St) : den prog ann 24 (.code i0e :: K) s = den prog ann 24 (.code (.exit 0) :: K) s := den_flat hf (l := [(.exit 0)]) (by kernel_rfl) K s
theorem k1_eq (K : List Item) (s : St) : den prog ann 24 (.code k1 :: K) s = den prog ann 24 (.code r4 :: .code i1 :: .inBlock 1 :: K) s := den_blk hf (b := blkOf k1) (l := [r4, i1]) (by kernel_rfl) (by kernel_rfl) K s
theorem r4_draw : drawOk (fun g => (ann g).pure) (modeOf (ann 24) (idOf r4)) (frzOf (ann 24) (idOf r4)) (opsOf r4) = true := drawOk_of (an := [0, 0, 3, 7, 0, 0, 48, 112, 255]) (by kernel_rfl) (by kernel_rfl)
theorem r4_eq (K : List Item) (s : St) : den prog ann 24 (.code r4 :: K) s = mreg prog ann 24 none [] (some 9) [] [
    ⟨some 18, none, .v fun s => some (s.get 0)⟩,
    ⟨some 19, none, .v fun s => some (s.get 5)⟩,
    ⟨some 20, none, .v fun s => idxSl 1 (s.get 18) (s.get 19)⟩,
    ⟨some 21, none, .v fun s => loadF false 1 (s.get 20)⟩,
    ⟨some 22, none, .v fun s => some (s.get 1)⟩,
    ⟨some 23, none, .v fun s => some (s.get 5)⟩,
    ⟨some 24, none, .v fun s => idxSl 1 (s.get 22) (s.get 23)⟩,
    ⟨some 25, none, .v fun s => loadF false 1 (s.get 24)⟩,
    ⟨some 26, none, .v fun s => binA prog .neq 3 (s.get 21) (s.get 25)⟩] K s := (den_regD hf r4_draw K s).trans (by kernel_rfl)
theorem i1_eq (K : List Item) (s : St) : den prog ann 24 (.code i1 :: K) s = ifV prog ann 24 26 i1t i1e K s (s.get 26) := den_if hf (by kernel_rfl) K s
theorem i1t_eq (K : List Item) (s : St) : den prog ann 24 (.code i1t :: K) s = den prog ann 24 (.code r5 :: .code .ret :: K) s := den_flat hf (l := [r5, .ret]) (by kernel_rfl) K s
theorem r5_draw : drawOk (fun g => (ann g).pure) (modeOf (ann 24) (idOf r5)) (frzOf (ann 24) (idOf r5)) (opsOf r5) = true := drawOk_of (an := [0, 0, 3, 7, 0, 0, 48, 112, 255, 511]) (by kernel_rfl) (by kernel_rfl)
theorem r5_eq (K : List Item) (s : St) : den prog ann 24 (.code r5 :: K) s = mreg prog ann 24 none [] (some 10) [] [
    ⟨some 27, none, .v fun s => some (s.get 0)⟩,
    ⟨some 28, none, .v fun s => some (s.get 5)⟩,
    ⟨some 29, none, .v fun s => idxSl 1 (s.get 27) (s.get 28)⟩,
    ⟨some 30, none, .v fun s => loadF false 1 (s.get 29)⟩,
    ⟨some 31, none, .v fun s => some (s.get 1)⟩,
    ⟨some 32, none, .v fun s => some (s.get 5)⟩,
    ⟨some 33, none, .v fun s => idxSl 1 (s.get 31) (s.get 32)⟩,
    ⟨some 34, none, .v fun s => loadF false 1 (s.get 33)⟩,
    ⟨some 35, none, .v fun s => binA prog .lss 3 (s.get 30) (s.get 34)⟩,
    ⟨some 4, none, .v fun s => some (s.get 35)⟩] K s := (den_regD hf r5_draw K s).trans (by kernel_rfl)
theorem i1e_eq (K : List Item) (s : St) : den prog ann 24 (.code i1e :: K) s = den prog ann 24 (K) s := den_flat hf (l := []) (by kernel_rfl) K s
theorem r3_eq (K : List Item) (s : St) : den prog ann 24 (.code r3 :: K) s = mreg prog ann 24 (some [0, 1, 5]) [] none [] [
    ⟨some 16, none, .v fun s => some (s.get 5)⟩,
    ⟨some 17, none, .v fun s => binA prog .add 3 (s.get 16) (.int .i64 1)⟩,
    ⟨some 5, none, .v fun s => some (s.get 17)⟩] K s := (den_reg hf _ K s).trans (by kernel_rfl)
theorem r6_eq (K : List Item) (s : St) : den prog ann 24 (.code r6 :: K) s = mreg prog ann 24 (some [0, 1]) [] none [] [
    ⟨some 36, none, .v fun s => some (s.get 0)⟩,
    ⟨some 37, none, .v fun s => lenSl (s.get 36)⟩,
    ⟨some 38, none, .v fun s => some (s.get 1)⟩,
    ⟨some 39, none, .v fun s => lenSl (s.get 38)⟩,
    ⟨some 40, none, .v fun s => binA prog .lss 3 (s.get 37) (s.get 39)⟩,
    ⟨some 4, none, .v fun s => some (s.get 40)⟩] K s := (den_reg hf _ K s).trans (by kernel_rfl)
theorem ret_eq (K : List Item) (s : St) : den prog ann 24 (.code .ret :: K) s = finM true [fun s => some (s.get 4)] s := (den_ret hf K s).trans (by kernel_rfl)
theorem nil_eq (s : St) : den prog ann 24 [] s = finM true [fun s => some (s.get 4)] s := (den_nil hf s).trans (by kernel_rfl)
theorem inBlock_eq (id : Nat) (K : List Item) (s : St) : den prog ann 24 (.inBlock id :: K) s = den prog ann 24 K s := den_inBlock hf id K s
theorem exit_eq (id : Nat) (K : List Item) (s : St) : den prog ann 24 (.code (.exit id) :: K) s = exitV prog ann 24 (exitTo id K) s := den_exitV hf id K s
theorem call_eq (v0 v1 : AV) (m : Mem) (h : closedL [v0, v1] = true) : denC prog ann 24 [v0, v1] m = (den prog ann 24 [.code b] ⟨[(0, v0), (1, v1)], 41, Mem.empty⟩).bind fun r => some (r.1, m) := (denC_pure hf (b := b) (by kernel_rfl) (by kernel_rfl) (by kernel_rfl) h m).trans (by kernel_rfl)
theorem pure_eq : (ann 24).pure = true := by kernel_rfl
attribute [simp] b_eq r0_eq r1_eq k0_eq l0_eq r2_eq i0_eq i0t_eq i0e_eq k1_eq r4_eq i1_eq i1t_eq r5_eq i1e_eq r3_eq r6_eq ret_eq nil_eq inBlock_eq exit_eq pure_eq
end r01_Before

namespace r01_Same
/-- pommel/pommelref01.Same -/
noncomputable def b : Code := (Tryd.f11.body).getD .skip
theorem hf : prog.funcs[11]? = some Tryd.f11 := by kernel_rfl
noncomputable def r0 : Code := findReg b 0
noncomputable def r1 : Code := findReg b 1
theorem b_eq (K : List Item) (s : St) : den prog ann 11 (.code b :: K) s = den prog ann 11 (.code r0 :: .code r1 :: .code .ret :: K) s := den_flat hf (l := [r0, r1, .ret]) (by kernel_rfl) K s
theorem r0_eq (K : List Item) (s : St) : den prog ann 11 (.code r0 :: K) s = mreg prog ann 11 none [] none [] [
    ⟨some 4, none, .v fun s => some (.bool false)⟩] K s := (den_reg hf _ K s).trans (by kernel_rfl)
theorem r1_eq (K : List Item) (s : St) : den prog ann 11 (.code r1 :: K) s = mreg prog ann 11 none [] none [] [
    ⟨some 5, none, .v fun s => some (s.get 0)⟩,
    ⟨some 6, none, .v fun s => some (s.get 1)⟩,
    ⟨some 7, none, .c 0 (fun s => (.fn 24 [] [])) fun s => [(s.get 5), (s.get 6)]⟩,
    ⟨some 8, none, .v fun s => unA .not (s.get 7)⟩,
    ⟨some 9, none, .v fun s => some (s.get 8)⟩,
    ⟨some 10, some (9, true), .v fun s => some (s.get 1)⟩,
    ⟨some 11, some (9, true), .v fun s => some (s.get 0)⟩,
    ⟨some 12, some (9, true), .c 0 (fun s => (.fn 24 [] [])) fun s => [(s.get 10), (s.get 11)]⟩,
    ⟨some 13, some (9, true), .v fun s => unA .not (s.get 12)⟩,
    ⟨some 14, none, .v fun s => pickA (s.get 9) (s.get 13) (.bool false)⟩,
    ⟨some 4, none, .v fun s => some (s.get 14)⟩] K s := (den_reg hf _ K s).trans (by kernel_rfl)
theorem ret_eq (K : List Item) (s : St) : den prog ann 11 (.code .ret :: K) s = finM true [fun s => some (s.get 4)] s := (den_ret hf K s).trans (by kernel_rfl)
theorem nil_eq (s : St) : den prog ann 11 [] s = finM true [fun s => some (s.get 4)] s := (den_nil hf s).trans (by kernel_rfl)
theorem inBlock_eq (id : Nat) (K : List Item) (s : St) : den prog ann 11 (.inBlock id :: K) s = den prog ann 11 K s := den_inBlock hf id K s
theorem exit_eq (id : Nat) (K : List Item) (s : St) : den prog ann 11 (.code (.exit id) :: K) s = exitV prog ann 11 (exitTo id K) s := den_exitV hf id K s
theorem call_eq (v0 v1 : AV) (m : Mem) (h : closedL [v0, v1] = true) : denC prog ann 11 [v0, v1] m = (den prog ann 11 [.code b] ⟨[(0, v0), (1, v1)], 15, Mem.empty⟩).bind fun r => some (r.1, m) := (denC_pure hf (b := b) (by kernel_rfl) (by kernel_rfl) (by kernel_rfl) h m).trans (by kernel_rfl)
theorem pure_eq : (ann 11).pure = true := by kernel_rfl
attribute [simp] b_eq r0_eq r1_eq ret_eq nil_eq inBlock_eq exit_eq pure_eq
end r01_Same

namespace r04_Gcd
/-- pommel/pommelref04.Gcd -/
noncomputable def b : Code := (Tryd.f12.body).getD .skip
theorem hf : prog.funcs[12]? = some Tryd.f12 := by kernel_rfl
noncomputable def r0 : Code := findReg b 0
noncomputable def k0 : Code := findBlk b 0
noncomputable def l0 : Code := loopOf k0
noncomputable def L0 (x0 x1 : AV) (m : Mem) (K : List Item) : Option Res := den prog ann 12 (.code l0 :: .inLoop l0 :: .inBlock 0 :: K) ⟨[(0, x0), (1, x1)], 12, m⟩
noncomputable def r1 : Code := findReg b 1
noncomputable def i0 : Code := findCond b 0
noncomputable def i0t : Code := thenOf i0
noncomputable def i0e : Code := elseOf i0
noncomputable def k1 : Code := findBlk b 1
noncomputable def r2 : Code := findReg b 2
noncomputable def r3 : Code := findReg b 3
theorem b_eq (K : List Item) (s : St) : den prog ann 12 (.code b :: K) s = den prog ann 12 (.code r0 :: .code k0 :: .code r3 :: .code .ret :: K) s := den_flat hf (l := [r0, k0, r3, .ret]) (by kernel_rfl) K s
theorem r0_eq (K : List Item) (s : St) : den prog ann 12 (.code r0 :: K) s = mreg prog ann 12 none [] none [] [
    ⟨some 4, none, .v fun s => some (.int .i64 0)⟩] K s := (den_reg hf _ K s).trans (by kernel_rfl)
theorem k0_eq (K : List Item) (t : List (Nat × AV)) (m : Mem) : den prog ann 12 (.code k0 :: K) ⟨t, 12, m⟩ = L0 (get t 0) (get t 1) m K := den_loop_enter hf (b := l0) (id := 1) (l := [0, 1]) (by kernel_rfl) (by kernel_rfl) (by kernel_rfl) K _
theorem l0_eq (K : List Item) (t : List (Nat × AV)) (m : Mem) : den prog ann 12 (.inLoop l0 :: .inBlock 0 :: K) ⟨t, 12, m⟩ = L0 (get t 0) (get t 1) m K := den_loop_again hf (id := 1) (l := [0, 1]) (by kernel_rfl) (by kernel_rfl) (.inBlock 0 :: K) _
theorem L0_eq (x0 x1 : AV) (m : Mem) (K : List Item) : L0 x0 x1 m K = den prog ann 12 (.code r1 :: .code i0 :: .code k1 :: .inLoop l0 :: .inBlock 0 :: K) ⟨[(0, x0), (1, x1)], 12, m⟩ := den_flat hf (l := [r1, i0, k1]) (by kernel_rfl) _ _
theorem r1_eq (K : List Item) (s : St) : den prog ann 12 (.code r1 :: K) s = mreg prog ann 12 (some [0, 1]) [] none [] [
    ⟨some 5, none, .v fun s => some (s.get 1)⟩,
    ⟨some 6, none, .v fun s => binA prog .gtr 3 (s.get 5) (.int .i64 0)⟩] K s := (den_reg hf _ K s).trans (by kernel_rfl)
theorem i0_eq (K : List Item) (s : St) : den prog ann 12 (.code i0 :: K) s = ifV prog ann 12 6 i0t i0e K s (s.get 6) := den_if hf (by kernel_rfl) K s
theorem i0t_eq (K : List Item) (s : St) : den prog ann 12 (.code i0t :: K) s = den prog ann 12 (K) s := den_flat hf (l := []) (by kernel_rfl) K s
theorem i0e_eq (K : List Item) (s : St) : den prog ann 12 (.code i0e :: K) s = den prog ann 12 (.code (.exit 0) :: K) s := den_flat hf (l := [(.exit 0)]) (by kernel_rfl) K s
theorem k1_eq (K : List Item) (s : St) : den prog ann 12 (.code k1 :: K) s = den prog ann 12 (.code r2 :: .inBlock 1 :: K) s := den_blk hf (b := blkOf k1) (l := [r2]) (by kernel_rfl) (by kernel_rfl) K s
theorem r2_draw : drawOk (fun g => (ann g).pure) (modeOf (ann 12) (idOf r2)) (frzOf (ann 12) (idOf r2)) (opsOf r2) = true := drawOk_of (an := [0, 0, 0, 6, 3, 31]) (by kernel_rfl) (by kernel_rfl)
theorem r2_eq (K : List Item) (s : St) : den prog ann 12 (.code r2 :: K) s = mreg prog ann 12 none [] (some 6) [] [
    ⟨some 7, none, .v fun s => some (s.get 1)⟩,
    ⟨some 8, none, .v fun s => some (s.get 0)⟩,
    ⟨some 9, none, .v fun s => some (s.get 1)⟩,
    ⟨some 10, none, .v fun s => binA prog .rem 3 (s.get 8) (s.get 9)⟩,
    ⟨some 0, none, .v fun s => some (s.get 7)⟩,
    ⟨some 1, none, .v fun s => some (s.get 10)⟩] K s := (den_regD hf r2_draw K s).trans (by kernel_rfl)
theorem r3_eq (K : List Item) (s : St) : den prog ann 12 (.code r3 :: K) s = mreg prog ann 12 (some [0]) [] none [] [
    ⟨some 11, none, .v fun s => some (s.get 0)⟩,
    ⟨some 4, none, .v fun s => some (s.get 11)⟩] K s := (den_reg hf _ K s).trans (by kernel_rfl)
theorem ret_eq (K : List Item) (s : St) : den prog ann 12 (.code .ret :: K) s = finM true [fun s => some (s.get 4)] s := (den_ret hf K s).trans (by kernel_rfl)
theorem nil_eq (s : St) : den prog ann 12 [] s = finM true [fun s => some (s.get 4)] s := (den_nil hf s).trans (by kernel_rfl)
theorem inBlock_eq (id : Nat) (K : List Item) (s : St) : den prog ann 12 (.inBlock id :: K) s = den prog ann 12 K s := den_inBlock hf id K s
theorem exit_eq (id : Nat) (K : List Item) (s : St) : den prog ann 12 (.code (.exit id) :: K) s = exitV prog ann 12 (exitTo id K) s := den_exitV hf id K s
theorem call_eq (v0 v1 : AV) (m : Mem) (h : closedL [v0, v1] = true) : denC prog ann 12 [v0, v1] m = (den prog ann 12 [.code b] ⟨[(0, v0), (1, v1)], 12, Mem.empty⟩).bind fun r => some (r.1, m) := (denC_pure hf (b := b) (by kernel_rfl) (by kernel_rfl) (by kernel_rfl) h m).trans (by kernel_rfl)
theorem pure_eq : (ann 12).pure = true := by kernel_rfl
attribute [simp] b_eq r0_eq k0_eq l0_eq r1_eq i0_eq i0t_eq i0e_eq k1_eq r2_eq r3_eq ret_eq nil_eq inBlock_eq exit_eq pure_eq
end r04_Gcd

namespace r04_Turned
/-- pommel/pommelref04.Turned -/
noncomputable def b : Code := (Tryd.f13.body).getD .skip
theorem hf : prog.funcs[13]? = some Tryd.f13 := by kernel_rfl
noncomputable def r0 : Code := findReg b 0
noncomputable def r1 : Code := findReg b 1
noncomputable def r2 : Code := findReg b 2
noncomputable def k0 : Code := findBlk b 0
noncomputable def l0 : Code := loopOf k0
noncomputable def L0 (x0 x1 x2 x3 x9 x10 x11 : AV) (m : Mem) (K : List Item) : Option Res := den prog ann 13 (.code l0 :: .inLoop l0 :: .inBlock 0 :: K) ⟨[(0, x0), (1, x1), (2, x2), (3, x3), (9, x9), (10, x10), (11, x11)], 48, m⟩
noncomputable def r3 : Code := findReg b 3
noncomputable def i0 : Code := findCond b 0
noncomputable def i0t : Code := thenOf i0
noncomputable def i0e : Code := elseOf i0
noncomputable def k1 : Code := findBlk b 1
noncomputable def r5 : Code := findReg b 5
noncomputable def r4 : Code := findReg b 4
noncomputable def r6 : Code := findReg b 6
noncomputable def k2 : Code := findBlk b 2
noncomputable def l2 : Code := loopOf k2
noncomputable def L2 (x0 x9 x10 x12 : AV) (m : Mem) (K : List Item) : Option Res := den prog ann 13 (.code l2 :: .inLoop l2 :: .inBlock 2 :: K) ⟨[(0, x0), (9, x9), (10, x10), (12, x12)], 48, m⟩
noncomputable def r7 : Code := findReg b 7
noncomputable def i1 : Code := findCond b 1
noncomputable def i1t : Code := thenOf i1
noncomputable def i1e : Code := elseOf i1
noncomputable def k3 : Code := findBlk b 3
noncomputable def r9 : Code := findReg b 9
noncomputable def i2 : Code := findCond b 2
noncomputable def i2t : Code := thenOf i2
noncomputable def i2e : Code := elseOf i2
noncomputable def r10 : Code := findReg b 10
noncomputable def r8 : Code := findReg b 8
noncomputable def r11 : Code := findReg b 11
theorem b_eq (K : List Item) (s : St) : den prog ann 13 (.code b :: K) s = den prog ann 13 (.code r0 :: .code r1 :: .code r2 :: .code k0 :: .code r6 :: .code k2 :: .code r11 :: .code .ret :: K) s := den_flat hf (l := [r0, r1, r2, k0, r6, k2, r11, .ret]) (by kernel_rfl) K s
theorem r0_eq (K : List Item) (s : St) : den prog ann 13 (.code r0 :: K) s = mreg prog ann 13 none [] none [] [
    ⟨some 8, none, .v fun s => some (.nils)⟩] K s := (den_reg hf _ K s).trans (by kernel_rfl)
theorem r1_eq (K : List Item) (s : St) : den prog ann 13 (.code r1 :: K) s = mreg prog ann 13 none [] none [] [
    ⟨some 13, none, .v fun s => some (s.get 0)⟩,
    ⟨some 14, none, .w false none fun s => makeA 1 1 (.bool false) s.m (s.get 13) (s.get 13)⟩,
    ⟨some 15, none, .w false none fun s => bslM s.m 0 (bslA 1 0 [.int .i64 0] [])⟩,
    ⟨some 9, none, .v fun s => some (s.get 14)⟩,
    ⟨some 10, none, .v fun s => some (s.get 15)⟩] K s := (den_reg hf _ K s).trans (by kernel_rfl)
theorem r2_eq (K : List Item) (s : St) : den prog ann 13 (.code r2 :: K) s = mreg prog ann 13 none [] none [] [
    ⟨some 11, none, .v fun s => some (.int .i64 0)⟩] K s := (den_reg hf _ K s).trans (by kernel_rfl)
theorem k0_eq (K : List Item) (t : List (Nat × AV)) (m : Mem) : den prog ann 13 (.code k0 :: K) ⟨t, 48, m⟩ = L0 (get t 0) (get t 1) (get t 2) (get t 3) (get t 9) (get t 10) (get t 11) m K := den_loop_enter hf (b := l0) (id := 3) (l := [0, 1, 2, 3, 9, 10, 11]) (by kernel_rfl) (by kernel_rfl) (by kernel_rfl) K _
theorem l0_eq (K : List Item) (t : List (Nat × AV)) (m : Mem) : den prog ann 13 (.inLoop l0 :: .inBlock 0 :: K) ⟨t, 48, m⟩ = L0 (get t 0) (get t 1) (get t 2) (get t 3) (get t 9) (get t 10) (get t 11) m K := den_loop_again hf (id := 3) (l := [0, 1, 2, 3, 9, 10, 11]) (by kernel_rfl) (by kernel_rfl) (.inBlock 0 :: K) _
theorem L0_eq (x0 x1 x2 x3 x9 x10 x11 : AV) (m : Mem) (K : List Item) : L0 x0 x1 x2 x3 x9 x10 x11 m K = den prog ann 13 (.code r3 :: .code i0 :: .code k1 :: .code r4 :: .inLoop l0 :: .inBlock 0 :: K) ⟨[(0, x0), (1, x1), (2, x2), (3, x3), (9, x9), (10, x10), (11, x11)], 48, m⟩ := den_flat hf (l := [r3, i0, k1, r4]) (by kernel_rfl) _ _
theorem r3_eq (K : List Item) (s : St) : den prog ann 13 (.code r3 :: K) s = mreg prog ann 13 (some [0, 1, 2, 3, 9, 10, 11]) [] none [] [
    ⟨some 16, none, .v fun s => some (s.get 11)⟩,
    ⟨some 17, none, .v fun s => some (s.get 1)⟩,
    ⟨some 18, none, .v fun s => lenSl (s.get 17)⟩,
    ⟨some 19, none, .v fun s => binA prog .lss 3 (s.get 16) (s.get 18)⟩] K s := (den_reg hf _ K s).trans (by kernel_rfl)
theorem i0_eq (K : List Item) (s : St) : den prog ann 13 (.code i0 :: K) s = ifV prog ann 13 19 i0t i0e K s (s.get 19) := den_if hf (by kernel_rfl) K s
theorem i0t_eq (K : List Item) (s : St) : den prog ann 13 (.code i0t :: K) s = den prog ann 13 (K) s := den_flat hf (l := []) (by kernel_rfl) K s
theorem i0e_eq (K : List Item) (s : St) : den prog ann 13 (.code i0e :: K) s = den prog ann 13 (.code (.exit 0) :: K) s := den_flat hf (l := [(.exit 0)]) (by kernel_rfl) K s
theorem k1_eq (K : List Item) (s : St) : den prog ann 13 (.code k1 :: K) s = den prog ann 13 (.code r5 :: .inBlock 1 :: K) s := den_blk hf (b := blkOf k1) (l := [r5]) (by kernel_rfl) (by kernel_rfl) K s
theorem r5_eq (K : List Item) (s : St) : den prog ann 13 (.code r5 :: K) s = mreg prog ann 13 none [] none [] [
    ⟨some 22, none, .v fun s => some (s.get 9)⟩,
    ⟨some 23, none, .v fun s => some (s.get 1)⟩,
    ⟨some 24, none, .v fun s => some (s.get 11)⟩,
    ⟨some 25, none, .v fun s => idxSl 1 (s.get 23) (s.get 24)⟩,
    ⟨some 26, none, .v fun s => loadF false 1 (s.get 25)⟩,
    ⟨some 27, none, .v fun s => some (s.get 2)⟩,
    ⟨some 28, none, .v fun s => binA prog .mul 3 (s.get 26) (s.get 27)⟩,
    ⟨some 29, none, .v fun s => some (s.get 3)⟩,
    ⟨some 30, none, .v fun s => binA prog .add 3 (s.get 28) (s.get 29)⟩,
    ⟨some 31, none, .v fun s => some (s.get 0)⟩,
    ⟨some 32, none, .v fun s => binA prog .rem 3 (s.get 30) (s.get 31)⟩,
    ⟨some 33, none, .v fun s => idxSl 1 (s.get 22) (s.get 32)⟩,
    ⟨none, none, .w false none fun s => stA false 1 s.m (s.get 33) (.bool true)⟩] K s := (den_reg hf _ K s).trans (by kernel_rfl)
theorem r4_eq (K : List Item) (s : St) : den prog ann 13 (.code r4 :: K) s = mreg prog ann 13 (some [0, 1, 2, 3, 9, 10, 11]) [] none [] [
    ⟨some 20, none, .v fun s => some (s.get 11)⟩,
    ⟨some 21, none, .v fun s => binA prog .add 3 (s.get 20) (.int .i64 1)⟩,
    ⟨some 11, none, .v fun s => some (s.get 21)⟩] K s := (den_reg hf _ K s).trans (by kernel_rfl)
theorem r6_eq (K : List Item) (s : St) : den prog ann 13 (.code r6 :: K) s = mreg prog ann 13 (some [0, 9, 10]) [] none [] [
    ⟨some 12, none, .v fun s => some (.int .i64 0)⟩] K s := (den_reg hf _ K s).trans (by kernel_rfl)
theorem k2_eq (K : List Item) (t : List (Nat × AV)) (m : Mem) : den prog ann 13 (.code k2 :: K) ⟨t, 48, m⟩ = L2 (get t 0) (get t 9) (get t 10) (get t 12) m K := den_loop_enter hf (b := l2) (id := 7) (l := [0, 9, 10, 12]) (by kernel_rfl) (by kernel_rfl) (by kernel_rfl) K _
theorem l2_eq (K : List Item) (t : List (Nat × AV)) (m : Mem) : den prog ann 13 (.inLoop l2 :: .inBlock 2 :: K) ⟨t, 48, m⟩ = L2 (get t 0) (get t 9) (get t 10) (get t 12) m K := den_loop_again hf (id := 7) (l := [0, 9, 10, 12]) (by kernel_rfl) (by kernel_rfl) (.inBlock 2 :: K) _
theorem L2_eq (x0 x9 x10 x12 : AV) (m : Mem) (K : List Item) : L2 x0 x9 x10 x12 m K = den prog ann 13 (.code r7 :: .code i1 :: .code k3 :: .code r8 :: .inLoop l2 :: .inBlock 2 :: K) ⟨[(0, x0), (9, x9), (10, x10), (12, x12)], 48, m⟩ := den_flat hf (l := [r7, i1, k3, r8]) (by kernel_rfl) _ _
theorem r7_eq (K : List Item) (s : St) : den prog ann 13 (.code r7 :: K) s = mreg prog ann 13 (some [0, 9, 10, 12]) [] none [] [
    ⟨some 34, none, .v fun s => some (s.get 12)⟩,
    ⟨some 35, none, .v fun s => some (s.get 0)⟩,
    ⟨some 36, none, .v fun s => binA prog .lss 3 (s.get 34) (s.get 35)⟩] K s := (den_reg hf _ K s).trans (by kernel_rfl)
theorem i1_eq (K : List Item) (s : St) : den prog ann 13 (.code i1 :: K) s = ifV prog ann 13 36 i1t i1e K s (s.get 36) := den_if hf (by kernel_rfl) K s
theorem i1t_eq (K : List Item) (s : St) : den prog ann 13 (.code i1t :: K) s = den prog ann 13 (K) s := den_flat hf (l := []) (by kernel_rfl) K s
theorem i1e_eq (K : List Item) (s : St) : den prog ann 13 (.code i1e :: K) s = den prog ann 13 (.code (.exit 2) :: K) s := den_flat hf (l := [(.exit 2)]) (by kernel_rfl) K s
theorem k3_eq (K : List Item) (s : St) : den prog ann 13 (.code k3 :: K) s = den prog ann 13 (.code r9 :: .code i2 :: .inBlock 3 :: K) s := den_blk hf (b := blkOf k3) (l := [r9, i2]) (by kernel_rfl) (by kernel_rfl) K s
theorem r9_eq (K : List Item) (s : St) : den prog ann 13 (.code r9 :: K) s = mreg prog ann 13 none [] none [] [
    ⟨some 39, none, .v fun s => some (s.get 9)⟩,
    ⟨some 40, none, .v fun s => some (s.get 12)⟩,
    ⟨some 41, none, .v fun s => idxSl 1 (s.get 39) (s.get 40)⟩,
    ⟨some 42, none, .v fun s => loadA false 1 s.m (s.get 41)⟩] K s := (den_reg hf _ K s).trans (by kernel_rfl)
theorem i2_eq (K : List Item) (s : St) : den prog ann 13 (.code i2 :: K) s = ifV prog ann 13 42 i2t i2e K s (s.get 42) := den_if hf (by kernel_rfl) K s
theorem i2t_eq (K : List Item) (s : St) : den prog ann 13 (.code i2t :: K) s = den prog ann 13 (.code r10 :: K) s := den_flat hf (l := [r10]) (by kernel_rfl) K s
theorem r10_eq (K : List Item) (s : St) : den prog ann 13 (.code r10 :: K) s = mreg prog ann 13 none [] none [] [
    ⟨some 43, none, .v fun s => some (s.get 10)⟩,
    ⟨some 44, none, .v fun s => some (s.get 12)⟩,
    ⟨some 45, none, .v fun s => bslF 1 (bslA 1 1 [.int .i64 0] [(0, (s.get 44))])⟩,
    ⟨some 46, none, .w false none fun s => appendA 1 8 s.m (s.get 43) (s.get 45)⟩,
    ⟨some 10, none, .v fun s => some (s.get 46)⟩] K s := (den_reg hf _ K s).trans (by kernel_rfl)
theorem i2e_eq (K : List Item) (s : St) : den prog ann 13 (.code i2e :: K) s = den prog ann 13 (K) s := den_flat hf (l := []) (by kernel_rfl) K s
theorem r8_eq (K : List Item) (s : St) : den prog ann 13 (.code r8 :: K) s = mreg prog ann 13 (some [0, 9, 10, 12]) [] none [] [
    ⟨some 37, none, .v fun s => some (s.get 12)⟩,
    ⟨some 38, none, .v fun s => binA prog .add 3 (s.get 37) (.int .i64 1)⟩,
    ⟨some 12, none, .v fun s => some (s.get 38)⟩] K s := (den_reg hf _ K s).trans (by kernel_rfl)
theorem r11_eq (K : List Item) (s : St) : den prog ann 13 (.code r11 :: K) s = mreg prog ann 13 (some [10]) [] none [] [
    ⟨some 47, none, .v fun s => some (s.get 10)⟩,
    ⟨some 8, none, .v fun s => some (s.get 47)⟩] K s := (den_reg hf _ K s).trans (by kernel_rfl)
theorem ret_eq (K : List Item) (s : St) : den prog ann 13 (.code .ret :: K) s = finM true [fun s => some (s.get 8)] s := (den_ret hf K s).trans (by kernel_rfl)
theorem nil_eq (s : St) : den prog ann 13 [] s = finM true [fun s => some (s.get 8)] s := (den_nil hf s).trans (by kernel_rfl)
theorem inBlock_eq (id : Nat) (K : List Item) (s : St) : den prog ann 13 (.inBlock id :: K) s = den prog ann 13 K s := den_inBlock hf id K s
theorem exit_eq (id : Nat) (K : List Item) (s : St) : den prog ann 13 (.code (.exit id) :: K) s = exitV prog ann 13 (exitTo id K) s := den_exitV hf id K s
theorem call_eq (v0 v1 v2 v3 : AV) (m : Mem) (h : closedL [v0, v1, v2, v3] = true) : denC prog ann 13 [v0, v1, v2, v3] m = (den prog ann 13 [.code b] ⟨[(0, v0), (1, v1), (2, v2), (3, v3)], 48, Mem.empty⟩).bind fun r => some (r.1, m) := (denC_pure hf (b := b) (by kernel_rfl) (by kernel_rfl) (by kernel_rfl) h m).trans (by kernel_rfl)
theorem pure_eq : (ann 13).pure = true := by kernel_rfl
attribute [simp] b_eq r0_eq r1_eq r2_eq k0_eq l0_eq r3_eq i0_eq i0t_eq i0e_eq k1_eq r5_eq r4_eq r6_eq k2_eq l2_eq r7_eq i1_eq i1t_eq i1e_eq k3_eq r9_eq i2_eq i2t_eq r10_eq i2e_eq r8_eq r11_eq ret_eq nil_eq inBlock_eq exit_eq pure_eq
end r04_Turned

namespace slices_Equal_int
/-- slices.Equalintint -/
noncomputable def b : Code := (Tryd.f16.body).getD .skip
theorem hf : prog.funcs[16]? = some Tryd.f16 := by kernel_rfl
noncomputable def r0 : Code := findReg b 0
noncomputable def r1 : Code := findReg b 1
noncomputable def i0 : Code := findCond b 0
noncomputable def i0t : Code := thenOf i0
noncomputable def i0e : Code := elseOf i0
noncomputable def r2 : Code := findReg b 2
noncomputable def r3 : Code := findReg b 3
noncomputable def k0 : Code := findBlk b 0
noncomputable def l0 : Code := loopOf k0
noncomputable def L0 (x0 x1 x12 x13 : AV) (m : Mem) (K : List Item) : Option Res := den prog ann 16 (.code l0 :: .inLoop l0 :: .inBlock 0 :: K) ⟨[(0, x0), (1, x1), (12, x12), (13, x13)], 26, m⟩
noncomputable def r4 : Code := findReg b 4
noncomputable def i1 : Code := findCond b 1
noncomputable def i1t : Code := thenOf i1
noncomputable def i1e : Code := elseOf i1
noncomputable def k1 : Code := findBlk b 1
noncomputable def r5 : Code := findReg b 5
noncomputable def r6 : Code := findReg b 6
noncomputable def i2 : Code := findCond b 2
noncomputable def i2t : Code := thenOf i2
noncomputable def i2e : Code := elseOf i2
noncomputable def r7 : Code := findReg b 7
noncomputable def r8 : Code := findReg b 8
noncomputable def r9 : Code := findReg b 9
theorem b_eq (K : List Item) (s : St) : den prog ann 16 (.code b :: K) s = den prog ann 16 (.code r0 :: .code r1 :: .code i0 :: .code r3 :: .code k0 :: .code r9 :: .code .ret :: K) s := den_flat hf (l := [r0, r1, i0, r3, k0, r9, .ret]) (by kernel_rfl) K s
theorem r0_eq (K : List Item) (s : St) : den prog ann 16 (.code r0 :: K) s = mreg prog ann 16 none [] none [] [
    ⟨some 4, none, .v fun s => some (.bool false)⟩] K s := (den_reg hf _ K s).trans (by kernel_rfl)
theorem r1_eq (K : List Item) (s : St) : den prog ann 16 (.code r1 :: K) s = mreg prog ann 16 none [] none [] [
    ⟨some 6, none, .v fun s => some (s.get 0)⟩,
    ⟨some 7, none, .v fun s => lenSl (s.get 6)⟩,
    ⟨some 8, none, .v fun s => some (s.get 1)⟩,
    ⟨some 9, none, .v fun s => lenSl (s.get 8)⟩,
    ⟨some 10, none, .v fun s => binA prog .neq 3 (s.get 7) (s.get 9)⟩] K s := (den_reg hf _ K s).trans (by kernel_rfl)
theorem i0_eq (K : List Item) (s : St) : den prog ann 16 (.code i0 :: K) s = ifV prog ann 16 10 i0t i0e K s (s.get 10) := den_if hf (by kernel_rfl) K s
theorem i0t_eq (K : List Item) (s : St) : den prog ann 16 (.code i0t :: K) s = den prog ann 16 (.code r2 :: .code .ret :: K) s := den_flat hf (l := [r2, .ret]) (by kernel_rfl) K s
theorem r2_eq (K : List Item) (s : St) : den prog ann 16 (.code r2 :: K) s = mreg prog ann 16 none [] none [] [
    ⟨some 4, none, .v fun s => some (.bool false)⟩] K s := (den_reg hf _ K s).trans (by kernel_rfl)
theorem i0e_eq (K : List Item) (s : St) : den prog ann 16 (.code i0e :: K) s = den prog ann 16 (K) s := den_flat hf (l := []) (by kernel_rfl) K s
theorem r3_eq (K : List Item) (s : St) : den prog ann 16 (.code r3 :: K) s = mreg prog ann 16 none [] none [] [
    ⟨some 11, none, .v fun s => some (s.get 0)⟩,
    ⟨some 12, none, .v fun s => lenSl (s.get 11)⟩,
    ⟨some 13, none, .v fun s => some (.int .i64 0)⟩] K s := (den_reg hf _ K s).trans (by kernel_rfl)
theorem k0_eq (K : List Item) (t : List (Nat × AV)) (m : Mem) : den prog ann 16 (.code k0 :: K) ⟨t, 26, m⟩ = L0 (get t 0) (get t 1) (get t 12) (get t 13) m K := den_loop_enter hf (b := l0) (id := 4) (l := [0, 1, 12, 13]) (by kernel_rfl) (by kernel_rfl) (by kernel_rfl) K _
theorem l0_eq (K : List Item) (t : List (Nat × AV)) (m : Mem) : den prog ann 16 (.inLoop l0 :: .inBlock 0 :: K) ⟨t, 26, m⟩ = L0 (get t 0) (get t 1) (get t 12) (get t 13) m K := den_loop_again hf (id := 4) (l := [0, 1, 12, 13]) (by kernel_rfl) (by kernel_rfl) (.inBlock 0 :: K) _
theorem L0_eq (x0 x1 x12 x13 : AV) (m : Mem) (K : List Item) : L0 x0 x1 x12 x13 m K = den prog ann 16 (.code r4 :: .code i1 :: .code k1 :: .code r8 :: .inLoop l0 :: .inBlock 0 :: K) ⟨[(0, x0), (1, x1), (12, x12), (13, x13)], 26, m⟩ := den_flat hf (l := [r4, i1, k1, r8]) (by kernel_rfl) _ _
theorem r4_eq (K : List Item) (s : St) : den prog ann 16 (.code r4 :: K) s = mreg prog ann 16 (some [0, 1, 12, 13]) [] none [] [
    ⟨some 14, none, .v fun s => binA prog .lss 3 (s.get 13) (s.get 12)⟩] K s := (den_reg hf _ K s).trans (by kernel_rfl)
theorem i1_eq (K : List Item) (s : St) : den prog ann 16 (.code i1 :: K) s = ifV prog ann 16 14 i1t i1e K s (s.get 14) := den_if hf (by kernel_rfl) K s
theorem i1t_eq (K : List Item) (s : St) : den prog ann 16 (.code i1t :: K) s = den prog ann 16 (K) s := den_flat hf (l := []) (by kernel_rfl) K s
theorem i1e_eq (K : List Item) (s : St) : den prog ann 16 (.code i1e :: K) s = den prog ann 16 (.code (.exit 0) :: K) s := den_flat hf (l := [(.exit 0)]) (by kernel_rfl) K s
theorem k1_eq (K : List Item) (s : St) : den prog ann 16 (.code k1 :: K) s = den prog ann 16 (.code r5 :: .code r6 :: .code i2 :: .inBlock 1 :: K) s := den_blk hf (b := blkOf k1) (l := [r5, r6, i2]) (by kernel_rfl) (by kernel_rfl) K s
theorem r5_eq (K : List Item) (s : St) : den prog ann 16 (.code r5 :: K) s = mreg prog ann 16 none [] none [] [
    ⟨some 15, none, .v fun s => some (s.get 13)⟩,
    ⟨some 5, none, .v fun s => some (s.get 15)⟩] K s := (den_reg hf _ K s).trans (by kernel_rfl)
theorem r6_draw : drawOk (fun g => (ann g).pure) (modeOf (ann 16) (idOf r6)) (frzOf (ann 16) (idOf r6)) (opsOf r6) = true := drawOk_of (an := [0, 0, 3, 7, 0, 0, 48, 112, 255]) (by kernel_rfl) (by kernel_rfl)
theorem r6_eq (K : List Item) (s : St) : den prog ann 16 (.code r6 :: K) s = mreg prog ann 16 none [] (some 9) [] [
    ⟨some 16, none, .v fun s => some (s.get 0)⟩,
    ⟨some 17, none, .v fun s => some (s.get 5)⟩,
    ⟨some 18, none, .v fun s => idxSl 1 (s.get 16) (s.get 17)⟩,
    ⟨some 19, none, .v fun s => loadF false 1 (s.get 18)⟩,
    ⟨some 20, none, .v fun s => some (s.get 1)⟩,
    ⟨some 21, none, .v fun s => some (s.get 5)⟩,
    ⟨some 22, none, .v fun s => idxSl 1 (s.get 20) (s.get 21)⟩,
    ⟨some 23, none, .v fun s => loadF false 1 (s.get 22)⟩,
    ⟨some 24, none, .v fun s => binA prog .neq 3 (s.get 19) (s.get 23)⟩] K s := (den_regD hf r6_draw K s).trans (by kernel_rfl)
theorem i2_eq (K : List Item) (s : St) : den prog ann 16 (.code i2 :: K) s = ifV prog ann 16 24 i2t i2e K s (s.get 24) := den_if hf (by kernel_rfl) K s
theorem i2t_eq (K : List Item) (s : St) : den prog ann 16 (.code i2t :: K) s = den prog ann 16 (.code r7 :: .code .ret :: K) s := den_flat hf (l := [r7, .ret]) (by kernel_rfl) K s
theorem r7_eq (K : List Item) (s : St) : den prog ann 16 (.code r7 :: K) s = mreg prog ann 16 none [] none [] [
    ⟨some 4, none, .v fun s => some (.bool false)⟩] K s := (den_reg hf _ K s).trans (by kernel_rfl)
theorem i2e_eq (K : List Item) (s : St) : den prog ann 16 (.code i2e :: K) s = den prog ann 16 (K) s := den_flat hf (l := []) (by kernel_rfl) K s
theorem r8_eq (K : List Item) (s : St) : den prog ann 16 (.code r8 :: K) s = mreg prog ann 16 (some [0, 1, 12, 13]) [] none [] [
    ⟨some 25, none, .v fun s => binA prog .add 3 (s.get 13) (.int .i64 1)⟩,
    ⟨some 13, none, .v fun s => some (s.get 25)⟩] K s := (den_reg hf _ K s).trans (by kernel_rfl)
theorem r9_eq (K : List Item) (s : St) : den prog ann 16 (.code r9 :: K) s = mreg prog ann 16 (some []) [] none [] [
    ⟨some 4, none, .v fun s => some (.bool true)⟩] K s := (den_reg hf _ K s).trans (by kernel_rfl)
theorem ret_eq (K : List Item) (s : St) : den prog ann 16 (.code .ret :: K) s = finM true [fun s => some (s.get 4)] s := (den_ret hf K s).trans (by kernel_rfl)
theorem nil_eq (s : St) : den prog ann 16 [] s = finM true [fun s => some (s.get 4)] s := (den_nil hf s).trans (by kernel_rfl)
theorem inBlock_eq (id : Nat) (K : List Item) (s : St) : den prog ann 16 (.inBlock id :: K) s = den prog ann 16 K s := den_inBlock hf id K s
theorem exit_eq (id : Nat) (K : List Item) (s : St) : den prog ann 16 (.code (.exit id) :: K) s = exitV prog ann 16 (exitTo id K) s := den_exitV hf id K s
theorem call_eq (v0 v1 : AV) (m : Mem) (h : closedL [v0, v1] = true) : denC prog ann 16 [v0, v1] m = (den prog ann 16 [.code b] ⟨[(0, v0), (1, v1)], 26, Mem.empty⟩).bind fun r => some (r.1, m) := (denC_pure hf (b := b) (by kernel_rfl) (by kernel_rfl) (by kernel_rfl) h m).trans (by kernel_rfl)
theorem pure_eq : (ann 16).pure = true := by kernel_rfl
attribute [simp] b_eq r0_eq r1_eq i0_eq i0t_eq r2_eq i0e_eq r3_eq k0_eq l0_eq r4_eq i1_eq i1t_eq i1e_eq k1_eq r5_eq r6_eq i2_eq i2t_eq r7_eq i2e_eq r8_eq r9_eq ret_eq nil_eq inBlock_eq exit_eq pure_eq
end slices_Equal_int

namespace slices_Max_int
/-- slices.Maxintint -/
noncomputable def b : Code := (Tryd.f23.body).getD .skip
theorem hf : prog.funcs[23]? = some Tryd.f23 := by kernel_rfl
noncomputable def r0 : Code := findReg b 0
noncomputable def r1 : Code := findReg b 1
noncomputable def i0 : Code := findCond b 0
noncomputable def i0t : Code := thenOf i0
noncomputable def i0e : Code := elseOf i0
noncomputable def r2 : Code := findReg b 2
noncomputable def r3 : Code := findReg b 3
noncomputable def r4 : Code := findReg b 4
noncomputable def k0 : Code := findBlk b 0
noncomputable def l0 : Code := loopOf k0
noncomputable def L0 (x0 x3 x4 : AV) (m : Mem) (K : List Item) : Option Res := den prog ann 23 (.code l0 :: .inLoop l0 :: .inBlock 0 :: K) ⟨[(0, x0), (3, x3), (4, x4)], 25, m⟩
noncomputable def r5 : Code := findReg b 5
noncomputable def i1 : Code := findCond b 1
noncomputable def i1t : Code := thenOf i1
noncomputable def i1e : Code := elseOf i1
noncomputable def k1 : Code := findBlk b 1
noncomputable def r7 : Code := findReg b 7
noncomputable def r6 : Code := findReg b 6
noncomputable def r8 : Code := findReg b 8
theorem b_eq (K : List Item) (s : St) : den prog ann 23 (.code b :: K) s = den prog ann 23 (.code r0 :: .code r1 :: .code i0 :: .code r3 :: .code r4 :: .code k0 :: .code r8 :: .code .ret :: K) s := den_flat hf (l := [r0, r1, i0, r3, r4, k0, r8, .ret]) (by kernel_rfl) K s
theorem r0_eq (K : List Item) (s : St) : den prog ann 23 (.code r0 :: K) s = mreg prog ann 23 none [] none [] [
    ⟨some 2, none, .v fun s => some (.int .i64 0)⟩] K s := (den_reg hf _ K s).trans (by kernel_rfl)
theorem r1_eq (K : List Item) (s : St) : den prog ann 23 (.code r1 :: K) s = mreg prog ann 23 none [] none [] [
    ⟨some 5, none, .v fun s => some (s.get 0)⟩,
    ⟨some 6, none, .v fun s => lenSl (s.get 5)⟩,
    ⟨some 7, none, .v fun s => binA prog .lss 3 (s.get 6) (.int .i64 1)⟩] K s := (den_reg hf _ K s).trans (by kernel_rfl)
theorem i0_eq (K : List Item) (s : St) : den prog ann 23 (.code i0 :: K) s = ifV prog ann 23 7 i0t i0e K s (s.get 7) := den_if hf (by kernel_rfl) K s
theorem i0t_eq (K : List Item) (s : St) : den prog ann 23 (.code i0t :: K) s = den prog ann 23 (.code r2 :: K) s := den_flat hf (l := [r2]) (by kernel_rfl) K s
-- not covered: r2, operation 1
theorem i0e_eq (K : List Item) (s : St) : den prog ann 23 (.code i0e :: K) s = den prog ann 23 (K) s := den_flat hf (l := []) (by kernel_rfl) K s
theorem r3_eq (K : List Item) (s : St) : den prog ann 23 (.code r3 :: K) s = mreg prog ann 23 (some [0]) [] none [] [
    ⟨some 9, none, .v fun s => some (s.get 0)⟩,
    ⟨some 10, none, .v fun s => idxSl 1 (s.get 9) (.int .i64 0)⟩,
    ⟨some 11, none, .v fun s => loadF false 1 (s.get 10)⟩,
    ⟨some 3, none, .v fun s => some (s.get 11)⟩] K s := (den_reg hf _ K s).trans (by kernel_rfl)
theorem r4_eq (K : List Item) (s : St) : den prog ann 23 (.code r4 :: K) s = mreg prog ann 23 none [] none [] [
    ⟨some 4, none, .v fun s => some (.int .i64 1)⟩] K s := (den_reg hf _ K s).trans (by kernel_rfl)
theorem k0_eq (K : List Item) (t : List (Nat × AV)) (m : Mem) : den prog ann 23 (.code k0 :: K) ⟨t, 25, m⟩ = L0 (get t 0) (get t 3) (get t 4) m K := den_loop_enter hf (b := l0) (id := 5) (l := [0, 3, 4]) (by kernel_rfl) (by kernel_rfl) (by kernel_rfl) K _
theorem l0_eq (K : List Item) (t : List (Nat × AV)) (m : Mem) : den prog ann 23 (.inLoop l0 :: .inBlock 0 :: K) ⟨t, 25, m⟩ = L0 (get t 0) (get t 3) (get t 4) m K := den_loop_again hf (id := 5) (l := [0, 3, 4]) (by kernel_rfl) (by kernel_rfl) (.inBlock 0 :: K) _
theorem L0_eq (x0 x3 x4 : AV) (m : Mem) (K : List Item) : L0 x0 x3 x4 m K = den prog ann 23 (.code r5 :: .code i1 :: .code k1 :: .code r6 :: .inLoop l0 :: .inBlock 0 :: K) ⟨[(0, x0), (3, x3), (4, x4)], 25, m⟩ := den_flat hf (l := [r5, i1, k1, r6]) (by kernel_rfl) _ _
theorem r5_eq (K : List Item) (s : St) : den prog ann 23 (.code r5 :: K) s = mreg prog ann 23 (some [0, 3, 4]) [] none [] [
    ⟨some 12, none, .v fun s => some (s.get 4)⟩,
    ⟨some 13, none, .v fun s => some (s.get 0)⟩,
    ⟨some 14, none, .v fun s => lenSl (s.get 13)⟩,
    ⟨some 15, none, .v fun s => binA prog .lss 3 (s.get 12) (s.get 14)⟩] K s := (den_reg hf _ K s).trans (by kernel_rfl)
theorem i1_eq (K : List Item) (s : St) : den prog ann 23 (.code i1 :: K) s = ifV prog ann 23 15 i1t i1e K s (s.get 15) := den_if hf (by kernel_rfl) K s
theorem i1t_eq (K : List Item) (s : St) : den prog ann 23 (.code i1t :: K) s = den prog ann 23 (K) s := den_flat hf (l := []) (by kernel_rfl) K s
theorem i1e_eq (K : List Item) (s : St) : den prog ann 23 (.code i1e :: K) s = den prog ann 23 (.code (.exit 0) :: K) s := den_flat hf (l := [(.exit 0)]) (by kernel_rfl) K s
theorem k1_eq (K : List Item) (s : St) : den prog ann 23 (.code k1 :: K) s = den prog ann 23 (.code r7 :: .inBlock 1 :: K) s := den_blk hf (b := blkOf k1) (l := [r7]) (by kernel_rfl) (by kernel_rfl) K s
theorem r7_eq (K : List Item) (s : St) : den prog ann 23 (.code r7 :: K) s = mreg prog ann 23 none [] none [] [
    ⟨some 18, none, .v fun s => some (s.get 3)⟩,
    ⟨some 19, none, .v fun s => some (s.get 0)⟩,
    ⟨some 20, none, .v fun s => some (s.get 4)⟩,
    ⟨some 21, none, .v fun s => idxSl 1 (s.get 19) (s.get 20)⟩,
    ⟨some 22, none, .v fun s => loadF false 1 (s.get 21)⟩,
    ⟨some 23, none, .v fun s => foldA max2A (s.get 18) [(s.get 22)]⟩,
    ⟨some 3, none, .v fun s => some (s.get 23)⟩] K s := (den_reg hf _ K s).trans (by kernel_rfl)
theorem r6_eq (K : List Item) (s : St) : den prog ann 23 (.code r6 :: K) s = mreg prog ann 23 (some [0, 3, 4]) [] none [] [
    ⟨some 16, none, .v fun s => some (s.get 4)⟩,
    ⟨some 17, none, .v fun s => binA prog .add 3 (s.get 16) (.int .i64 1)⟩,
    ⟨some 4, none, .v fun s => some (s.get 17)⟩] K s := (den_reg hf _ K s).trans (by kernel_rfl)
theorem r8_eq (K : List Item) (s : St) : den prog ann 23 (.code r8 :: K) s = mreg prog ann 23 (some [3]) [] none [] [
    ⟨some 24, none, .v fun s => some (s.get 3)⟩,
    ⟨some 2, none, .v fun s => some (s.get 24)⟩] K s := (den_reg hf _ K s).trans (by kernel_rfl)
theorem ret_eq (K : List Item) (s : St) : den prog ann 23 (.code .ret :: K) s = finM true [fun s => some (s.get 2)] s := (den_ret hf K s).trans (by kernel_rfl)
theorem nil_eq (s : St) : den prog ann 23 [] s = finM true [fun s => some (s.get 2)] s := (den_nil hf s).trans (by kernel_rfl)
theorem inBlock_eq (id : Nat) (K : List Item) (s : St) : den prog ann 23 (.inBlock id :: K) s = den prog ann 23 K s := den_inBlock hf id K s
theorem exit_eq (id : Nat) (K : List Item) (s : St) : den prog ann 23 (.code (.exit id) :: K) s = exitV prog ann 23 (exitTo id K) s := den_exitV hf id K s
theorem call_eq (v0 : AV) (m : Mem) (h : closedL [v0] = true) : denC prog ann 23 [v0] m = (den prog ann 23 [.code b] ⟨[(0, v0)], 25, Mem.empty⟩).bind fun r => some (r.1, m) := (denC_pure hf (b := b) (by kernel_rfl) (by kernel_rfl) (by kernel_rfl) h m).trans (by kernel_rfl)
theorem pure_eq : (ann 23).pure = true := by kernel_rfl
attribute [simp] b_eq r0_eq r1_eq i0_eq i0t_eq i0e_eq r3_eq r4_eq k0_eq l0_eq r5_eq i1_eq i1t_eq i1e_eq k1_eq r7_eq r6_eq r8_eq ret_eq nil_eq inBlock_eq exit_eq pure_eq
end slices_Max_int

namespace slices_Min_int
/-- slices.Minintint -/
noncomputable def b : Code := (Tryd.f22.body).getD .skip
theorem hf : prog.funcs[22]? = some Tryd.f22 := by kernel_rfl
noncomputable def r0 : Code := findReg b 0
noncomputable def r1 : Code := findReg b 1
noncomputable def i0 : Code := findCond b 0
noncomputable def i0t : Code := thenOf i0
noncomputable def i0e : Code := elseOf i0
noncomputable def r2 : Code := findReg b 2
noncomputable def r3 : Code := findReg b 3
noncomputable def r4 : Code := findReg b 4
noncomputable def k0 : Code := findBlk b 0
noncomputable def l0 : Code := loopOf k0
noncomputable def L0 (x0 x3 x4 : AV) (m : Mem) (K : List Item) : Option Res := den prog ann 22 (.code l0 :: .inLoop l0 :: .inBlock 0 :: K) ⟨[(0, x0), (3, x3), (4, x4)], 25, m⟩
noncomputable def r5 : Code := findReg b 5
noncomputable def i1 : Code := findCond b 1
noncomputable def i1t : Code := thenOf i1
noncomputable def i1e : Code := elseOf i1
noncomputable def k1 : Code := findBlk b 1
noncomputable def r7 : Code := findReg b 7
noncomputable def r6 : Code := findReg b 6
noncomputable def r8 : Code := findReg b 8
theorem b_eq (K : List Item) (s : St) : den prog ann 22 (.code b :: K) s = den prog ann 22 (.code r0 :: .code r1 :: .code i0 :: .code r3 :: .code r4 :: .code k0 :: .code r8 :: .code .ret :: K) s := den_flat hf (l := [r0, r1, i0, r3, r4, k0, r8, .ret]) (by kernel_rfl) K s
theorem r0_eq (K : List Item) (s : St) : den prog ann 22 (.code r0 :: K) s = mreg prog ann 22 none [] none [] [
    ⟨some 2, none, .v fun s => some (.int .i64 0)⟩] K s := (den_reg hf _ K s).trans (by kernel_rfl)
theorem r1_eq (K : List Item) (s : St) : den prog ann 22 (.code r1 :: K) s = mreg prog ann 22 none [] none [] [
    ⟨some 5, none, .v fun s => some (s.get 0)⟩,
    ⟨some 6, none, .v fun s => lenSl (s.get 5)⟩,
    ⟨some 7, none, .v fun s => binA prog .lss 3 (s.get 6) (.int .i64 1)⟩] K s := (den_reg hf _ K s).trans (by kernel_rfl)
theorem i0_eq (K : List Item) (s : St) : den prog ann 22 (.code i0 :: K) s = ifV prog ann 22 7 i0t i0e K s (s.get 7) := den_if hf (by kernel_rfl) K s
theorem i0t_eq (K : List Item) (s : St) : den prog ann 22 (.code i0t :: K) s = den prog ann 22 (.code r2 :: K) s := den_flat hf (l := [r2]) (by kernel_rfl) K s
-- not covered: r2, operation 1
theorem i0e_eq (K : List Item) (s : St) : den prog ann 22 (.code i0e :: K) s = den prog ann 22 (K) s := den_flat hf (l := []) (by kernel_rfl) K s
theorem r3_eq (K : List Item) (s : St) : den prog ann 22 (.code r3 :: K) s = mreg prog ann 22 (some [0]) [] none [] [
    ⟨some 9, none, .v fun s => some (s.get 0)⟩,
    ⟨some 10, none, .v fun s => idxSl 1 (s.get 9) (.int .i64 0)⟩,
    ⟨some 11, none, .v fun s => loadF false 1 (s.get 10)⟩,
    ⟨some 3, none, .v fun s => some (s.get 11)⟩] K s := (den_reg hf _ K s).trans (by kernel_rfl)
theorem r4_eq (K : List Item) (s : St) : den prog ann 22 (.code r4 :: K) s = mreg prog ann 22 none [] none [] [
    ⟨some 4, none, .v fun s => some (.int .i64 1)⟩] K s := (den_reg hf _ K s).trans (by kernel_rfl)
theorem k0_eq (K : List Item) (t : List (Nat × AV)) (m : Mem) : den prog ann 22 (.code k0 :: K) ⟨t, 25, m⟩ = L0 (get t 0) (get t 3) (get t 4) m K := den_loop_enter hf (b := l0) (id := 5) (l := [0, 3, 4]) (by kernel_rfl) (by kernel_rfl) (by kernel_rfl) K _
theorem l0_eq (K : List Item) (t : List (Nat × AV)) (m : Mem) : den prog ann 22 (.inLoop l0 :: .inBlock 0 :: K) ⟨t, 25, m⟩ = L0 (get t 0) (get t 3) (get t 4) m K := den_loop_again hf (id := 5) (l := [0, 3, 4]) (by kernel_rfl) (by kernel_rfl) (.inBlock 0 :: K) _
theorem L0_eq (x0 x3 x4 : AV) (m : Mem) (K : List Item) : L0 x0 x3 x4 m K = den prog ann 22 (.code r5 :: .code i1 :: .code k1 :: .code r6 :: .inLoop l0 :: .inBlock 0 :: K) ⟨[(0, x0), (3, x3), (4, x4)], 25, m⟩ := den_flat hf (l := [r5, i1, k1, r6]) (by kernel_rfl) _ _
theorem r5_eq (K : List Item) (s : St) : den prog ann 22 (.code r5 :: K) s = mreg prog ann 22 (some [0, 3, 4]) [] none [] [
    ⟨some 12, none, .v fun s => some (s.get 4)⟩,
    ⟨some 13, none, .v fun s => some (s.get 0)⟩,
    ⟨some 14, none, .v fun s => lenSl (s.get 13)⟩,
    ⟨some 15, none, .v fun s => binA prog .lss 3 (s.get 12) (s.get 14)⟩] K s := (den_reg hf _ K s).trans (by kernel_rfl)
theorem i1_eq (K : List Item) (s : St) : den prog ann 22 (.code i1 :: K) s = ifV prog ann 22 15 i1t i1e K s (s.get 15) := den_if hf (by kernel_rfl) K s
theorem i1t_eq (K : List Item) (s : St) : den prog ann 22 (.code i1t :: K) s = den prog ann 22 (K) s := den_flat hf (l := []) (by kernel_rfl) K s
theorem i1e_eq (K : List Item) (s : St) : den prog ann 22 (.code i1e :: K) s = den prog ann 22 (.code (.exit 0) :: K) s := den_flat hf (l := [(.exit 0)]) (by kernel_rfl) K s
theorem k1_eq (K : List Item) (s : St) : den prog ann 22 (.code k1 :: K) s = den prog ann 22 (.code r7 :: .inBlock 1 :: K) s := den_blk hf (b := blkOf k1) (l := [r7]) (by kernel_rfl) (by kernel_rfl) K s
theorem r7_eq (K : List Item) (s : St) : den prog ann 22 (.code r7 :: K) s = mreg prog ann 22 none [] none [] [
    ⟨some 18, none, .v fun s => some (s.get 3)⟩,
    ⟨some 19, none, .v fun s => some (s.get 0)⟩,
    ⟨some 20, none, .v fun s => some (s.get 4)⟩,
    ⟨some 21, none, .v fun s => idxSl 1 (s.get 19) (s.get 20)⟩,
    ⟨some 22, none, .v fun s => loadF false 1 (s.get 21)⟩,
    ⟨some 23, none, .v fun s => foldA min2A (s.get 18) [(s.get 22)]⟩,
    ⟨some 3, none, .v fun s => some (s.get 23)⟩] K s := (den_reg hf _ K s).trans (by kernel_rfl)
theorem r6_eq (K : List Item) (s : St) : den prog ann 22 (.code r6 :: K) s = mreg prog ann 22 (some [0, 3, 4]) [] none [] [
    ⟨some 16, none, .v fun s => some (s.get 4)⟩,
    ⟨some 17, none, .v fun s => binA prog .add 3 (s.get 16) (.int .i64 1)⟩,
    ⟨some 4, none, .v fun s => some (s.get 17)⟩] K s := (den_reg hf _ K s).trans (by kernel_rfl)
theorem r8_eq (K : List Item) (s : St) : den prog ann 22 (.code r8 :: K) s = mreg prog ann 22 (some [3]) [] none [] [
    ⟨some 24, none, .v fun s => some (s.get 3)⟩,
    ⟨some 2, none, .v fun s => some (s.get 24)⟩] K s := (den_reg hf _ K s).trans (by kernel_rfl)
theorem ret_eq (K : List Item) (s : St) : den prog ann 22 (.code .ret :: K) s = finM true [fun s => some (s.get 2)] s := (den_ret hf K s).trans (by kernel_rfl)
theorem nil_eq (s : St) : den prog ann 22 [] s = finM true [fun s => some (s.get 2)] s := (den_nil hf s).trans (by kernel_rfl)
theorem inBlock_eq (id : Nat) (K : List Item) (s : St) : den prog ann 22 (.inBlock id :: K) s = den prog ann 22 K s := den_inBlock hf id K s
theorem exit_eq (id : Nat) (K : List Item) (s : St) : den prog ann 22 (.code (.exit id) :: K) s = exitV prog ann 22 (exitTo id K) s := den_exitV hf id K s
theorem call_eq (v0 : AV) (m : Mem) (h : closedL [v0] = true) : denC prog ann 22 [v0] m = (den prog ann 22 [.code b] ⟨[(0, v0)], 25, Mem.empty⟩).bind fun r => some (r.1, m) := (denC_pure hf (b := b) (by kernel_rfl) (by kernel_rfl) (by kernel_rfl) h m).trans (by kernel_rfl)
theorem pure_eq : (ann 22).pure = true := by kernel_rfl
attribute [simp] b_eq r0_eq r1_eq i0_eq i0t_eq i0e_eq r3_eq r4_eq k0_eq l0_eq r5_eq i1_eq i1t_eq i1e_eq k1_eq r7_eq r6_eq r8_eq ret_eq nil_eq inBlock_eq exit_eq pure_eq
end slices_Min_int

namespace strap_Even
/-- pommel/strap.Even -/
noncomputable def b : Code := (Tryd.f10.body).getD .skip
theorem hf : prog.funcs[10]? = some Tryd.f10 := by kernel_rfl
noncomputable def r0 : Code := findReg b 0
noncomputable def r1 : Code := findReg b 1
noncomputable def r2 : Code := findReg b 2
noncomputable def i0 : Code := findCond b 0
noncomputable def i0t : Code := thenOf i0
noncomputable def i0e : Code := elseOf i0
noncomputable def r3 : Code := findReg b 3
noncomputable def r4 : Code := findReg b 4
noncomputable def r5 : Code := findReg b 5
noncomputable def i1 : Code := findCond b 1
noncomputable def i1t : Code := thenOf i1
noncomputable def i1e : Code := elseOf i1
noncomputable def r6 : Code := findReg b 6
noncomputable def r7 : Code := findReg b 7
theorem b_eq (K : List Item) (s : St) : den prog ann 10 (.code b :: K) s = den prog ann 10 (.code r0 :: .code r1 :: .code r2 :: .code i0 :: .code r4 :: .code r5 :: .code i1 :: .code r7 :: .code .ret :: K) s := den_flat hf (l := [r0, r1, r2, i0, r4, r5, i1, r7, .ret]) (by kernel_rfl) K s
theorem r0_eq (K : List Item) (s : St) : den prog ann 10 (.code r0 :: K) s = mreg prog ann 10 none [] none [] [
    ⟨some 4, none, .v fun s => some (.int .i64 0)⟩,
    ⟨some 5, none, .v fun s => some (.int .i64 0)⟩] K s := (den_reg hf _ K s).trans (by kernel_rfl)
theorem r1_eq (K : List Item) (s : St) : den prog ann 10 (.code r1 :: K) s = mreg prog ann 10 none [] none [] [
    ⟨some 8, none, .v fun s => some (s.get 0)⟩,
    ⟨some 9, none, .v fun s => some (s.get 1)⟩,
    ⟨some 10, none, .c 0 (fun s => (.fn 14 [] [])) fun s => [(s.get 8), (s.get 9)]⟩,
    ⟨some 6, none, .v fun s => some (s.get 10)⟩] K s := (den_reg hf _ K s).trans (by kernel_rfl)
theorem r2_eq (K : List Item) (s : St) : den prog ann 10 (.code r2 :: K) s = mreg prog ann 10 none [] none [] [
    ⟨some 11, none, .v fun s => some (s.get 6)⟩,
    ⟨some 12, none, .v fun s => binA prog .neq 27 (s.get 11) (.int .i64 0)⟩] K s := (den_reg hf _ K s).trans (by kernel_rfl)
theorem i0_eq (K : List Item) (s : St) : den prog ann 10 (.code i0 :: K) s = ifV prog ann 10 12 i0t i0e K s (s.get 12) := den_if hf (by kernel_rfl) K s
theorem i0t_eq (K : List Item) (s : St) : den prog ann 10 (.code i0t :: K) s = den prog ann 10 (.code r3 :: .code .ret :: K) s := den_flat hf (l := [r3, .ret]) (by kernel_rfl) K s
theorem r3_eq (K : List Item) (s : St) : den prog ann 10 (.code r3 :: K) s = mreg prog ann 10 none [] none [] [
    ⟨some 13, none, .v fun s => some (s.get 6)⟩,
    ⟨some 4, none, .v fun s => some (.int .i64 0)⟩,
    ⟨some 5, none, .v fun s => some (s.get 13)⟩] K s := (den_reg hf _ K s).trans (by kernel_rfl)
theorem i0e_eq (K : List Item) (s : St) : den prog ann 10 (.code i0e :: K) s = den prog ann 10 (K) s := den_flat hf (l := []) (by kernel_rfl) K s
theorem r4_eq (K : List Item) (s : St) : den prog ann 10 (.code r4 :: K) s = mreg prog ann 10 none [] none [] [
    ⟨some 14, none, .v fun s => some (s.get 0)⟩,
    ⟨some 15, none, .v fun s => some (s.get 1)⟩,
    ⟨some 16, none, .c 0 (fun s => (.fn 21 [] [])) fun s => [(s.get 14), (s.get 15)]⟩,
    ⟨some 17, none, .v fun s => sliceSl 1 (s.get 16) (some (.int .i64 1)) none⟩,
    ⟨some 7, none, .v fun s => some (s.get 17)⟩] K s := (den_reg hf _ K s).trans (by kernel_rfl)
theorem r5_eq (K : List Item) (s : St) : den prog ann 10 (.code r5 :: K) s = mreg prog ann 10 none [] none [] [
    ⟨some 18, none, .v fun s => some (s.get 7)⟩,
    ⟨some 19, none, .c 0 (fun s => (.fn 22 [] [])) fun s => [(s.get 18)]⟩,
    ⟨some 20, none, .v fun s => some (s.get 7)⟩,
    ⟨some 21, none, .c 0 (fun s => (.fn 23 [] [])) fun s => [(s.get 20)]⟩,
    ⟨some 22, none, .v fun s => binA prog .neq 3 (s.get 19) (s.get 21)⟩] K s := (den_reg hf _ K s).trans (by kernel_rfl)
theorem i1_eq (K : List Item) (s : St) : den prog ann 10 (.code i1 :: K) s = ifV prog ann 10 22 i1t i1e K s (s.get 22) := den_if hf (by kernel_rfl) K s
theorem i1t_eq (K : List Item) (s : St) : den prog ann 10 (.code i1t :: K) s = den prog ann 10 (.code r6 :: .code .ret :: K) s := den_flat hf (l := [r6, .ret]) (by kernel_rfl) K s
theorem r6_eq (K : List Item) (s : St) : den prog ann 10 (.code r6 :: K) s = mreg prog ann 10 none [] none [] [
    ⟨some 4, none, .v fun s => some (.int .i64 0)⟩,
    ⟨some 5, none, .v fun s => some (.int .i64 5)⟩] K s := (den_reg hf _ K s).trans (by kernel_rfl)
theorem i1e_eq (K : List Item) (s : St) : den prog ann 10 (.code i1e :: K) s = den prog ann 10 (K) s := den_flat hf (l := []) (by kernel_rfl) K s
theorem r7_eq (K : List Item) (s : St) : den prog ann 10 (.code r7 :: K) s = mreg prog ann 10 none [] none [] [
    ⟨some 23, none, .v fun s => some (s.get 7)⟩,
    ⟨some 24, none, .v fun s => idxSl 1 (s.get 23) (.int .i64 0)⟩,
    ⟨some 25, none, .v fun s => loadF false 1 (s.get 24)⟩,
    ⟨some 4, none, .v fun s => some (s.get 25)⟩,
    ⟨some 5, none, .v fun s => some (.int .i64 0)⟩] K s := (den_reg hf _ K s).trans (by kernel_rfl)
theorem ret_eq (K : List Item) (s : St) : den prog ann 10 (.code .ret :: K) s = finM true [fun s => some (s.get 4), fun s => some (s.get 5)] s := (den_ret hf K s).trans (by kernel_rfl)
theorem nil_eq (s : St) : den prog ann 10 [] s = finM true [fun s => some (s.get 4), fun s => some (s.get 5)] s := (den_nil hf s).trans (by kernel_rfl)
theorem inBlock_eq (id : Nat) (K : List Item) (s : St) : den prog ann 10 (.inBlock id :: K) s = den prog ann 10 K s := den_inBlock hf id K s
theorem exit_eq (id : Nat) (K : List Item) (s : St) : den prog ann 10 (.code (.exit id) :: K) s = exitV prog ann 10 (exitTo id K) s := den_exitV hf id K s
theorem call_eq (v0 v1 : AV) (m : Mem) (h : closedL [v0, v1] = true) : denC prog ann 10 [v0, v1] m = (den prog ann 10 [.code b] ⟨[(0, v0), (1, v1)], 26, Mem.empty⟩).bind fun r => some (r.1, m) := (denC_pure hf (b := b) (by kernel_rfl) (by kernel_rfl) (by kernel_rfl) h m).trans (by kernel_rfl)
theorem pure_eq : (ann 10).pure = true := by kernel_rfl
attribute [simp] b_eq r0_eq r1_eq r2_eq i0_eq i0t_eq r3_eq i0e_eq r4_eq r5_eq i1_eq i1t_eq r6_eq i1e_eq r7_eq ret_eq nil_eq inBlock_eq exit_eq pure_eq
end strap_Even

namespace strap_Multipliers
/-- pommel/strap.Multipliers -/
noncomputable def b : Code := (Tryd.f8.body).getD .skip
theorem hf : prog.funcs[8]? = some Tryd.f8 := by kernel_rfl
noncomputable def r0 : Code := findReg b 0
noncomputable def r1 : Code := findReg b 1
noncomputable def r2 : Code := findReg b 2
noncomputable def i0 : Code := findCond b 0
noncomputable def i0t : Code := thenOf i0
noncomputable def i0e : Code := elseOf i0
noncomputable def r3 : Code := findReg b 3
noncomputable def r4 : Code := findReg b 4
noncomputable def r5 : Code := findReg b 5
noncomputable def k0 : Code := findBlk b 0
noncomputable def l0 : Code := loopOf k0
noncomputable def L0 (x0 x1 x7 x18 x19 x20 : AV) (m : Mem) (K : List Item) : Option Res := den prog ann 8 (.code l0 :: .inLoop l0 :: .inBlock 0 :: K) ⟨[(0, x0), (1, x1), (7, x7), (18, x18), (19, x19), (20, x20)], 42, m⟩
noncomputable def r6 : Code := findReg b 6
noncomputable def i1 : Code := findCond b 1
noncomputable def i1t : Code := thenOf i1
noncomputable def i1e : Code := elseOf i1
noncomputable def k1 : Code := findBlk b 1
noncomputable def r7 : Code := findReg b 7
noncomputable def r8 : Code := findReg b 8
noncomputable def k2 : Code := findBlk b 2
noncomputable def l2 : Code := loopOf k2
noncomputable def L2 (x0 x1 x7 x9 x18 x19 x20 x24 x25 : AV) (m : Mem) (K : List Item) : Option Res := den prog ann 8 (.code l2 :: .inLoop l2 :: .inBlock 2 :: K) ⟨[(0, x0), (1, x1), (7, x7), (9, x9), (18, x18), (19, x19), (20, x20), (24, x24), (25, x25)], 42, m⟩
noncomputable def r9 : Code := findReg b 9
noncomputable def i2 : Code := findCond b 2
noncomputable def i2t : Code := thenOf i2
noncomputable def i2e : Code := elseOf i2
noncomputable def k3 : Code := findBlk b 3
noncomputable def r10 : Code := findReg b 10
noncomputable def r11 : Code := findReg b 11
noncomputable def i3 : Code := findCond b 3
noncomputable def i3t : Code := thenOf i3
noncomputable def i3e : Code := elseOf i3
noncomputable def r12 : Code := findReg b 12
noncomputable def r13 : Code := findReg b 13
noncomputable def r14 : Code := findReg b 14
noncomputable def r15 : Code := findReg b 15
theorem b_eq (K : List Item) (s : St) : den prog ann 8 (.code b :: K) s = den prog ann 8 (.code r0 :: .code r1 :: .code r2 :: .code i0 :: .code r4 :: .code r5 :: .code k0 :: .code r15 :: .code .ret :: K) s := den_flat hf (l := [r0, r1, r2, i0, r4, r5, k0, r15, .ret]) (by kernel_rfl) K s
theorem r0_eq (K : List Item) (s : St) : den prog ann 8 (.code r0 :: K) s = mreg prog ann 8 none [] none [] [
    ⟨some 4, none, .v fun s => some (.nils)⟩,
    ⟨some 5, none, .v fun s => some (.int .i64 0)⟩] K s := (den_reg hf _ K s).trans (by kernel_rfl)
theorem r1_eq (K : List Item) (s : St) : den prog ann 8 (.code r1 :: K) s = mreg prog ann 8 none [] none [] [
    ⟨some 11, none, .v fun s => some (s.get 0)⟩,
    ⟨some 12, none, .v fun s => some (s.get 1)⟩,
    ⟨some 13, none, .c 0 (fun s => (.fn 14 [] [])) fun s => [(s.get 11), (s.get 12)]⟩,
    ⟨some 6, none, .v fun s => some (s.get 13)⟩] K s := (den_reg hf _ K s).trans (by kernel_rfl)
theorem r2_eq (K : List Item) (s : St) : den prog ann 8 (.code r2 :: K) s = mreg prog ann 8 none [] none [] [
    ⟨some 14, none, .v fun s => some (s.get 6)⟩,
    ⟨some 15, none, .v fun s => binA prog .neq 27 (s.get 14) (.int .i64 0)⟩] K s := (den_reg hf _ K s).trans (by kernel_rfl)
theorem i0_eq (K : List Item) (s : St) : den prog ann 8 (.code i0 :: K) s = ifV prog ann 8 15 i0t i0e K s (s.get 15) := den_if hf (by kernel_rfl) K s
theorem i0t_eq (K : List Item) (s : St) : den prog ann 8 (.code i0t :: K) s = den prog ann 8 (.code r3 :: .code .ret :: K) s := den_flat hf (l := [r3, .ret]) (by kernel_rfl) K s
theorem r3_eq (K : List Item) (s : St) : den prog ann 8 (.code r3 :: K) s = mreg prog ann 8 none [] none [] [
    ⟨some 16, none, .v fun s => some (s.get 6)⟩,
    ⟨some 4, none, .v fun s => some (.nils)⟩,
    ⟨some 5, none, .v fun s => some (s.get 16)⟩] K s := (den_reg hf _ K s).trans (by kernel_rfl)
theorem i0e_eq (K : List Item) (s : St) : den prog ann 8 (.code i0e :: K) s = den prog ann 8 (K) s := den_flat hf (l := []) (by kernel_rfl) K s
theorem r4_eq (K : List Item) (s : St) : den prog ann 8 (.code r4 :: K) s = mreg prog ann 8 none [] none [] [
    ⟨some 7, none, .v fun s => some (.nils)⟩] K s := (den_reg hf _ K s).trans (by kernel_rfl)
theorem r5_eq (K : List Item) (s : St) : den prog ann 8 (.code r5 :: K) s = mreg prog ann 8 none [] none [] [
    ⟨some 17, none, .v fun s => some (s.get 0)⟩,
    ⟨some 18, none, .c 0 (fun s => (.fn 15 [] [])) fun s => [(s.get 17)]⟩,
    ⟨some 19, none, .v fun s => lenSl (s.get 18)⟩,
    ⟨some 20, none, .v fun s => some (.int .i64 0)⟩] K s := (den_reg hf _ K s).trans (by kernel_rfl)
theorem k0_eq (K : List Item) (t : List (Nat × AV)) (m : Mem) : den prog ann 8 (.code k0 :: K) ⟨t, 42, m⟩ = L0 (get t 0) (get t 1) (get t 7) (get t 18) (get t 19) (get t 20) m K := den_loop_enter hf (b := l0) (id := 6) (l := [0, 1, 7, 18, 19, 20]) (by kernel_rfl) (by kernel_rfl) (by kernel_rfl) K _
theorem l0_eq (K : List Item) (t : List (Nat × AV)) (m : Mem) : den prog ann 8 (.inLoop l0 :: .inBlock 0 :: K) ⟨t, 42, m⟩ = L0 (get t 0) (get t 1) (get t 7) (get t 18) (get t 19) (get t 20) m K := den_loop_again hf (id := 6) (l := [0, 1, 7, 18, 19, 20]) (by kernel_rfl) (by kernel_rfl) (.inBlock 0 :: K) _
theorem L0_eq (x0 x1 x7 x18 x19 x20 : AV) (m : Mem) (K : List Item) : L0 x0 x1 x7 x18 x19 x20 m K = den prog ann 8 (.code r6 :: .code i1 :: .code k1 :: .code r14 :: .inLoop l0 :: .inBlock 0 :: K) ⟨[(0, x0), (1, x1), (7, x7), (18, x18), (19, x19), (20, x20)], 42, m⟩ := den_flat hf (l := [r6, i1, k1, r14]) (by kernel_rfl) _ _
theorem r6_eq (K : List Item) (s : St) : den prog ann 8 (.code r6 :: K) s = mreg prog ann 8 (some [0, 1, 7, 18, 19, 20]) [] none [] [
    ⟨some 21, none, .v fun s => binA prog .lss 3 (s.get 20) (s.get 19)⟩] K s := (den_reg hf _ K s).trans (by kernel_rfl)
theorem i1_eq (K : List Item) (s : St) : den prog ann 8 (.code i1 :: K) s = ifV prog ann 8 21 i1t i1e K s (s.get 21) := den_if hf (by kernel_rfl) K s
theorem i1t_eq (K : List Item) (s : St) : den prog ann 8 (.code i1t :: K) s = den prog ann 8 (K) s := den_flat hf (l := []) (by kernel_rfl) K s
theorem i1e_eq (K : List Item) (s : St) : den prog ann 8 (.code i1e :: K) s = den prog ann 8 (.code (.exit 0) :: K) s := den_flat hf (l := [(.exit 0)]) (by kernel_rfl) K s
theorem k1_eq (K : List Item) (s : St) : den prog ann 8 (.code k1 :: K) s = den prog ann 8 (.code r7 :: .code r8 :: .code k2 :: .inBlock 1 :: K) s := den_blk hf (b := blkOf k1) (l := [r7, r8, k2]) (by kernel_rfl) (by kernel_rfl) K s
theorem r7_eq (K : List Item) (s : St) : den prog ann 8 (.code r7 :: K) s = mreg prog ann 8 none [] none [] [
    ⟨some 22, none, .v fun s => idxSl 1 (s.get 18) (s.get 20)⟩,
    ⟨some 23, none, .v fun s => loadF false 1 (s.get 22)⟩,
    ⟨some 9, none, .v fun s => some (s.get 23)⟩] K s := (den_reg hf _ K s).trans (by kernel_rfl)
theorem r8_eq (K : List Item) (s : St) : den prog ann 8 (.code r8 :: K) s = mreg prog ann 8 none [] none [] [
    ⟨some 24, none, .v fun s => some (s.get 0)⟩,
    ⟨some 25, none, .v fun s => some (.int .i64 0)⟩] K s := (den_reg hf _ K s).trans (by kernel_rfl)
theorem k2_eq (K : List Item) (t : List (Nat × AV)) (m : Mem) : den prog ann 8 (.code k2 :: K) ⟨t, 42, m⟩ = L2 (get t 0) (get t 1) (get t 7) (get t 9) (get t 18) (get t 19) (get t 20) (get t 24) (get t 25) m K := den_loop_enter hf (b := l2) (id := 9) (l := [0, 1, 7, 9, 18, 19, 20, 24, 25]) (by kernel_rfl) (by kernel_rfl) (by kernel_rfl) K _
theorem l2_eq (K : List Item) (t : List (Nat × AV)) (m : Mem) : den prog ann 8 (.inLoop l2 :: .inBlock 2 :: K) ⟨t, 42, m⟩ = L2 (get t 0) (get t 1) (get t 7) (get t 9) (get t 18) (get t 19) (get t 20) (get t 24) (get t 25) m K := den_loop_again hf (id := 9) (l := [0, 1, 7, 9, 18, 19, 20, 24, 25]) (by kernel_rfl) (by kernel_rfl) (.inBlock 2 :: K) _
theorem L2_eq (x0 x1 x7 x9 x18 x19 x20 x24 x25 : AV) (m : Mem) (K : List Item) : L2 x0 x1 x7 x9 x18 x19 x20 x24 x25 m K = den prog ann 8 (.code r9 :: .code i2 :: .code k3 :: .code r13 :: .inLoop l2 :: .inBlock 2 :: K) ⟨[(0, x0), (1, x1), (7, x7), (9, x9), (18, x18), (19, x19), (20, x20), (24, x24), (25, x25)], 42, m⟩ := den_flat hf (l := [r9, i2, k3, r13]) (by kernel_rfl) _ _
theorem r9_eq (K : List Item) (s : St) : den prog ann 8 (.code r9 :: K) s = mreg prog ann 8 (some [0, 1, 7, 9, 18, 19, 20, 24, 25]) [] none [] [
    ⟨some 26, none, .v fun s => binA prog .lss 3 (s.get 25) (s.get 24)⟩] K s := (den_reg hf _ K s).trans (by kernel_rfl)
theorem i2_eq (K : List Item) (s : St) : den prog ann 8 (.code i2 :: K) s = ifV prog ann 8 26 i2t i2e K s (s.get 26) := den_if hf (by kernel_rfl) K s
theorem i2t_eq (K : List Item) (s : St) : den prog ann 8 (.code i2t :: K) s = den prog ann 8 (K) s := den_flat hf (l := []) (by kernel_rfl) K s
theorem i2e_eq (K : List Item) (s : St) : den prog ann 8 (.code i2e :: K) s = den prog ann 8 (.code (.exit 2) :: K) s := den_flat hf (l := [(.exit 2)]) (by kernel_rfl) K s
theorem k3_eq (K : List Item) (s : St) : den prog ann 8 (.code k3 :: K) s = den prog ann 8 (.code r10 :: .code r11 :: .code i3 :: .inBlock 3 :: K) s := den_blk hf (b := blkOf k3) (l := [r10, r11, i3]) (by kernel_rfl) (by kernel_rfl) K s
theorem r10_eq (K : List Item) (s : St) : den prog ann 8 (.code r10 :: K) s = mreg prog ann 8 none [] none [] [
    ⟨some 27, none, .v fun s => some (s.get 25)⟩,
    ⟨some 10, none, .v fun s => some (s.get 27)⟩] K s := (den_reg hf _ K s).trans (by kernel_rfl)
theorem r11_eq (K : List Item) (s : St) : den prog ann 8 (.code r11 :: K) s = mreg prog ann 8 none [] none [] [
    ⟨some 28, none, .v fun s => some (s.get 0)⟩,
    ⟨some 29, none, .v fun s => some (s.get 1)⟩,
    ⟨some 30, none, .v fun s => some (s.get 9)⟩,
    ⟨some 31, none, .v fun s => some (s.get 10)⟩,
    ⟨some 32, none, .c 0 (fun s => (.fn 17 [] [])) fun s => [(s.get 28), (s.get 29), (s.get 30), (s.get 31)]⟩,
    ⟨some 33, none, .v fun s => some (s.get 1)⟩,
    ⟨some 34, none, .c 0 (fun s => (.fn 16 [] [])) fun s => [(s.get 32), (s.get 33)]⟩] K s := (den_reg hf _ K s).trans (by kernel_rfl)
theorem i3_eq (K : List Item) (s : St) : den prog ann 8 (.code i3 :: K) s = ifV prog ann 8 34 i3t i3e K s (s.get 34) := den_if hf (by kernel_rfl) K s
theorem i3t_eq (K : List Item) (s : St) : den prog ann 8 (.code i3t :: K) s = den prog ann 8 (.code r12 :: .code (.exit 2) :: K) s := den_flat hf (l := [r12, (.exit 2)]) (by kernel_rfl) K s
theorem r12_eq (K : List Item) (s : St) : den prog ann 8 (.code r12 :: K) s = mreg prog ann 8 none [] none [] [
    ⟨some 35, none, .v fun s => some (s.get 7)⟩,
    ⟨some 36, none, .v fun s => some (s.get 9)⟩,
    ⟨some 37, none, .v fun s => bslF 1 (bslA 1 1 [.int .i64 0] [(0, (s.get 36))])⟩,
    ⟨some 38, none, .w false none fun s => appendA 1 8 s.m (s.get 35) (s.get 37)⟩,
    ⟨some 7, none, .v fun s => some (s.get 38)⟩] K s := (den_reg hf _ K s).trans (by kernel_rfl)
theorem i3e_eq (K : List Item) (s : St) : den prog ann 8 (.code i3e :: K) s = den prog ann 8 (K) s := den_flat hf (l := []) (by kernel_rfl) K s
theorem r13_eq (K : List Item) (s : St) : den prog ann 8 (.code r13 :: K) s = mreg prog ann 8 (some [0, 1, 7, 9, 18, 19, 20, 24, 25]) [] none [] [
    ⟨some 39, none, .v fun s => binA prog .add 3 (s.get 25) (.int .i64 1)⟩,
    ⟨some 25, none, .v fun s => some (s.get 39)⟩] K s := (den_reg hf _ K s).trans (by kernel_rfl)
theorem r14_eq (K : List Item) (s : St) : den prog ann 8 (.code r14 :: K) s = mreg prog ann 8 (some [0, 1, 7, 18, 19, 20]) [] none [] [
    ⟨some 40, none, .v fun s => binA prog .add 3 (s.get 20) (.int .i64 1)⟩,
    ⟨some 20, none, .v fun s => some (s.get 40)⟩] K s := (den_reg hf _ K s).trans (by kernel_rfl)
theorem r15_eq (K : List Item) (s : St) : den prog ann 8 (.code r15 :: K) s = mreg prog ann 8 (some [7]) [] none [] [
    ⟨some 41, none, .v fun s => some (s.get 7)⟩,
    ⟨some 4, none, .v fun s => some (s.get 41)⟩,
    ⟨some 5, none, .v fun s => some (.int .i64 0)⟩] K s := (den_reg hf _ K s).trans (by kernel_rfl)
theorem ret_eq (K : List Item) (s : St) : den prog ann 8 (.code .ret :: K) s = finM true [fun s => some (s.get 4), fun s => some (s.get 5)] s := (den_ret hf K s).trans (by kernel_rfl)
theorem nil_eq (s : St) : den prog ann 8 [] s = finM true [fun s => some (s.get 4), fun s => some (s.get 5)] s := (den_nil hf s).trans (by kernel_rfl)
theorem inBlock_eq (id : Nat) (K : List Item) (s : St) : den prog ann 8 (.inBlock id :: K) s = den prog ann 8 K s := den_inBlock hf id K s
theorem exit_eq (id : Nat) (K : List Item) (s : St) : den prog ann 8 (.code (.exit id) :: K) s = exitV prog ann 8 (exitTo id K) s := den_exitV hf id K s
theorem call_eq (v0 v1 : AV) (m : Mem) (h : closedL [v0, v1] = true) : denC prog ann 8 [v0, v1] m = (den prog ann 8 [.code b] ⟨[(0, v0), (1, v1)], 42, Mem.empty⟩).bind fun r => some (r.1, m) := (denC_pure hf (b := b) (by kernel_rfl) (by kernel_rfl) (by kernel_rfl) h m).trans (by kernel_rfl)
theorem pure_eq : (ann 8).pure = true := by kernel_rfl
attribute [simp] b_eq r0_eq r1_eq r2_eq i0_eq i0t_eq r3_eq i0e_eq r4_eq r5_eq k0_eq l0_eq r6_eq i1_eq i1t_eq i1e_eq k1_eq r7_eq r8_eq k2_eq l2_eq r9_eq i2_eq i2t_eq i2e_eq k3_eq r10_eq r11_eq i3_eq i3t_eq r12_eq i3e_eq r13_eq r14_eq r15_eq ret_eq nil_eq inBlock_eq exit_eq pure_eq
end strap_Multipliers

namespace strap_differences
/-- pommel/strap.differences -/
noncomputable def b : Code := (Tryd.f21.body).getD .skip
theorem hf : prog.funcs[21]? = some Tryd.f21 := by kernel_rfl
noncomputable def r0 : Code := findReg b 0
noncomputable def r1 : Code := findReg b 1
noncomputable def r2 : Code := findReg b 2
noncomputable def k0 : Code := findBlk b 0
noncomputable def l0 : Code := loopOf k0
noncomputable def L0 (x0 x1 x5 x12 x13 x14 : AV) (m : Mem) (K : List Item) : Option Res := den prog ann 21 (.code l0 :: .inLoop l0 :: .inBlock 0 :: K) ⟨[(0, x0), (1, x1), (5, x5), (12, x12), (13, x13), (14, x14)], 42, m⟩
noncomputable def r3 : Code := findReg b 3
noncomputable def i0 : Code := findCond b 0
noncomputable def i0t : Code := thenOf i0
noncomputable def i0e : Code := elseOf i0
noncomputable def k1 : Code := findBlk b 1
noncomputable def r4 : Code := findReg b 4
noncomputable def r5 : Code := findReg b 5
noncomputable def k2 : Code := findBlk b 2
noncomputable def l2 : Code := loopOf k2
noncomputable def L2 (x0 x1 x5 x7 x12 x13 x14 x18 x19 x20 : AV) (m : Mem) (K : List Item) : Option Res := den prog ann 21 (.code l2 :: .inLoop l2 :: .inBlock 2 :: K) ⟨[(0, x0), (1, x1), (5, x5), (7, x7), (12, x12), (13, x13), (14, x14), (18, x18), (19, x19), (20, x20)], 42, m⟩
noncomputable def r6 : Code := findReg b 6
noncomputable def i1 : Code := findCond b 1
noncomputable def i1t : Code := thenOf i1
noncomputable def i1e : Code := elseOf i1
noncomputable def k3 : Code := findBlk b 3
noncomputable def r7 : Code := findReg b 7
noncomputable def r8 : Code := findReg b 8
noncomputable def i2 : Code := findCond b 2
noncomputable def i2t : Code := thenOf i2
noncomputable def i2e : Code := elseOf i2
noncomputable def r9 : Code := findReg b 9
noncomputable def r10 : Code := findReg b 10
noncomputable def r11 : Code := findReg b 11
noncomputable def r12 : Code := findReg b 12
theorem b_eq (K : List Item) (s : St) : den prog ann 21 (.code b :: K) s = den prog ann 21 (.code r0 :: .code r1 :: .code r2 :: .code k0 :: .code r12 :: .code .ret :: K) s := den_flat hf (l := [r0, r1, r2, k0, r12, .ret]) (by kernel_rfl) K s
theorem r0_eq (K : List Item) (s : St) : den prog ann 21 (.code r0 :: K) s = mreg prog ann 21 none [] none [] [
    ⟨some 4, none, .v fun s => some (.nils)⟩] K s := (den_reg hf _ K s).trans (by kernel_rfl)
theorem r1_eq (K : List Item) (s : St) : den prog ann 21 (.code r1 :: K) s = mreg prog ann 21 none [] none [] [
    ⟨some 10, none, .v fun s => some (s.get 0)⟩,
    ⟨some 11, none, .w false none fun s => makeA 1 8 (.int .i64 0) s.m (s.get 10) (s.get 10)⟩,
    ⟨some 5, none, .v fun s => some (s.get 11)⟩] K s := (den_reg hf _ K s).trans (by kernel_rfl)
theorem r2_eq (K : List Item) (s : St) : den prog ann 21 (.code r2 :: K) s = mreg prog ann 21 none [] none [] [
    ⟨some 12, none, .v fun s => some (s.get 1)⟩,
    ⟨some 13, none, .v fun s => lenSl (s.get 12)⟩,
    ⟨some 14, none, .v fun s => some (.int .i64 0)⟩] K s := (den_reg hf _ K s).trans (by kernel_rfl)
theorem k0_eq (K : List Item) (t : List (Nat × AV)) (m : Mem) : den prog ann 21 (.code k0 :: K) ⟨t, 42, m⟩ = L0 (get t 0) (get t 1) (get t 5) (get t 12) (get t 13) (get t 14) m K := den_loop_enter hf (b := l0) (id := 3) (l := [0, 1, 5, 12, 13, 14]) (by kernel_rfl) (by kernel_rfl) (by kernel_rfl) K _
theorem l0_eq (K : List Item) (t : List (Nat × AV)) (m : Mem) : den prog ann 21 (.inLoop l0 :: .inBlock 0 :: K) ⟨t, 42, m⟩ = L0 (get t 0) (get t 1) (get t 5) (get t 12) (get t 13) (get t 14) m K := den_loop_again hf (id := 3) (l := [0, 1, 5, 12, 13, 14]) (by kernel_rfl) (by kernel_rfl) (.inBlock 0 :: K) _
theorem L0_eq (x0 x1 x5 x12 x13 x14 : AV) (m : Mem) (K : List Item) : L0 x0 x1 x5 x12 x13 x14 m K = den prog ann 21 (.code r3 :: .code i0 :: .code k1 :: .code r11 :: .inLoop l0 :: .inBlock 0 :: K) ⟨[(0, x0), (1, x1), (5, x5), (12, x12), (13, x13), (14, x14)], 42, m⟩ := den_flat hf (l := [r3, i0, k1, r11]) (by kernel_rfl) _ _
theorem r3_eq (K : List Item) (s : St) : den prog ann 21 (.code r3 :: K) s = mreg prog ann 21 (some [0, 1, 5, 12, 13, 14]) [] none [] [
    ⟨some 15, none, .v fun s => binA prog .lss 3 (s.get 14) (s.get 13)⟩] K s := (den_reg hf _ K s).trans (by kernel_rfl)
theorem i0_eq (K : List Item) (s : St) : den prog ann 21 (.code i0 :: K) s = ifV prog ann 21 15 i0t i0e K s (s.get 15) := den_if hf (by kernel_rfl) K s
theorem i0t_eq (K : List Item) (s : St) : den prog ann 21 (.code i0t :: K) s = den prog ann 21 (K) s := den_flat hf (l := []) (by kernel_rfl) K s
theorem i0e_eq (K : List Item) (s : St) : den prog ann 21 (.code i0e :: K) s = den prog ann 21 (.code (.exit 0) :: K) s := den_flat hf (l := [(.exit 0)]) (by kernel_rfl) K s
theorem k1_eq (K : List Item) (s : St) : den prog ann 21 (.code k1 :: K) s = den prog ann 21 (.code r4 :: .code r5 :: .code k2 :: .inBlock 1 :: K) s := den_blk hf (b := blkOf k1) (l := [r4, r5, k2]) (by kernel_rfl) (by kernel_rfl) K s
theorem r4_eq (K : List Item) (s : St) : den prog ann 21 (.code r4 :: K) s = mreg prog ann 21 none [] none [] [
    ⟨some 16, none, .v fun s => idxSl 1 (s.get 12) (s.get 14)⟩,
    ⟨some 17, none, .v fun s => loadF false 1 (s.get 16)⟩,
    ⟨some 7, none, .v fun s => some (s.get 17)⟩] K s := (den_reg hf _ K s).trans (by kernel_rfl)
theorem r5_eq (K : List Item) (s : St) : den prog ann 21 (.code r5 :: K) s = mreg prog ann 21 none [] none [] [
    ⟨some 18, none, .v fun s => some (s.get 1)⟩,
    ⟨some 19, none, .v fun s => lenSl (s.get 18)⟩,
    ⟨some 20, none, .v fun s => some (.int .i64 0)⟩] K s := (den_reg hf _ K s).trans (by kernel_rfl)
theorem k2_eq (K : List Item) (t : List (Nat × AV)) (m : Mem) : den prog ann 21 (.code k2 :: K) ⟨t, 42, m⟩ = L2 (get t 0) (get t 1) (get t 5) (get t 7) (get t 12) (get t 13) (get t 14) (get t 18) (get t 19) (get t 20) m K := den_loop_enter hf (b := l2) (id := 6) (l := [0, 1, 5, 7, 12, 13, 14, 18, 19, 20]) (by kernel_rfl) (by kernel_rfl) (by kernel_rfl) K _
theorem l2_eq (K : List Item) (t : List (Nat × AV)) (m : Mem) : den prog ann 21 (.inLoop l2 :: .inBlock 2 :: K) ⟨t, 42, m⟩ = L2 (get t 0) (get t 1) (get t 5) (get t 7) (get t 12) (get t 13) (get t 14) (get t 18) (get t 19) (get t 20) m K := den_loop_again hf (id := 6) (l := [0, 1, 5, 7, 12, 13, 14, 18, 19, 20]) (by kernel_rfl) (by kernel_rfl) (.inBlock 2 :: K) _
theorem L2_eq (x0 x1 x5 x7 x12 x13 x14 x18 x19 x20 : AV) (m : Mem) (K : List Item) : L2 x0 x1 x5 x7 x12 x13 x14 x18 x19 x20 m K = den prog ann 21 (.code r6 :: .code i1 :: .code k3 :: .code r10 :: .inLoop l2 :: .inBlock 2 :: K) ⟨[(0, x0), (1, x1), (5, x5), (7, x7), (12, x12), (13, x13), (14, x14), (18, x18), (19, x19), (20, x20)], 42, m⟩ := den_flat hf (l := [r6, i1, k3, r10]) (by kernel_rfl) _ _
theorem r6_eq (K : List Item) (s : St) : den prog ann 21 (.code r6 :: K) s = mreg prog ann 21 (some [0, 1, 5, 7, 12, 13, 14, 18, 19, 20]) [] none [] [
    ⟨some 21, none, .v fun s => binA prog .lss 3 (s.get 20) (s.get 19)⟩] K s := (den_reg hf _ K s).trans (by kernel_rfl)
theorem i1_eq (K : List Item) (s : St) : den prog ann 21 (.code i1 :: K) s = ifV prog ann 21 21 i1t i1e K s (s.get 21) := den_if hf (by kernel_rfl) K s
theorem i1t_eq (K : List Item) (s : St) : den prog ann 21 (.code i1t :: K) s = den prog ann 21 (K) s := den_flat hf (l := []) (by kernel_rfl) K s
theorem i1e_eq (K : List Item) (s : St) : den prog ann 21 (.code i1e :: K) s = den prog ann 21 (.code (.exit 2) :: K) s := den_flat hf (l := [(.exit 2)]) (by kernel_rfl) K s
theorem k3_eq (K : List Item) (s : St) : den prog ann 21 (.code k3 :: K) s = den prog ann 21 (.code r7 :: .code r8 :: .code i2 :: .inBlock 3 :: K) s := den_blk hf (b := blkOf k3) (l := [r7, r8, i2]) (by kernel_rfl) (by kernel_rfl) K s
theorem r7_eq (K : List Item) (s : St) : den prog ann 21 (.code r7 :: K) s = mreg prog ann 21 none [] none [] [
    ⟨some 22, none, .v fun s => idxSl 1 (s.get 18) (s.get 20)⟩,
    ⟨some 23, none, .v fun s => loadF false 1 (s.get 22)⟩,
    ⟨some 9, none, .v fun s => some (s.get 23)⟩] K s := (den_reg hf _ K s).trans (by kernel_rfl)
theorem r8_eq (K : List Item) (s : St) : den prog ann 21 (.code r8 :: K) s = mreg prog ann 21 none [] none [] [
    ⟨some 24, none, .v fun s => some (s.get 7)⟩,
    ⟨some 25, none, .v fun s => some (s.get 9)⟩,
    ⟨some 26, none, .v fun s => binA prog .neq 3 (s.get 24) (s.get 25)⟩] K s := (den_reg hf _ K s).trans (by kernel_rfl)
theorem i2_eq (K : List Item) (s : St) : den prog ann 21 (.code i2 :: K) s = ifV prog ann 21 26 i2t i2e K s (s.get 26) := den_if hf (by kernel_rfl) K s
theorem i2t_eq (K : List Item) (s : St) : den prog ann 21 (.code i2t :: K) s = den prog ann 21 (.code r9 :: K) s := den_flat hf (l := [r9]) (by kernel_rfl) K s
theorem r9_eq (K : List Item) (s : St) : den prog ann 21 (.code r9 :: K) s = mreg prog ann 21 none [] none [] [
    ⟨some 27, none, .v fun s => some (s.get 5)⟩,
    ⟨some 28, none, .v fun s => some (s.get 7)⟩,
    ⟨some 29, none, .v fun s => some (s.get 9)⟩,
    ⟨some 30, none, .v fun s => binA prog .sub 3 (s.get 28) (s.get 29)⟩,
    ⟨some 31, none, .v fun s => some (s.get 0)⟩,
    ⟨some 32, none, .v fun s => binA prog .add 3 (s.get 30) (s.get 31)⟩,
    ⟨some 33, none, .v fun s => some (s.get 0)⟩,
    ⟨some 34, none, .v fun s => binA prog .rem 3 (s.get 32) (s.get 33)⟩,
    ⟨some 35, none, .v fun s => idxSl 1 (s.get 27) (s.get 34)⟩,
    ⟨some 36, none, .v fun s => loadA false 1 s.m (s.get 35)⟩,
    ⟨some 37, none, .v fun s => binA prog .add 3 (s.get 36) (.int .i64 1)⟩,
    ⟨some 38, none, .v fun s => idxSl 1 (s.get 27) (s.get 34)⟩,
    ⟨none, none, .w false none fun s => stA false 1 s.m (s.get 38) (s.get 37)⟩] K s := (den_reg hf _ K s).trans (by kernel_rfl)
theorem i2e_eq (K : List Item) (s : St) : den prog ann 21 (.code i2e :: K) s = den prog ann 21 (K) s := den_flat hf (l := []) (by kernel_rfl) K s
theorem r10_eq (K : List Item) (s : St) : den prog ann 21 (.code r10 :: K) s = mreg prog ann 21 (some [0, 1, 5, 7, 12, 13, 14, 18, 19, 20]) [] none [] [
    ⟨some 39, none, .v fun s => binA prog .add 3 (s.get 20) (.int .i64 1)⟩,
    ⟨some 20, none, .v fun s => some (s.get 39)⟩] K s := (den_reg hf _ K s).trans (by kernel_rfl)
theorem r11_eq (K : List Item) (s : St) : den prog ann 21 (.code r11 :: K) s = mreg prog ann 21 (some [0, 1, 5, 12, 13, 14]) [] none [] [
    ⟨some 40, none, .v fun s => binA prog .add 3 (s.get 14) (.int .i64 1)⟩,
    ⟨some 14, none, .v fun s => some (s.get 40)⟩] K s := (den_reg hf _ K s).trans (by kernel_rfl)
theorem r12_eq (K : List Item) (s : St) : den prog ann 21 (.code r12 :: K) s = mreg prog ann 21 (some [5]) [] none [] [
    ⟨some 41, none, .v fun s => some (s.get 5)⟩,
    ⟨some 4, none, .v fun s => some (s.get 41)⟩] K s := (den_reg hf _ K s).trans (by kernel_rfl)
theorem ret_eq (K : List Item) (s : St) : den prog ann 21 (.code .ret :: K) s = finM true [fun s => some (s.get 4)] s := (den_ret hf K s).trans (by kernel_rfl)
theorem nil_eq (s : St) : den prog ann 21 [] s = finM true [fun s => some (s.get 4)] s := (den_nil hf s).trans (by kernel_rfl)
theorem inBlock_eq (id : Nat) (K : List Item) (s : St) : den prog ann 21 (.inBlock id :: K) s = den prog ann 21 K s := den_inBlock hf id K s
theorem exit_eq (id : Nat) (K : List Item) (s : St) : den prog ann 21 (.code (.exit id) :: K) s = exitV prog ann 21 (exitTo id K) s := den_exitV hf id K s
theorem call_eq (v0 v1 : AV) (m : Mem) (h : closedL [v0, v1] = true) : denC prog ann 21 [v0, v1] m = (den prog ann 21 [.code b] ⟨[(0, v0), (1, v1)], 42, Mem.empty⟩).bind fun r => some (r.1, m) := (denC_pure hf (b := b) (by kernel_rfl) (by kernel_rfl) (by kernel_rfl) h m).trans (by kernel_rfl)
theorem pure_eq : (ann 21).pure = true := by kernel_rfl
attribute [simp] b_eq r0_eq r1_eq r2_eq k0_eq l0_eq r3_eq i0_eq i0t_eq i0e_eq k1_eq r4_eq r5_eq k2_eq l2_eq r6_eq i1_eq i1t_eq i1e_eq k3_eq r7_eq r8_eq i2_eq i2t_eq r9_eq i2e_eq r10_eq r11_eq r12_eq ret_eq nil_eq inBlock_eq exit_eq pure_eq
end strap_differences

namespace strap_divisor
/-- pommel/strap.divisor -/
noncomputable def b : Code := (Tryd.f25.body).getD .skip
theorem hf : prog.funcs[25]? = some Tryd.f25 := by kernel_rfl
noncomputable def r0 : Code := findReg b 0
noncomputable def k0 : Code := findBlk b 0
noncomputable def l0 : Code := loopOf k0
noncomputable def L0 (x0 x1 : AV) (m : Mem) (K : List Item) : Option Res := den prog ann 25 (.code l0 :: .inLoop l0 :: .inBlock 0 :: K) ⟨[(0, x0), (1, x1)], 12, m⟩
noncomputable def r1 : Code := findReg b 1
noncomputable def i0 : Code := findCond b 0
noncomputable def i0t : Code := thenOf i0
noncomputable def i0e : Code := elseOf i0
noncomputable def k1 : Code := findBlk b 1
noncomputable def r2 : Code := findReg b 2
noncomputable def r3 : Code := findReg b 3
theorem b_eq (K : List Item) (s : St) : den prog ann 25 (.code b :: K) s = den prog ann 25 (.code r0 :: .code k0 :: .code r3 :: .code .ret :: K) s := den_flat hf (l := [r0, k0, r3, .ret]) (by kernel_rfl) K s
theorem r0_eq (K : List Item) (s : St) : den prog ann 25 (.code r0 :: K) s = mreg prog ann 25 none [] none [] [
    ⟨some 4, none, .v fun s => some (.int .i64 0)⟩] K s := (den_reg hf _ K s).trans (by kernel_rfl)
theorem k0_eq (K : List Item) (t : List (Nat × AV)) (m : Mem) : den prog ann 25 (.code k0 :: K) ⟨t, 12, m⟩ = L0 (get t 0) (get t 1) m K := den_loop_enter hf (b := l0) (id := 1) (l := [0, 1]) (by kernel_rfl) (by kernel_rfl) (by kernel_rfl) K _
theorem l0_eq (K : List Item) (t : List (Nat × AV)) (m : Mem) : den prog ann 25 (.inLoop l0 :: .inBlock 0 :: K) ⟨t, 12, m⟩ = L0 (get t 0) (get t 1) m K := den_loop_again hf (id := 1) (l := [0, 1]) (by kernel_rfl) (by kernel_rfl) (.inBlock 0 :: K) _
theorem L0_eq (x0 x1 : AV) (m : Mem) (K : List Item) : L0 x0 x1 m K = den prog ann 25 (.code r1 :: .code i0 :: .code k1 :: .inLoop l0 :: .inBlock 0 :: K) ⟨[(0, x0), (1, x1)], 12, m⟩ := den_flat hf (l := [r1, i0, k1]) (by kernel_rfl) _ _
theorem r1_eq (K : List Item) (s : St) : den prog ann 25 (.code r1 :: K) s = mreg prog ann 25 (some [0, 1]) [] none [] [
    ⟨some 5, none, .v fun s => some (s.get 1)⟩,
    ⟨some 6, none, .v fun s => binA prog .neq 3 (s.get 5) (.int .i64 0)⟩] K s := (den_reg hf _ K s).trans (by kernel_rfl)
theorem i0_eq (K : List Item) (s : St) : den prog ann 25 (.code i0 :: K) s = ifV prog ann 25 6 i0t i0e K s (s.get 6) := den_if hf (by kernel_rfl) K s
theorem i0t_eq (K : List Item) (s : St) : den prog ann 25 (.code i0t :: K) s = den prog ann 25 (K) s := den_flat hf (l := []) (by kernel_rfl) K s
theorem i0e_eq (K : List Item) (s : St) : den prog ann 25 (.code i0e :: K) s = den prog ann 25 (.code (.exit 0) :: K) s := den_flat hf (l := [(.exit 0)]) (by kernel_rfl) K s
theorem k1_eq (K : List Item) (s : St) : den prog ann 25 (.code k1 :: K) s = den prog ann 25 (.code r2 :: .inBlock 1 :: K) s := den_blk hf (b := blkOf k1) (l := [r2]) (by kernel_rfl) (by kernel_rfl) K s
theorem r2_draw : drawOk (fun g => (ann g).pure) (modeOf (ann 25) (idOf r2)) (frzOf (ann 25) (idOf r2)) (opsOf r2) = true := drawOk_of (an := [0, 0, 0, 6, 3, 31]) (by kernel_rfl) (by kernel_rfl)
theorem r2_eq (K : List Item) (s : St) : den prog ann 25 (.code r2 :: K) s = mreg prog ann 25 none [] (some 6) [] [
    ⟨some 7, none, .v fun s => some (s.get 1)⟩,
    ⟨some 8, none, .v fun s => some (s.get 0)⟩,
    ⟨some 9, none, .v fun s => some (s.get 1)⟩,
    ⟨some 10, none, .v fun s => binA prog .rem 3 (s.get 8) (s.get 9)⟩,
    ⟨some 0, none, .v fun s => some (s.get 7)⟩,
    ⟨some 1, none, .v fun s => some (s.get 10)⟩] K s := (den_regD hf r2_draw K s).trans (by kernel_rfl)
theorem r3_eq (K : List Item) (s : St) : den prog ann 25 (.code r3 :: K) s = mreg prog ann 25 (some [0]) [] none [] [
    ⟨some 11, none, .v fun s => some (s.get 0)⟩,
    ⟨some 4, none, .v fun s => some (s.get 11)⟩] K s := (den_reg hf _ K s).trans (by kernel_rfl)
theorem ret_eq (K : List Item) (s : St) : den prog ann 25 (.code .ret :: K) s = finM true [fun s => some (s.get 4)] s := (den_ret hf K s).trans (by kernel_rfl)
theorem nil_eq (s : St) : den prog ann 25 [] s = finM true [fun s => some (s.get 4)] s := (den_nil hf s).trans (by kernel_rfl)
theorem inBlock_eq (id : Nat) (K : List Item) (s : St) : den prog ann 25 (.inBlock id :: K) s = den prog ann 25 K s := den_inBlock hf id K s
theorem exit_eq (id : Nat) (K : List Item) (s : St) : den prog ann 25 (.code (.exit id) :: K) s = exitV prog ann 25 (exitTo id K) s := den_exitV hf id K s
theorem call_eq (v0 v1 : AV) (m : Mem) (h : closedL [v0, v1] = true) : denC prog ann 25 [v0, v1] m = (den prog ann 25 [.code b] ⟨[(0, v0), (1, v1)], 12, Mem.empty⟩).bind fun r => some (r.1, m) := (denC_pure hf (b := b) (by kernel_rfl) (by kernel_rfl) (by kernel_rfl) h m).trans (by kernel_rfl)
theorem pure_eq : (ann 25).pure = true := by kernel_rfl
attribute [simp] b_eq r0_eq k0_eq l0_eq r1_eq i0_eq i0t_eq i0e_eq k1_eq r2_eq r3_eq ret_eq nil_eq inBlock_eq exit_eq pure_eq
end strap_divisor

namespace strap_moved
/-- pommel/strap.moved -/
noncomputable def b : Code := (Tryd.f17.body).getD .skip
theorem hf : prog.funcs[17]? = some Tryd.f17 := by kernel_rfl
noncomputable def r0 : Code := findReg b 0
noncomputable def r1 : Code := findReg b 1
noncomputable def r2 : Code := findReg b 2
noncomputable def k0 : Code := findBlk b 0
noncomputable def l0 : Code := loopOf k0
noncomputable def L0 (x0 x1 x2 x3 x9 x13 x14 : AV) (m : Mem) (K : List Item) : Option Res := den prog ann 17 (.code l0 :: .inLoop l0 :: .inBlock 0 :: K) ⟨[(0, x0), (1, x1), (2, x2), (3, x3), (9, x9), (13, x13), (14, x14)], 41, m⟩
noncomputable def r3 : Code := findReg b 3
noncomputable def i0 : Code := findCond b 0
noncomputable def i0t : Code := thenOf i0
noncomputable def i0e : Code := elseOf i0
noncomputable def k1 : Code := findBlk b 1
noncomputable def r4 : Code := findReg b 4
noncomputable def r5 : Code := findReg b 5
noncomputable def r6 : Code := findReg b 6
noncomputable def k2 : Code := findBlk b 2
noncomputable def l2 : Code := loopOf k2
noncomputable def L2 (x0 x2 x3 x9 x20 x21 x22 : AV) (m : Mem) (K : List Item) : Option Res := den prog ann 17 (.code l2 :: .inLoop l2 :: .inBlock 2 :: K) ⟨[(0, x0), (2, x2), (3, x3), (9, x9), (20, x20), (21, x21), (22, x22)], 41, m⟩
noncomputable def r7 : Code := findReg b 7
noncomputable def i1 : Code := findCond b 1
noncomputable def i1t : Code := thenOf i1
noncomputable def i1e : Code := elseOf i1
noncomputable def k3 : Code := findBlk b 3
noncomputable def r8 : Code := findReg b 8
noncomputable def r9 : Code := findReg b 9
noncomputable def r10 : Code := findReg b 10
noncomputable def r11 : Code := findReg b 11
noncomputable def r12 : Code := findReg b 12
theorem b_eq (K : List Item) (s : St) : den prog ann 17 (.code b :: K) s = den prog ann 17 (.code r0 :: .code r1 :: .code r2 :: .code k0 :: .code r6 :: .code k2 :: .code r11 :: .code r12 :: .code .ret :: K) s := den_flat hf (l := [r0, r1, r2, k0, r6, k2, r11, r12, .ret]) (by kernel_rfl) K s
theorem r0_eq (K : List Item) (s : St) : den prog ann 17 (.code r0 :: K) s = mreg prog ann 17 none [] none [] [
    ⟨some 8, none, .v fun s => some (.nils)⟩] K s := (den_reg hf _ K s).trans (by kernel_rfl)
theorem r1_eq (K : List Item) (s : St) : den prog ann 17 (.code r1 :: K) s = mreg prog ann 17 none [] none [] [
    ⟨some 9, none, .v fun s => some (.nils)⟩] K s := (den_reg hf _ K s).trans (by kernel_rfl)
theorem r2_eq (K : List Item) (s : St) : den prog ann 17 (.code r2 :: K) s = mreg prog ann 17 none [] none [] [
    ⟨some 12, none, .v fun s => some (s.get 1)⟩,
    ⟨some 13, none, .v fun s => lenSl (s.get 12)⟩,
    ⟨some 14, none, .v fun s => some (.int .i64 0)⟩] K s := (den_reg hf _ K s).trans (by kernel_rfl)
theorem k0_eq (K : List Item) (t : List (Nat × AV)) (m : Mem) : den prog ann 17 (.code k0 :: K) ⟨t, 41, m⟩ = L0 (get t 0) (get t 1) (get t 2) (get t 3) (get t 9) (get t 13) (get t 14) m K := den_loop_enter hf (b := l0) (id := 3) (l := [0, 1, 2, 3, 9, 13, 14]) (by kernel_rfl) (by kernel_rfl) (by kernel_rfl) K _
theorem l0_eq (K : List Item) (t : List (Nat × AV)) (m : Mem) : den prog ann 17 (.inLoop l0 :: .inBlock 0 :: K) ⟨t, 41, m⟩ = L0 (get t 0) (get t 1) (get t 2) (get t 3) (get t 9) (get t 13) (get t 14) m K := den_loop_again hf (id := 3) (l := [0, 1, 2, 3, 9, 13, 14]) (by kernel_rfl) (by kernel_rfl) (.inBlock 0 :: K) _
theorem L0_eq (x0 x1 x2 x3 x9 x13 x14 : AV) (m : Mem) (K : List Item) : L0 x0 x1 x2 x3 x9 x13 x14 m K = den prog ann 17 (.code r3 :: .code i0 :: .code k1 :: .code r5 :: .inLoop l0 :: .inBlock 0 :: K) ⟨[(0, x0), (1, x1), (2, x2), (3, x3), (9, x9), (13, x13), (14, x14)], 41, m⟩ := den_flat hf (l := [r3, i0, k1, r5]) (by kernel_rfl) _ _
theorem r3_eq (K : List Item) (s : St) : den prog ann 17 (.code r3 :: K) s = mreg prog ann 17 (some [0, 1, 2, 3, 9, 13, 14]) [] none [] [
    ⟨some 15, none, .v fun s => binA prog .lss 3 (s.get 14) (s.get 13)⟩] K s := (den_reg hf _ K s).trans (by kernel_rfl)
theorem i0_eq (K : List Item) (s : St) : den prog ann 17 (.code i0 :: K) s = ifV prog ann 17 15 i0t i0e K s (s.get 15) := den_if hf (by kernel_rfl) K s
theorem i0t_eq (K : List Item) (s : St) : den prog ann 17 (.code i0t :: K) s = den prog ann 17 (K) s := den_flat hf (l := []) (by kernel_rfl) K s
theorem i0e_eq (K : List Item) (s : St) : den prog ann 17 (.code i0e :: K) s = den prog ann 17 (.code (.exit 0) :: K) s := den_flat hf (l := [(.exit 0)]) (by kernel_rfl) K s
theorem k1_eq (K : List Item) (s : St) : den prog ann 17 (.code k1 :: K) s = den prog ann 17 (.code r4 :: .inBlock 1 :: K) s := den_blk hf (b := blkOf k1) (l := [r4]) (by kernel_rfl) (by kernel_rfl) K s
theorem r4_eq (K : List Item) (s : St) : den prog ann 17 (.code r4 :: K) s = mreg prog ann 17 none [] none [] [
    ⟨some 16, none, .v fun s => some (s.get 9)⟩,
    ⟨some 17, none, .v fun s => bslF 1 (bslA 1 1 [.int .i64 0] [(0, (.int .i64 0))])⟩,
    ⟨some 18, none, .w false none fun s => appendA 1 8 s.m (s.get 16) (s.get 17)⟩,
    ⟨some 9, none, .v fun s => some (s.get 18)⟩] K s := (den_reg hf _ K s).trans (by kernel_rfl)
theorem r5_eq (K : List Item) (s : St) : den prog ann 17 (.code r5 :: K) s = mreg prog ann 17 (some [0, 1, 2, 3, 9, 13, 14]) [] none [] [
    ⟨some 19, none, .v fun s => binA prog .add 3 (s.get 14) (.int .i64 1)⟩,
    ⟨some 14, none, .v fun s => some (s.get 19)⟩] K s := (den_reg hf _ K s).trans (by kernel_rfl)
theorem r6_eq (K : List Item) (s : St) : den prog ann 17 (.code r6 :: K) s = mreg prog ann 17 (some [0, 1, 2, 3, 9]) [] none [] [
    ⟨some 20, none, .v fun s => some (s.get 1)⟩,
    ⟨some 21, none, .v fun s => lenSl (s.get 20)⟩,
    ⟨some 22, none, .v fun s => some (.int .i64 0)⟩] K s := (den_reg hf _ K s).trans (by kernel_rfl)
theorem k2_eq (K : List Item) (t : List (Nat × AV)) (m : Mem) : den prog ann 17 (.code k2 :: K) ⟨t, 41, m⟩ = L2 (get t 0) (get t 2) (get t 3) (get t 9) (get t 20) (get t 21) (get t 22) m K := den_loop_enter hf (b := l2) (id := 7) (l := [0, 2, 3, 9, 20, 21, 22]) (by kernel_rfl) (by kernel_rfl) (by kernel_rfl) K _
theorem l2_eq (K : List Item) (t : List (Nat × AV)) (m : Mem) : den prog ann 17 (.inLoop l2 :: .inBlock 2 :: K) ⟨t, 41, m⟩ = L2 (get t 0) (get t 2) (get t 3) (get t 9) (get t 20) (get t 21) (get t 22) m K := den_loop_again hf (id := 7) (l := [0, 2, 3, 9, 20, 21, 22]) (by kernel_rfl) (by kernel_rfl) (.inBlock 2 :: K) _
theorem L2_eq (x0 x2 x3 x9 x20 x21 x22 : AV) (m : Mem) (K : List Item) : L2 x0 x2 x3 x9 x20 x21 x22 m K = den prog ann 17 (.code r7 :: .code i1 :: .code k3 :: .code r10 :: .inLoop l2 :: .inBlock 2 :: K) ⟨[(0, x0), (2, x2), (3, x3), (9, x9), (20, x20), (21, x21), (22, x22)], 41, m⟩ := den_flat hf (l := [r7, i1, k3, r10]) (by kernel_rfl) _ _
theorem r7_eq (K : List Item) (s : St) : den prog ann 17 (.code r7 :: K) s = mreg prog ann 17 (some [0, 2, 3, 9, 20, 21, 22]) [] none [] [
    ⟨some 23, none, .v fun s => binA prog .lss 3 (s.get 22) (s.get 21)⟩] K s := (den_reg hf _ K s).trans (by kernel_rfl)
theorem i1_eq (K : List Item) (s : St) : den prog ann 17 (.code i1 :: K) s = ifV prog ann 17 23 i1t i1e K s (s.get 23) := den_if hf (by kernel_rfl) K s
theorem i1t_eq (K : List Item) (s : St) : den prog ann 17 (.code i1t :: K) s = den prog ann 17 (K) s := den_flat hf (l := []) (by kernel_rfl) K s
theorem i1e_eq (K : List Item) (s : St) : den prog ann 17 (.code i1e :: K) s = den prog ann 17 (.code (.exit 2) :: K) s := den_flat hf (l := [(.exit 2)]) (by kernel_rfl) K s
theorem k3_eq (K : List Item) (s : St) : den prog ann 17 (.code k3 :: K) s = den prog ann 17 (.code r8 :: .code r9 :: .inBlock 3 :: K) s := den_blk hf (b := blkOf k3) (l := [r8, r9]) (by kernel_rfl) (by kernel_rfl) K s
theorem r8_eq (K : List Item) (s : St) : den prog ann 17 (.code r8 :: K) s = mreg prog ann 17 none [] none [] [
    ⟨some 24, none, .v fun s => some (s.get 22)⟩,
    ⟨some 25, none, .v fun s => idxSl 1 (s.get 20) (s.get 22)⟩,
    ⟨some 26, none, .v fun s => loadF false 1 (s.get 25)⟩,
    ⟨some 10, none, .v fun s => some (s.get 24)⟩,
    ⟨some 11, none, .v fun s => some (s.get 26)⟩] K s := (den_reg hf _ K s).trans (by kernel_rfl)
theorem r9_eq (K : List Item) (s : St) : den prog ann 17 (.code r9 :: K) s = mreg prog ann 17 none [] none [] [
    ⟨some 27, none, .v fun s => some (s.get 9)⟩,
    ⟨some 28, none, .v fun s => some (s.get 10)⟩,
    ⟨some 29, none, .v fun s => some (s.get 11)⟩,
    ⟨some 30, none, .v fun s => some (s.get 2)⟩,
    ⟨some 31, none, .v fun s => binA prog .mul 3 (s.get 29) (s.get 30)⟩,
    ⟨some 32, none, .v fun s => some (s.get 3)⟩,
    ⟨some 33, none, .v fun s => binA prog .add 3 (s.get 31) (s.get 32)⟩,
    ⟨some 34, none, .v fun s => some (s.get 0)⟩,
    ⟨some 35, none, .v fun s => binA prog .rem 3 (s.get 33) (s.get 34)⟩,
    ⟨some 36, none, .v fun s => idxSl 1 (s.get 27) (s.get 28)⟩,
    ⟨none, none, .w false none fun s => stA false 1 s.m (s.get 36) (s.get 35)⟩] K s := (den_reg hf _ K s).trans (by kernel_rfl)
theorem r10_eq (K : List Item) (s : St) : den prog ann 17 (.code r10 :: K) s = mreg prog ann 17 (some [0, 2, 3, 9, 20, 21, 22]) [] none [] [
    ⟨some 37, none, .v fun s => binA prog .add 3 (s.get 22) (.int .i64 1)⟩,
    ⟨some 22, none, .v fun s => some (s.get 37)⟩] K s := (den_reg hf _ K s).trans (by kernel_rfl)
theorem r11_eq (K : List Item) (s : St) : den prog ann 17 (.code r11 :: K) s = mreg prog ann 17 (some [9]) [] none [] [
    ⟨some 38, none, .v fun s => some (s.get 9)⟩,
    ⟨some 39, none, .c 0 (fun s => (.fn 26 [] [])) fun s => [(s.get 38)]⟩] K s := (den_reg hf _ K s).trans (by kernel_rfl)
theorem r12_eq (K : List Item) (s : St) : den prog ann 17 (.code r12 :: K) s = mreg prog ann 17 none [] none [] [
    ⟨some 40, none, .v fun s => some (s.get 9)⟩,
    ⟨some 8, none, .v fun s => some (s.get 40)⟩] K s := (den_reg hf _ K s).trans (by kernel_rfl)
theorem ret_eq (K : List Item) (s : St) : den prog ann 17 (.code .ret :: K) s = finM true [fun s => some (s.get 8)] s := (den_ret hf K s).trans (by kernel_rfl)
theorem nil_eq (s : St) : den prog ann 17 [] s = finM true [fun s => some (s.get 8)] s := (den_nil hf s).trans (by kernel_rfl)
theorem inBlock_eq (id : Nat) (K : List Item) (s : St) : den prog ann 17 (.inBlock id :: K) s = den prog ann 17 K s := den_inBlock hf id K s
theorem exit_eq (id : Nat) (K : List Item) (s : St) : den prog ann 17 (.code (.exit id) :: K) s = exitV prog ann 17 (exitTo id K) s := den_exitV hf id K s
theorem call_eq (v0 v1 v2 v3 : AV) (m : Mem) (h : closedL [v0, v1, v2, v3] = true) : denC prog ann 17 [v0, v1, v2, v3] m = (den prog ann 17 [.code b] ⟨[(0, v0), (1, v1), (2, v2), (3, v3)], 41, Mem.empty⟩).bind fun r => some (r.1, m) := (denC_pure hf (b := b) (by kernel_rfl) (by kernel_rfl) (by kernel_rfl) h m).trans (by kernel_rfl)
theorem pure_eq : (ann 17).pure = true := by kernel_rfl
attribute [simp] b_eq r0_eq r1_eq r2_eq k0_eq l0_eq r3_eq i0_eq i0t_eq i0e_eq k1_eq r4_eq r5_eq r6_eq k2_eq l2_eq r7_eq i1_eq i1t_eq i1e_eq k3_eq r8_eq r9_eq r10_eq r11_eq r12_eq ret_eq nil_eq inBlock_eq exit_eq pure_eq
end strap_moved

namespace strap_ring
/-- pommel/strap.ring -/
noncomputable def b : Code := (Tryd.f14.body).getD .skip
theorem hf : prog.funcs[14]? = some Tryd.f14 := by kernel_rfl
noncomputable def r0 : Code := findReg b 0
noncomputable def k0 : Code := findBlk b 0
noncomputable def r1 : Code := findReg b 1
noncomputable def i0 : Code := findCond b 0
noncomputable def i0t : Code := thenOf i0
noncomputable def i0e : Code := elseOf i0
noncomputable def r2 : Code := findReg b 2
noncomputable def r3 : Code := findReg b 3
noncomputable def i1 : Code := findCond b 1
noncomputable def i1t : Code := thenOf i1
noncomputable def i1e : Code := elseOf i1
noncomputable def r4 : Code := findReg b 4
noncomputable def r5 : Code := findReg b 5
noncomputable def i2 : Code := findCond b 2
noncomputable def i2t : Code := thenOf i2
noncomputable def i2e : Code := elseOf i2
noncomputable def r6 : Code := findReg b 6
noncomputable def r7 : Code := findReg b 7
noncomputable def k1 : Code := findBlk b 1
noncomputable def l1 : Code := loopOf k1
noncomputable def L1 (x0 x1 x22 x23 x24 : AV) (m : Mem) (K : List Item) : Option Res := den prog ann 14 (.code l1 :: .inLoop l1 :: .inBlock 1 :: K) ⟨[(0, x0), (1, x1), (22, x22), (23, x23), (24, x24)], 50, m⟩
noncomputable def r8 : Code := findReg b 8
noncomputable def i3 : Code := findCond b 3
noncomputable def i3t : Code := thenOf i3
noncomputable def i3e : Code := elseOf i3
noncomputable def k2 : Code := findBlk b 2
noncomputable def r9 : Code := findReg b 9
noncomputable def r10 : Code := findReg b 10
noncomputable def i4 : Code := findCond b 4
noncomputable def i4t : Code := thenOf i4
noncomputable def i4e : Code := elseOf i4
noncomputable def r11 : Code := findReg b 11
noncomputable def r12 : Code := findReg b 12
noncomputable def r13 : Code := findReg b 13
theorem b_eq (K : List Item) (s : St) : den prog ann 14 (.code b :: K) s = den prog ann 14 (.code r0 :: .code k0 :: .code r7 :: .code k1 :: .code r13 :: .code .ret :: K) s := den_flat hf (l := [r0, k0, r7, k1, r13, .ret]) (by kernel_rfl) K s
theorem r0_eq (K : List Item) (s : St) : den prog ann 14 (.code r0 :: K) s = mreg prog ann 14 none [] none [] [
    ⟨some 4, none, .v fun s => some (.int .i64 0)⟩] K s := (den_reg hf _ K s).trans (by kernel_rfl)
theorem k0_eq (K : List Item) (s : St) : den prog ann 14 (.code k0 :: K) s = den prog ann 14 (.code r1 :: .code i0 :: .inBlock 0 :: K) s := den_blk hf (b := blkOf k0) (l := [r1, i0]) (by kernel_rfl) (by kernel_rfl) K s
theorem r1_eq (K : List Item) (s : St) : den prog ann 14 (.code r1 :: K) s = mreg prog ann 14 none [] none [] [
    ⟨some 8, none, .v fun s => some (s.get 1)⟩,
    ⟨some 9, none, .v fun s => lenSl (s.get 8)⟩,
    ⟨some 10, none, .v fun s => binA prog .gtr 3 (s.get 9) (.int .i64 31)⟩,
    ⟨some 7, none, .v fun s => some (s.get 10)⟩] K s := (den_reg hf _ K s).trans (by kernel_rfl)
theorem i0_eq (K : List Item) (s : St) : den prog ann 14 (.code i0 :: K) s = ifV prog ann 14 7 i0t i0e K s (s.get 7) := den_if hf (by kernel_rfl) K s
theorem i0t_eq (K : List Item) (s : St) : den prog ann 14 (.code i0t :: K) s = den prog ann 14 (.code r2 :: .code .ret :: K) s := den_flat hf (l := [r2, .ret]) (by kernel_rfl) K s
theorem r2_eq (K : List Item) (s : St) : den prog ann 14 (.code r2 :: K) s = mreg prog ann 14 none [] none [] [
    ⟨some 4, none, .v fun s => some (.int .i64 3)⟩] K s := (den_reg hf _ K s).trans (by kernel_rfl)
theorem i0e_eq (K : List Item) (s : St) : den prog ann 14 (.code i0e :: K) s = den prog ann 14 (.code r3 :: .code i1 :: K) s := den_flat hf (l := [r3, i1]) (by kernel_rfl) K s
theorem r3_eq (K : List Item) (s : St) : den prog ann 14 (.code r3 :: K) s = mreg prog ann 14 none [] none [] [
    ⟨some 12, none, .v fun s => some (s.get 0)⟩,
    ⟨some 13, none, .v fun s => binA prog .lss 3 (s.get 12) (.int .i64 2)⟩,
    ⟨some 14, none, .v fun s => some (s.get 13)⟩,
    ⟨some 15, some (14, false), .v fun s => some (s.get 0)⟩,
    ⟨some 16, some (14, false), .v fun s => binA prog .gtr 3 (s.get 15) (.int .i64 31)⟩,
    ⟨some 17, none, .v fun s => pickA (s.get 14) (.bool true) (s.get 16)⟩,
    ⟨some 11, none, .v fun s => some (s.get 17)⟩] K s := (den_reg hf _ K s).trans (by kernel_rfl)
theorem i1_eq (K : List Item) (s : St) : den prog ann 14 (.code i1 :: K) s = ifV prog ann 14 11 i1t i1e K s (s.get 11) := den_if hf (by kernel_rfl) K s
theorem i1t_eq (K : List Item) (s : St) : den prog ann 14 (.code i1t :: K) s = den prog ann 14 (.code r4 :: .code .ret :: K) s := den_flat hf (l := [r4, .ret]) (by kernel_rfl) K s
theorem r4_eq (K : List Item) (s : St) : den prog ann 14 (.code r4 :: K) s = mreg prog ann 14 none [] none [] [
    ⟨some 4, none, .v fun s => some (.int .i64 1)⟩] K s := (den_reg hf _ K s).trans (by kernel_rfl)
theorem i1e_eq (K : List Item) (s : St) : den prog ann 14 (.code i1e :: K) s = den prog ann 14 (.code r5 :: .code i2 :: K) s := den_flat hf (l := [r5, i2]) (by kernel_rfl) K s
theorem r5_eq (K : List Item) (s : St) : den prog ann 14 (.code r5 :: K) s = mreg prog ann 14 none [] none [] [
    ⟨some 19, none, .v fun s => some (s.get 1)⟩,
    ⟨some 20, none, .v fun s => lenSl (s.get 19)⟩,
    ⟨some 21, none, .v fun s => binA prog .eql 3 (s.get 20) (.int .i64 0)⟩,
    ⟨some 18, none, .v fun s => some (s.get 21)⟩] K s := (den_reg hf _ K s).trans (by kernel_rfl)
theorem i2_eq (K : List Item) (s : St) : den prog ann 14 (.code i2 :: K) s = ifV prog ann 14 18 i2t i2e K s (s.get 18) := den_if hf (by kernel_rfl) K s
theorem i2t_eq (K : List Item) (s : St) : den prog ann 14 (.code i2t :: K) s = den prog ann 14 (.code r6 :: .code .ret :: K) s := den_flat hf (l := [r6, .ret]) (by kernel_rfl) K s
theorem r6_eq (K : List Item) (s : St) : den prog ann 14 (.code r6 :: K) s = mreg prog ann 14 none [] none [] [
    ⟨some 4, none, .v fun s => some (.int .i64 2)⟩] K s := (den_reg hf _ K s).trans (by kernel_rfl)
theorem i2e_eq (K : List Item) (s : St) : den prog ann 14 (.code i2e :: K) s = den prog ann 14 (K) s := den_flat hf (l := []) (by kernel_rfl) K s
theorem r7_eq (K : List Item) (s : St) : den prog ann 14 (.code r7 :: K) s = mreg prog ann 14 (some [0, 1]) [] none [] [
    ⟨some 22, none, .v fun s => some (s.get 1)⟩,
    ⟨some 23, none, .v fun s => lenSl (s.get 22)⟩,
    ⟨some 24, none, .v fun s => some (.int .i64 0)⟩] K s := (den_reg hf _ K s).trans (by kernel_rfl)
theorem k1_eq (K : List Item) (t : List (Nat × AV)) (m : Mem) : den prog ann 14 (.code k1 :: K) ⟨t, 50, m⟩ = L1 (get t 0) (get t 1) (get t 22) (get t 23) (get t 24) m K := den_loop_enter hf (b := l1) (id := 8) (l := [0, 1, 22, 23, 24]) (by kernel_rfl) (by kernel_rfl) (by kernel_rfl) K _
theorem l1_eq (K : List Item) (t : List (Nat × AV)) (m : Mem) : den prog ann 14 (.inLoop l1 :: .inBlock 1 :: K) ⟨t, 50, m⟩ = L1 (get t 0) (get t 1) (get t 22) (get t 23) (get t 24) m K := den_loop_again hf (id := 8) (l := [0, 1, 22, 23, 24]) (by kernel_rfl) (by kernel_rfl) (.inBlock 1 :: K) _
theorem L1_eq (x0 x1 x22 x23 x24 : AV) (m : Mem) (K : List Item) : L1 x0 x1 x22 x23 x24 m K = den prog ann 14 (.code r8 :: .code i3 :: .code k2 :: .code r12 :: .inLoop l1 :: .inBlock 1 :: K) ⟨[(0, x0), (1, x1), (22, x22), (23, x23), (24, x24)], 50, m⟩ := den_flat hf (l := [r8, i3, k2, r12]) (by kernel_rfl) _ _
theorem r8_eq (K : List Item) (s : St) : den prog ann 14 (.code r8 :: K) s = mreg prog ann 14 (some [0, 1, 22, 23, 24]) [] none [] [
    ⟨some 25, none, .v fun s => binA prog .lss 3 (s.get 24) (s.get 23)⟩] K s := (den_reg hf _ K s).trans (by kernel_rfl)
theorem i3_eq (K : List Item) (s : St) : den prog ann 14 (.code i3 :: K) s = ifV prog ann 14 25 i3t i3e K s (s.get 25) := den_if hf (by kernel_rfl) K s
theorem i3t_eq (K : List Item) (s : St) : den prog ann 14 (.code i3t :: K) s = den prog ann 14 (K) s := den_flat hf (l := []) (by kernel_rfl) K s
theorem i3e_eq (K : List Item) (s : St) : den prog ann 14 (.code i3e :: K) s = den prog ann 14 (.code (.exit 1) :: K) s := den_flat hf (l := [(.exit 1)]) (by kernel_rfl) K s
theorem k2_eq (K : List Item) (s : St) : den prog ann 14 (.code k2 :: K) s = den prog ann 14 (.code r9 :: .code r10 :: .code i4 :: .inBlock 2 :: K) s := den_blk hf (b := blkOf k2) (l := [r9, r10, i4]) (by kernel_rfl) (by kernel_rfl) K s
theorem r9_eq (K : List Item) (s : St) : den prog ann 14 (.code r9 :: K) s = mreg prog ann 14 none [] none [] [
    ⟨some 26, none, .v fun s => some (s.get 24)⟩,
    ⟨some 27, none, .v fun s => idxSl 1 (s.get 22) (s.get 24)⟩,
    ⟨some 28, none, .v fun s => loadF false 1 (s.get 27)⟩,
    ⟨some 5, none, .v fun s => some (s.get 26)⟩,
    ⟨some 6, none, .v fun s => some (s.get 28)⟩] K s := (den_reg hf _ K s).trans (by kernel_rfl)
theorem r10_eq (K : List Item) (s : St) : den prog ann 14 (.code r10 :: K) s = mreg prog ann 14 none [] none [] [
    ⟨some 29, none, .v fun s => some (s.get 6)⟩,
    ⟨some 30, none, .v fun s => binA prog .lss 3 (s.get 29) (.int .i64 0)⟩,
    ⟨some 31, none, .v fun s => some (s.get 30)⟩,
    ⟨some 32, some (31, false), .v fun s => some (s.get 6)⟩,
    ⟨some 33, some (31, false), .v fun s => some (s.get 0)⟩,
    ⟨some 34, some (31, false), .v fun s => binA prog .geq 3 (s.get 32) (s.get 33)⟩,
    ⟨some 35, none, .v fun s => pickA (s.get 31) (.bool true) (s.get 34)⟩,
    ⟨some 36, none, .v fun s => some (s.get 35)⟩,
    ⟨some 37, some (36, false), .v fun s => some (s.get 5)⟩,
    ⟨some 38, some (36, false), .v fun s => binA prog .gtr 3 (s.get 37) (.int .i64 0)⟩,
    ⟨some 39, some (36, false), .v fun s => some (s.get 38)⟩,
    ⟨some 40, some (39, true), .v fun s => some (s.get 6)⟩,
    ⟨some 41, some (39, true), .v fun s => some (s.get 1)⟩,
    ⟨some 42, some (39, true), .v fun s => some (s.get 5)⟩,
    ⟨some 43, some (39, true), .v fun s => binA prog .sub 3 (s.get 42) (.int .i64 1)⟩,
    ⟨some 44, some (39, true), .v fun s => idxSl 1 (s.get 41) (s.get 43)⟩,
    ⟨some 45, some (39, true), .v fun s => loadF false 1 (s.get 44)⟩,
    ⟨some 46, some (39, true), .v fun s => binA prog .leq 3 (s.get 40) (s.get 45)⟩,
    ⟨some 47, some (36, false), .v fun s => pickA (s.get 39) (s.get 46) (.bool false)⟩,
    ⟨some 48, none, .v fun s => pickA (s.get 36) (.bool true) (s.get 47)⟩] K s := (den_reg hf _ K s).trans (by kernel_rfl)
theorem i4_eq (K : List Item) (s : St) : den prog ann 14 (.code i4 :: K) s = ifV prog ann 14 48 i4t i4e K s (s.get 48) := den_if hf (by kernel_rfl) K s
theorem i4t_eq (K : List Item) (s : St) : den prog ann 14 (.code i4t :: K) s = den prog ann 14 (.code r11 :: .code .ret :: K) s := den_flat hf (l := [r11, .ret]) (by kernel_rfl) K s
theorem r11_eq (K : List Item) (s : St) : den prog ann 14 (.code r11 :: K) s = mreg prog ann 14 none [] none [] [
    ⟨some 4, none, .v fun s => some (.int .i64 2)⟩] K s := (den_reg hf _ K s).trans (by kernel_rfl)
theorem i4e_eq (K : List Item) (s : St) : den prog ann 14 (.code i4e :: K) s = den prog ann 14 (K) s := den_flat hf (l := []) (by kernel_rfl) K s
theorem r12_eq (K : List Item) (s : St) : den prog ann 14 (.code r12 :: K) s = mreg prog ann 14 (some [0, 1, 22, 23, 24]) [] none [] [
    ⟨some 49, none, .v fun s => binA prog .add 3 (s.get 24) (.int .i64 1)⟩,
    ⟨some 24, none, .v fun s => some (s.get 49)⟩] K s := (den_reg hf _ K s).trans (by kernel_rfl)
theorem r13_eq (K : List Item) (s : St) : den prog ann 14 (.code r13 :: K) s = mreg prog ann 14 (some []) [] none [] [
    ⟨some 4, none, .v fun s => some (.int .i64 0)⟩] K s := (den_reg hf _ K s).trans (by kernel_rfl)
theorem ret_eq (K : List Item) (s : St) : den prog ann 14 (.code .ret :: K) s = finM true [fun s => some (s.get 4)] s := (den_ret hf K s).trans (by kernel_rfl)
theorem nil_eq (s : St) : den prog ann 14 [] s = finM true [fun s => some (s.get 4)] s := (den_nil hf s).trans (by kernel_rfl)
theorem inBlock_eq (id : Nat) (K : List Item) (s : St) : den prog ann 14 (.inBlock id :: K) s = den prog ann 14 K s := den_inBlock hf id K s
theorem exit_eq (id : Nat) (K : List Item) (s : St) : den prog ann 14 (.code (.exit id) :: K) s = exitV prog ann 14 (exitTo id K) s := den_exitV hf id K s
theorem call_eq (v0 v1 : AV) (m : Mem) (h : closedL [v0, v1] = true) : denC prog ann 14 [v0, v1] m = (den prog ann 14 [.code b] ⟨[(0, v0), (1, v1)], 50, Mem.empty⟩).bind fun r => some (r.1, m) := (denC_pure hf (b := b) (by kernel_rfl) (by kernel_rfl) (by kernel_rfl) h m).trans (by kernel_rfl)
theorem pure_eq : (ann 14).pure = true := by kernel_rfl
attribute [simp] b_eq r0_eq k0_eq r1_eq i0_eq i0t_eq r2_eq i0e_eq r3_eq i1_eq i1t_eq r4_eq i1e_eq r5_eq i2_eq i2t_eq r6_eq i2e_eq r7_eq k1_eq l1_eq r8_eq i3_eq i3t_eq i3e_eq k2_eq r9_eq r10_eq i4_eq i4t_eq r11_eq i4e_eq r12_eq r13_eq ret_eq nil_eq inBlock_eq exit_eq pure_eq
end strap_ring

namespace strap_units
/-- pommel/strap.units -/
noncomputable def b : Code := (Tryd.f15.body).getD .skip
theorem hf : prog.funcs[15]? = some Tryd.f15 := by kernel_rfl
noncomputable def r0 : Code := findReg b 0
noncomputable def r1 : Code := findReg b 1
noncomputable def r2 : Code := findReg b 2
noncomputable def k0 : Code := findBlk b 0
noncomputable def l0 : Code := loopOf k0
noncomputable def L0 (x0 x3 x5 x6 : AV) (m : Mem) (K : List Item) : Option Res := den prog ann 15 (.code l0 :: .inLoop l0 :: .inBlock 0 :: K) ⟨[(0, x0), (3, x3), (5, x5), (6, x6)], 19, m⟩
noncomputable def r3 : Code := findReg b 3
noncomputable def i0 : Code := findCond b 0
noncomputable def i0t : Code := thenOf i0
noncomputable def i0e : Code := elseOf i0
noncomputable def k1 : Code := findBlk b 1
noncomputable def r4 : Code := findReg b 4
noncomputable def r5 : Code := findReg b 5
noncomputable def i1 : Code := findCond b 1
noncomputable def i1t : Code := thenOf i1
noncomputable def i1e : Code := elseOf i1
noncomputable def r6 : Code := findReg b 6
noncomputable def r7 : Code := findReg b 7
noncomputable def r8 : Code := findReg b 8
theorem b_eq (K : List Item) (s : St) : den prog ann 15 (.code b :: K) s = den prog ann 15 (.code r0 :: .code r1 :: .code r2 :: .code k0 :: .code r8 :: .code .ret :: K) s := den_flat hf (l := [r0, r1, r2, k0, r8, .ret]) (by kernel_rfl) K s
theorem r0_eq (K : List Item) (s : St) : den prog ann 15 (.code r0 :: K) s = mreg prog ann 15 none [] none [] [
    ⟨some 2, none, .v fun s => some (.nils)⟩] K s := (den_reg hf _ K s).trans (by kernel_rfl)
theorem r1_eq (K : List Item) (s : St) : den prog ann 15 (.code r1 :: K) s = mreg prog ann 15 none [] none [] [
    ⟨some 3, none, .v fun s => some (.nils)⟩] K s := (den_reg hf _ K s).trans (by kernel_rfl)
theorem r2_eq (K : List Item) (s : St) : den prog ann 15 (.code r2 :: K) s = mreg prog ann 15 none [] none [] [
    ⟨some 5, none, .v fun s => some (s.get 0)⟩,
    ⟨some 6, none, .v fun s => some (.int .i64 0)⟩] K s := (den_reg hf _ K s).trans (by kernel_rfl)
theorem k0_eq (K : List Item) (t : List (Nat × AV)) (m : Mem) : den prog ann 15 (.code k0 :: K) ⟨t, 19, m⟩ = L0 (get t 0) (get t 3) (get t 5) (get t 6) m K := den_loop_enter hf (b := l0) (id := 3) (l := [0, 3, 5, 6]) (by kernel_rfl) (by kernel_rfl) (by kernel_rfl) K _
theorem l0_eq (K : List Item) (t : List (Nat × AV)) (m : Mem) : den prog ann 15 (.inLoop l0 :: .inBlock 0 :: K) ⟨t, 19, m⟩ = L0 (get t 0) (get t 3) (get t 5) (get t 6) m K := den_loop_again hf (id := 3) (l := [0, 3, 5, 6]) (by kernel_rfl) (by kernel_rfl) (.inBlock 0 :: K) _
theorem L0_eq (x0 x3 x5 x6 : AV) (m : Mem) (K : List Item) : L0 x0 x3 x5 x6 m K = den prog ann 15 (.code r3 :: .code i0 :: .code k1 :: .code r7 :: .inLoop l0 :: .inBlock 0 :: K) ⟨[(0, x0), (3, x3), (5, x5), (6, x6)], 19, m⟩ := den_flat hf (l := [r3, i0, k1, r7]) (by kernel_rfl) _ _
theorem r3_eq (K : List Item) (s : St) : den prog ann 15 (.code r3 :: K) s = mreg prog ann 15 (some [0, 3, 5, 6]) [] none [] [
    ⟨some 7, none, .v fun s => binA prog .lss 3 (s.get 6) (s.get 5)⟩] K s := (den_reg hf _ K s).trans (by kernel_rfl)
theorem i0_eq (K : List Item) (s : St) : den prog ann 15 (.code i0 :: K) s = ifV prog ann 15 7 i0t i0e K s (s.get 7) := den_if hf (by kernel_rfl) K s
theorem i0t_eq (K : List Item) (s : St) : den prog ann 15 (.code i0t :: K) s = den prog ann 15 (K) s := den_flat hf (l := []) (by kernel_rfl) K s
theorem i0e_eq (K : List Item) (s : St) : den prog ann 15 (.code i0e :: K) s = den prog ann 15 (.code (.exit 0) :: K) s := den_flat hf (l := [(.exit 0)]) (by kernel_rfl) K s
theorem k1_eq (K : List Item) (s : St) : den prog ann 15 (.code k1 :: K) s = den prog ann 15 (.code r4 :: .code r5 :: .code i1 :: .inBlock 1 :: K) s := den_blk hf (b := blkOf k1) (l := [r4, r5, i1]) (by kernel_rfl) (by kernel_rfl) K s
theorem r4_eq (K : List Item) (s : St) : den prog ann 15 (.code r4 :: K) s = mreg prog ann 15 none [] none [] [
    ⟨some 8, none, .v fun s => some (s.get 6)⟩,
    ⟨some 4, none, .v fun s => some (s.get 8)⟩] K s := (den_reg hf _ K s).trans (by kernel_rfl)
theorem r5_eq (K : List Item) (s : St) : den prog ann 15 (.code r5 :: K) s = mreg prog ann 15 none [] none [] [
    ⟨some 9, none, .v fun s => some (s.get 4)⟩,
    ⟨some 10, none, .v fun s => some (s.get 0)⟩,
    ⟨some 11, none, .c 0 (fun s => (.fn 25 [] [])) fun s => [(s.get 9), (s.get 10)]⟩,
    ⟨some 12, none, .v fun s => binA prog .eql 3 (s.get 11) (.int .i64 1)⟩] K s := (den_reg hf _ K s).trans (by kernel_rfl)
theorem i1_eq (K : List Item) (s : St) : den prog ann 15 (.code i1 :: K) s = ifV prog ann 15 12 i1t i1e K s (s.get 12) := den_if hf (by kernel_rfl) K s
theorem i1t_eq (K : List Item) (s : St) : den prog ann 15 (.code i1t :: K) s = den prog ann 15 (.code r6 :: K) s := den_flat hf (l := [r6]) (by kernel_rfl) K s
theorem r6_eq (K : List Item) (s : St) : den prog ann 15 (.code r6 :: K) s = mreg prog ann 15 none [] none [] [
    ⟨some 13, none, .v fun s => some (s.get 3)⟩,
    ⟨some 14, none, .v fun s => some (s.get 4)⟩,
    ⟨some 15, none, .v fun s => bslF 1 (bslA 1 1 [.int .i64 0] [(0, (s.get 14))])⟩,
    ⟨some 16, none, .w false none fun s => appendA 1 8 s.m (s.get 13) (s.get 15)⟩,
    ⟨some 3, none, .v fun s => some (s.get 16)⟩] K s := (den_reg hf _ K s).trans (by kernel_rfl)
theorem i1e_eq (K : List Item) (s : St) : den prog ann 15 (.code i1e :: K) s = den prog ann 15 (K) s := den_flat hf (l := []) (by kernel_rfl) K s
theorem r7_eq (K : List Item) (s : St) : den prog ann 15 (.code r7 :: K) s = mreg prog ann 15 (some [0, 3, 5, 6]) [] none [] [
    ⟨some 17, none, .v fun s => binA prog .add 3 (s.get 6) (.int .i64 1)⟩,
    ⟨some 6, none, .v fun s => some (s.get 17)⟩] K s := (den_reg hf _ K s).trans (by kernel_rfl)
theorem r8_eq (K : List Item) (s : St) : den prog ann 15 (.code r8 :: K) s = mreg prog ann 15 (some [3]) [] none [] [
    ⟨some 18, none, .v fun s => some (s.get 3)⟩,
    ⟨some 2, none, .v fun s => some (s.get 18)⟩] K s := (den_reg hf _ K s).trans (by kernel_rfl)
theorem ret_eq (K : List Item) (s : St) : den prog ann 15 (.code .ret :: K) s = finM true [fun s => some (s.get 2)] s := (den_ret hf K s).trans (by kernel_rfl)
theorem nil_eq (s : St) : den prog ann 15 [] s = finM true [fun s => some (s.get 2)] s := (den_nil hf s).trans (by kernel_rfl)
theorem inBlock_eq (id : Nat) (K : List Item) (s : St) : den prog ann 15 (.inBlock id :: K) s = den prog ann 15 K s := den_inBlock hf id K s
theorem exit_eq (id : Nat) (K : List Item) (s : St) : den prog ann 15 (.code (.exit id) :: K) s = exitV prog ann 15 (exitTo id K) s := den_exitV hf id K s
theorem call_eq (v0 : AV) (m : Mem) (h : closedL [v0] = true) : denC prog ann 15 [v0] m = (den prog ann 15 [.code b] ⟨[(0, v0)], 19, Mem.empty⟩).bind fun r => some (r.1, m) := (denC_pure hf (b := b) (by kernel_rfl) (by kernel_rfl) (by kernel_rfl) h m).trans (by kernel_rfl)
theorem pure_eq : (ann 15).pure = true := by kernel_rfl
attribute [simp] b_eq r0_eq r1_eq r2_eq k0_eq l0_eq r3_eq i0_eq i0t_eq i0e_eq k1_eq r4_eq r5_eq i1_eq i1t_eq r6_eq i1e_eq r7_eq r8_eq ret_eq nil_eq inBlock_eq exit_eq pure_eq
end strap_units
end Go.Proofs.YtofceaeboboflaaDoor
