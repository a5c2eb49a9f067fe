/-
  BODIES OF FUNCTIONS OF THE PROGRAM AS SMALL OPERATIONS (written by gen.py; checked by the kernel against the program). Conditions: none.
-/
import Derived.Test.YtdkmepjedjclkaaKAmH
set_option linter.all false
namespace Go.Proofs.Ytdkmepjedjclkaa
open Go.AM
open Go.Proofs.Try (prog)
set_option maxRecDepth 100000
set_option linter.all false

namespace watch_join
/-- pommel/watch.join -/
noncomputable def b : Code := (Try.f91.body).getD .skip
theorem hf : prog.funcs[91]? = some Try.f91 := by kernel_rfl
noncomputable def r0 : Code := findReg b 0
noncomputable def r1 : Code := findReg b 1
noncomputable def k0 : Code := findBlk b 0
noncomputable def l0 : Code := loopOf k0
noncomputable def L0 (x2 x3 x4 x6 : AV) (m : Mem) (K : List Item) : Option Res := den prog ann 91 (.code l0 :: .inLoop l0 :: .inBlock 0 :: K) ⟨[(2, x2), (3, x3), (4, x4), (6, x6)], 20, m⟩
noncomputable def r2 : Code := findReg b 2
noncomputable def i0 : Code := findCond b 0
noncomputable def i0t : Code := thenOf i0
noncomputable def i0e : Code := elseOf i0
noncomputable def k1 : Code := findBlk b 1
noncomputable def r3 : Code := findReg b 3
noncomputable def r4 : Code := findReg b 4
noncomputable def r5 : Code := findReg b 5
noncomputable def r6 : Code := findReg b 6
theorem b_eq (K : List Item) (s : St) : den prog ann 91 (.code b :: K) s = den prog ann 91 (.code r0 :: .code r1 :: .code k0 :: .code r6 :: .code .ret :: K) s := den_flat hf (l := [r0, r1, k0, r6, .ret]) (by kernel_rfl) K s
theorem r0_eq (K : List Item) (s : St) : den prog ann 91 (.code r0 :: K) s = mreg prog ann 91 none [] none [] [
    ⟨some 2, none, .w false none fun s => newPtr s.m (AV.cells (s.get 0))⟩,
    ⟨some 3, none, .v fun s => frozenPtr (s.get 1)⟩,
    ⟨some 4, none, .w false none fun s => newPtr s.m [.int .i64 0, .int .i64 0, .int .i64 0, .int .i64 0]⟩] K s := (den_reg hf _ K s).trans (by kernel_rfl)
theorem r1_eq (K : List Item) (s : St) : den prog ann 91 (.code r1 :: K) s = mreg prog ann 91 none [] none [] [
    ⟨some 6, none, .v fun s => some (.int .i64 0)⟩] K s := (den_reg hf _ K s).trans (by kernel_rfl)
theorem k0_eq (K : List Item) (t : List (Nat × AV)) (m : Mem) : den prog ann 91 (.code k0 :: K) ⟨t, 20, m⟩ = L0 (get t 2) (get t 3) (get t 4) (get t 6) m K := den_loop_enter hf (b := l0) (id := 2) (l := [2, 3, 4, 6]) (by kernel_rfl) (by kernel_rfl) (by kernel_rfl) K _
theorem l0_eq (K : List Item) (t : List (Nat × AV)) (m : Mem) : den prog ann 91 (.inLoop l0 :: .inBlock 0 :: K) ⟨t, 20, m⟩ = L0 (get t 2) (get t 3) (get t 4) (get t 6) m K := den_loop_again hf (id := 2) (l := [2, 3, 4, 6]) (by kernel_rfl) (by kernel_rfl) (.inBlock 0 :: K) _
theorem L0_eq (x2 x3 x4 x6 : AV) (m : Mem) (K : List Item) : L0 x2 x3 x4 x6 m K = den prog ann 91 (.code r2 :: .code i0 :: .code k1 :: .code r5 :: .inLoop l0 :: .inBlock 0 :: K) ⟨[(2, x2), (3, x3), (4, x4), (6, x6)], 20, m⟩ := den_flat hf (l := [r2, i0, k1, r5]) (by kernel_rfl) _ _
theorem r2_eq (K : List Item) (s : St) : den prog ann 91 (.code r2 :: K) s = mreg prog ann 91 (some [2, 3, 4, 6]) [] none [] [
    ⟨some 7, none, .v fun s => binA prog .lss 3 (s.get 6) (.int .i64 4)⟩] K s := (den_reg hf _ K s).trans (by kernel_rfl)
theorem i0_eq (K : List Item) (s : St) : den prog ann 91 (.code i0 :: K) s = ifV prog ann 91 7 i0t i0e K s (s.get 7) := den_if hf (by kernel_rfl) K s
theorem i0t_eq (K : List Item) (s : St) : den prog ann 91 (.code i0t :: K) s = den prog ann 91 (K) s := den_flat hf (l := []) (by kernel_rfl) K s
theorem i0e_eq (K : List Item) (s : St) : den prog ann 91 (.code i0e :: K) s = den prog ann 91 (.code (.exit 0) :: K) s := den_flat hf (l := [(.exit 0)]) (by kernel_rfl) K s
theorem k1_eq (K : List Item) (s : St) : den prog ann 91 (.code k1 :: K) s = den prog ann 91 (.code r3 :: .code r4 :: .inBlock 1 :: K) s := den_blk hf (b := blkOf k1) (l := [r3, r4]) (by kernel_rfl) (by kernel_rfl) K s
theorem r3_eq (K : List Item) (s : St) : den prog ann 91 (.code r3 :: K) s = mreg prog ann 91 none [] none [] [
    ⟨some 8, none, .v fun s => some (s.get 6)⟩,
    ⟨some 5, none, .v fun s => some (s.get 8)⟩] K s := (den_reg hf _ K s).trans (by kernel_rfl)
theorem r4_draw : drawOk (fun g => (ann g).pure) (modeOf (ann 91) (idOf r4)) (frzOf (ann 91) (idOf r4)) (opsOf r4) = true := drawOk_of (an := [0, 0, 2, 6, 0, 16, 48, 126, 255, 511]) (by kernel_rfl) (by kernel_rfl)
theorem r4_eq (K : List Item) (s : St) : den prog ann 91 (.code r4 :: K) s = mreg prog ann 91 none [] (some 10) [] [
    ⟨some 9, none, .v fun s => some (s.get 5)⟩,
    ⟨some 10, none, .v fun s => some (s.get 5)⟩,
    ⟨some 11, none, .v fun s => idxArr 4 1 (s.get 2) (s.get 10)⟩,
    ⟨some 12, none, .v fun s => loadA false 1 s.m (s.get 11)⟩,
    ⟨some 13, none, .v fun s => some (s.get 5)⟩,
    ⟨some 14, none, .v fun s => idxArr 4 1 (s.get 3) (s.get 13)⟩,
    ⟨some 15, none, .v fun s => loadF false 1 (s.get 14)⟩,
    ⟨some 16, none, .v fun s => foldA max2A (s.get 12) [(s.get 15)]⟩,
    ⟨some 17, none, .v fun s => idxArr 4 1 (s.get 2) (s.get 9)⟩,
    ⟨none, none, .w false (some 9) fun s => stA false 1 s.m (s.get 17) (s.get 16)⟩] K s := (den_regD hf r4_draw K s).trans (by kernel_rfl)
theorem r5_eq (K : List Item) (s : St) : den prog ann 91 (.code r5 :: K) s = mreg prog ann 91 (some [2, 3, 4, 6]) [] none [] [
    ⟨some 18, none, .v fun s => binA prog .add 3 (s.get 6) (.int .i64 1)⟩,
    ⟨some 6, none, .v fun s => some (s.get 18)⟩] K s := (den_reg hf _ K s).trans (by kernel_rfl)
theorem r6_eq (K : List Item) (s : St) : den prog ann 91 (.code r6 :: K) s = mreg prog ann 91 (some [2, 4]) [] none [] [
    ⟨some 19, none, .v fun s => loadA true 4 s.m (s.get 2)⟩,
    ⟨none, none, .w false none fun s => stA true 4 s.m (s.get 4) (s.get 19)⟩] K s := (den_reg hf _ K s).trans (by kernel_rfl)
theorem ret_eq (K : List Item) (s : St) : den prog ann 91 (.code .ret :: K) s = finM true [fun s => loadA true 4 s.m (s.get 4)] s := (den_ret hf K s).trans (by kernel_rfl)
theorem nil_eq (s : St) : den prog ann 91 [] s = finM true [fun s => loadA true 4 s.m (s.get 4)] s := (den_nil hf s).trans (by kernel_rfl)
theorem inBlock_eq (id : Nat) (K : List Item) (s : St) : den prog ann 91 (.inBlock id :: K) s = den prog ann 91 K s := den_inBlock hf id K s
theorem exit_eq (id : Nat) (K : List Item) (s : St) : den prog ann 91 (.code (.exit id) :: K) s = exitV prog ann 91 (exitTo id K) s := den_exitV hf id K s
theorem call_eq (v0 v1 : AV) (m : Mem) (h : closedL [v0, v1] = true) : denC prog ann 91 [v0, v1] m = (den prog ann 91 [.code b] ⟨[(0, v0), (1, v1)], 20, Mem.empty⟩).bind fun r => some (r.1, m) := (denC_pure hf (b := b) (by kernel_rfl) (by kernel_rfl) (by kernel_rfl) h m).trans (by kernel_rfl)
theorem pure_eq : (ann 91).pure = true := by kernel_rfl
attribute [simp] b_eq r0_eq r1_eq k0_eq l0_eq r2_eq i0_eq i0t_eq i0e_eq k1_eq r3_eq r4_eq r5_eq r6_eq ret_eq nil_eq inBlock_eq exit_eq pure_eq
end watch_join


namespace slices_Clone_int
/-- slices.Cloneintint -/
noncomputable def b : Code := (Try.f98.body).getD .skip
theorem hf : prog.funcs[98]? = some Try.f98 := by kernel_rfl
noncomputable def r0 : Code := findReg b 0
noncomputable def r1 : Code := findReg b 1
noncomputable def i0 : Code := findCond b 0
noncomputable def i0t : Code := thenOf i0
noncomputable def i0e : Code := elseOf i0
noncomputable def r2 : Code := findReg b 2
noncomputable def r3 : Code := findReg b 3
theorem b_eq (K : List Item) (s : St) : den prog ann 98 (.code b :: K) s = den prog ann 98 (.code r0 :: .code r1 :: .code i0 :: .code r3 :: .code .ret :: K) s := den_flat hf (l := [r0, r1, i0, r3, .ret]) (by kernel_rfl) K s
theorem r0_eq (K : List Item) (s : St) : den prog ann 98 (.code r0 :: K) s = mreg prog ann 98 none [] none [] [
    ⟨some 2, none, .v fun s => some (.nils)⟩] K s := (den_reg hf _ K s).trans (by kernel_rfl)
theorem r1_eq (K : List Item) (s : St) : den prog ann 98 (.code r1 :: K) s = mreg prog ann 98 none [] none [] [
    ⟨some 3, none, .v fun s => some (s.get 0)⟩,
    ⟨some 4, none, .v fun s => binA prog .eql 22 (s.get 3) (.nils)⟩] K s := (den_reg hf _ K s).trans (by kernel_rfl)
theorem i0_eq (K : List Item) (s : St) : den prog ann 98 (.code i0 :: K) s = ifV prog ann 98 4 i0t i0e K s (s.get 4) := den_if hf (by kernel_rfl) K s
theorem i0t_eq (K : List Item) (s : St) : den prog ann 98 (.code i0t :: K) s = den prog ann 98 (.code r2 :: .code .ret :: K) s := den_flat hf (l := [r2, .ret]) (by kernel_rfl) K s
theorem r2_eq (K : List Item) (s : St) : den prog ann 98 (.code r2 :: K) s = mreg prog ann 98 none [] none [] [
    ⟨some 2, none, .v fun s => some (.nils)⟩] K s := (den_reg hf _ K s).trans (by kernel_rfl)
theorem i0e_eq (K : List Item) (s : St) : den prog ann 98 (.code i0e :: K) s = den prog ann 98 (K) s := den_flat hf (l := []) (by kernel_rfl) K s
theorem r3_eq (K : List Item) (s : St) : den prog ann 98 (.code r3 :: K) s = mreg prog ann 98 none [] none [] [
    ⟨some 5, none, .v fun s => bslF 0 (bslA 1 0 [.int .i64 0] [])⟩,
    ⟨some 6, none, .v fun s => some (s.get 0)⟩,
    ⟨some 7, none, .v fun s => appV 1 8 (s.get 5) (s.get 6)⟩,
    ⟨some 2, none, .v fun s => some (s.get 7)⟩] K s := (den_reg hf _ K s).trans (by kernel_rfl)
theorem ret_eq (K : List Item) (s : St) : den prog ann 98 (.code .ret :: K) s = finM true [fun s => some (s.get 2)] s := (den_ret hf K s).trans (by kernel_rfl)
theorem nil_eq (s : St) : den prog ann 98 [] s = finM true [fun s => some (s.get 2)] s := (den_nil hf s).trans (by kernel_rfl)
theorem inBlock_eq (id : Nat) (K : List Item) (s : St) : den prog ann 98 (.inBlock id :: K) s = den prog ann 98 K s := den_inBlock hf id K s
theorem exit_eq (id : Nat) (K : List Item) (s : St) : den prog ann 98 (.code (.exit id) :: K) s = exitV prog ann 98 (exitTo id K) s := den_exitV hf id K s
theorem call_eq (v0 : AV) (m : Mem) (h : closedL [v0] = true) : denC prog ann 98 [v0] m = (den prog ann 98 [.code b] ⟨[(0, v0)], 8, Mem.empty⟩).bind fun r => some (r.1, m) := (denC_pure hf (b := b) (by kernel_rfl) (by kernel_rfl) (by kernel_rfl) h m).trans (by kernel_rfl)
theorem pure_eq : (ann 98).pure = true := by kernel_rfl
attribute [simp] b_eq r0_eq r1_eq i0_eq i0t_eq r2_eq i0e_eq r3_eq ret_eq nil_eq inBlock_eq exit_eq pure_eq
end slices_Clone_int

namespace watch_story_list
/-- (*pommel/watch.story).list -/
noncomputable def b : Code := (Try.f63.body).getD .skip
theorem hf : prog.funcs[63]? = some Try.f63 := by kernel_rfl
noncomputable def r0 : Code := findReg b 0
noncomputable def r1 : Code := findReg b 1
theorem b_eq (K : List Item) (s : St) : den prog ann 63 (.code b :: K) s = den prog ann 63 (.code r0 :: .code r1 :: .code .ret :: K) s := den_flat hf (l := [r0, r1, .ret]) (by kernel_rfl) K s
theorem r0_eq (K : List Item) (s : St) : den prog ann 63 (.code r0 :: K) s = mreg prog ann 63 none [] none [] [
    ⟨some 3, none, .v fun s => frozenPtr (s.get 1)⟩,
    ⟨some 4, none, .v fun s => some (.nils)⟩] K s := (den_reg hf _ K s).trans (by kernel_rfl)
theorem r1_eq (K : List Item) (s : St) : den prog ann 63 (.code r1 :: K) s = mreg prog ann 63 none [] none [] [
    ⟨some 5, none, .v fun s => some (s.get 0)⟩,
    ⟨some 6, none, .v fun s => nilA (s.get 5)⟩,
    ⟨some 7, none, .v fun s => fieldA 0 (s.get 6)⟩,
    ⟨some 8, none, .v fun s => loadF false 1 (s.get 7)⟩,
    ⟨some 9, none, .v fun s => sliceArr 4 1 (s.get 3) none (some (s.get 8))⟩,
    ⟨some 10, none, .c 0 (fun s => (.fn 98 [] [])) fun s => [(s.get 9)]⟩,
    ⟨some 4, none, .v fun s => some (s.get 10)⟩] K s := (den_reg hf _ K s).trans (by kernel_rfl)
theorem ret_eq (K : List Item) (s : St) : den prog ann 63 (.code .ret :: K) s = finM true [fun s => some (s.get 4)] s := (den_ret hf K s).trans (by kernel_rfl)
theorem nil_eq (s : St) : den prog ann 63 [] s = finM true [fun s => some (s.get 4)] s := (den_nil hf s).trans (by kernel_rfl)
theorem inBlock_eq (id : Nat) (K : List Item) (s : St) : den prog ann 63 (.inBlock id :: K) s = den prog ann 63 K s := den_inBlock hf id K s
theorem exit_eq (id : Nat) (K : List Item) (s : St) : den prog ann 63 (.code (.exit id) :: K) s = exitV prog ann 63 (exitTo id K) s := den_exitV hf id K s
theorem call_eq (v0 v1 : AV) (m : Mem) (h : closedL [v0, v1] = true) : denC prog ann 63 [v0, v1] m = (den prog ann 63 [.code b] ⟨[(0, v0), (1, v1)], 11, Mem.empty⟩).bind fun r => some (r.1, m) := (denC_pure hf (b := b) (by kernel_rfl) (by kernel_rfl) (by kernel_rfl) h m).trans (by kernel_rfl)
theorem pure_eq : (ann 63).pure = true := by kernel_rfl
attribute [simp] b_eq r0_eq r1_eq ret_eq nil_eq inBlock_eq exit_eq pure_eq
end watch_story_list

namespace watch_story_forth
/-- (*pommel/watch.story).forth -/
noncomputable def b : Code := (Try.f70.body).getD .skip
theorem hf : prog.funcs[70]? = some Try.f70 := by kernel_rfl
noncomputable def r0 : Code := findReg b 0
noncomputable def r1 : Code := findReg b 1
noncomputable def r2 : Code := findReg b 2
noncomputable def k0 : Code := findBlk b 0
noncomputable def l0 : Code := loopOf k0
noncomputable def L0 (x0 x3 x4 x5 x11 x12 : AV) (m : Mem) (K : List Item) : Option Res := den prog ann 70 (.code l0 :: .inLoop l0 :: .inBlock 0 :: K) ⟨[(0, x0), (3, x3), (4, x4), (5, x5), (11, x11), (12, x12)], 35, m⟩
noncomputable def r3 : Code := findReg b 3
noncomputable def i0 : Code := findCond b 0
noncomputable def i0t : Code := thenOf i0
noncomputable def i0e : Code := elseOf i0
noncomputable def k1 : Code := findBlk b 1
noncomputable def r4 : Code := findReg b 4
noncomputable def r5 : Code := findReg b 5
noncomputable def i1 : Code := findCond b 1
noncomputable def i1t : Code := thenOf i1
noncomputable def i1e : Code := elseOf i1
noncomputable def r6 : Code := findReg b 6
noncomputable def r7 : Code := findReg b 7
noncomputable def r8 : Code := findReg b 8
theorem b_eq (K : List Item) (s : St) : den prog ann 70 (.code b :: K) s = den prog ann 70 (.code r0 :: .code r1 :: .code r2 :: .code k0 :: .code r8 :: .code .ret :: K) s := den_flat hf (l := [r0, r1, r2, k0, r8, .ret]) (by kernel_rfl) K s
theorem r0_eq (K : List Item) (s : St) : den prog ann 70 (.code r0 :: K) s = mreg prog ann 70 none [] none [] [
    ⟨some 3, none, .v fun s => frozenPtr (s.get 1)⟩,
    ⟨some 4, none, .w false none fun s => newPtr s.m [.int .i64 0, .int .i64 0, .int .i64 0, .int .i64 0]⟩] K s := (den_reg hf _ K s).trans (by kernel_rfl)
theorem r1_eq (K : List Item) (s : St) : den prog ann 70 (.code r1 :: K) s = mreg prog ann 70 none [] none [] [
    ⟨some 7, none, .v fun s => loadF true 4 (s.get 3)⟩,
    ⟨some 5, none, .w false none fun s => newPtr s.m [.int .i64 0, .int .i64 0, .int .i64 0, .int .i64 0]⟩,
    ⟨none, none, .w false none fun s => stA true 4 s.m (s.get 5) (s.get 7)⟩] K s := (den_reg hf _ K s).trans (by kernel_rfl)
theorem r2_eq (K : List Item) (s : St) : den prog ann 70 (.code r2 :: K) s = mreg prog ann 70 none [] none [] [
    ⟨some 8, none, .v fun s => some (s.get 0)⟩,
    ⟨some 9, none, .v fun s => nilA (s.get 8)⟩,
    ⟨some 10, none, .v fun s => fieldA 0 (s.get 9)⟩,
    ⟨some 11, none, .v fun s => loadF false 1 (s.get 10)⟩,
    ⟨some 12, none, .v fun s => some (.int .i64 0)⟩] K s := (den_reg hf _ K s).trans (by kernel_rfl)
theorem k0_eq (K : List Item) (t : List (Nat × AV)) (m : Mem) : den prog ann 70 (.code k0 :: K) ⟨t, 35, m⟩ = L0 (get t 0) (get t 3) (get t 4) (get t 5) (get t 11) (get t 12) m K := den_loop_enter hf (b := l0) (id := 3) (l := [0, 3, 4, 5, 11, 12]) (by kernel_rfl) (by kernel_rfl) (by kernel_rfl) K _
theorem l0_eq (K : List Item) (t : List (Nat × AV)) (m : Mem) : den prog ann 70 (.inLoop l0 :: .inBlock 0 :: K) ⟨t, 35, m⟩ = L0 (get t 0) (get t 3) (get t 4) (get t 5) (get t 11) (get t 12) m K := den_loop_again hf (id := 3) (l := [0, 3, 4, 5, 11, 12]) (by kernel_rfl) (by kernel_rfl) (.inBlock 0 :: K) _
theorem L0_eq (x0 x3 x4 x5 x11 x12 : AV) (m : Mem) (K : List Item) : L0 x0 x3 x4 x5 x11 x12 m K = den prog ann 70 (.code r3 :: .code i0 :: .code k1 :: .code r7 :: .inLoop l0 :: .inBlock 0 :: K) ⟨[(0, x0), (3, x3), (4, x4), (5, x5), (11, x11), (12, x12)], 35, m⟩ := den_flat hf (l := [r3, i0, k1, r7]) (by kernel_rfl) _ _
theorem r3_eq (K : List Item) (s : St) : den prog ann 70 (.code r3 :: K) s = mreg prog ann 70 (some [0, 3, 4, 5, 11, 12]) [] none [] [
    ⟨some 13, none, .v fun s => binA prog .lss 3 (s.get 12) (s.get 11)⟩] K s := (den_reg hf _ K s).trans (by kernel_rfl)
theorem i0_eq (K : List Item) (s : St) : den prog ann 70 (.code i0 :: K) s = ifV prog ann 70 13 i0t i0e K s (s.get 13) := den_if hf (by kernel_rfl) K s
theorem i0t_eq (K : List Item) (s : St) : den prog ann 70 (.code i0t :: K) s = den prog ann 70 (K) s := den_flat hf (l := []) (by kernel_rfl) K s
theorem i0e_eq (K : List Item) (s : St) : den prog ann 70 (.code i0e :: K) s = den prog ann 70 (.code (.exit 0) :: K) s := den_flat hf (l := [(.exit 0)]) (by kernel_rfl) K s
theorem k1_eq (K : List Item) (s : St) : den prog ann 70 (.code k1 :: K) s = den prog ann 70 (.code r4 :: .code r5 :: .code i1 :: .inBlock 1 :: K) s := den_blk hf (b := blkOf k1) (l := [r4, r5, i1]) (by kernel_rfl) (by kernel_rfl) K s
theorem r4_eq (K : List Item) (s : St) : den prog ann 70 (.code r4 :: K) s = mreg prog ann 70 none [] none [] [
    ⟨some 14, none, .v fun s => some (s.get 12)⟩,
    ⟨some 6, none, .v fun s => some (s.get 14)⟩] K s := (den_reg hf _ K s).trans (by kernel_rfl)
theorem r5_eq (K : List Item) (s : St) : den prog ann 70 (.code r5 :: K) s = mreg prog ann 70 none [] none [] [
    ⟨some 15, none, .v fun s => some (s.get 6)⟩,
    ⟨some 16, none, .v fun s => idxArr 4 1 (s.get 3) (s.get 15)⟩,
    ⟨some 17, none, .v fun s => loadF false 1 (s.get 16)⟩,
    ⟨some 18, none, .v fun s => binA prog .gtr 3 (s.get 17) (.int .i64 0)⟩] K s := (den_reg hf _ K s).trans (by kernel_rfl)
theorem i1_eq (K : List Item) (s : St) : den prog ann 70 (.code i1 :: K) s = ifV prog ann 70 18 i1t i1e K s (s.get 18) := den_if hf (by kernel_rfl) K s
theorem i1t_eq (K : List Item) (s : St) : den prog ann 70 (.code i1t :: K) s = den prog ann 70 (.code r6 :: K) s := den_flat hf (l := [r6]) (by kernel_rfl) K s
theorem r6_draw : drawOk (fun g => (ann g).pure) (modeOf (ann 70) (idOf r6)) (frzOf (ann 70) (idOf r6)) (opsOf r6) = true := drawOk_of (an := [0, 0, 0, 2, 10, 30, 62, 0, 128, 384, 896, 2046, 4094, 8191, 16383]) (by kernel_rfl) (by kernel_rfl)
theorem r6_eq (K : List Item) (s : St) : den prog ann 70 (.code r6 :: K) s = mreg prog ann 70 none [] (some 15) [] [
    ⟨some 19, none, .v fun s => loadA true 4 s.m (s.get 5)⟩,
    ⟨some 20, none, .v fun s => some (s.get 0)⟩,
    ⟨some 21, none, .v fun s => some (s.get 6)⟩,
    ⟨some 22, none, .v fun s => nilA (s.get 20)⟩,
    ⟨some 23, none, .v fun s => fieldA 5 (s.get 22)⟩,
    ⟨some 24, none, .v fun s => idxArr 4 1 (s.get 23) (s.get 21)⟩,
    ⟨some 25, none, .v fun s => loadF false 1 (s.get 24)⟩,
    ⟨some 26, none, .v fun s => some (s.get 6)⟩,
    ⟨some 27, none, .v fun s => idxArr 4 1 (s.get 3) (s.get 26)⟩,
    ⟨some 28, none, .v fun s => loadF false 1 (s.get 27)⟩,
    ⟨some 29, none, .v fun s => binA prog .sub 3 (s.get 28) (.int .i64 1)⟩,
    ⟨some 30, none, .v fun s => idxSl 4 (s.get 25) (s.get 29)⟩,
    ⟨some 31, none, .v fun s => loadF true 4 (s.get 30)⟩,
    ⟨some 32, none, .c 0 (fun s => (.fn 91 [] [])) fun s => [(s.get 19), (s.get 31)]⟩,
    ⟨none, none, .w false (some 14) fun s => stA true 4 s.m (s.get 5) (s.get 32)⟩] K s := (den_regD hf r6_draw K s).trans (by kernel_rfl)
theorem i1e_eq (K : List Item) (s : St) : den prog ann 70 (.code i1e :: K) s = den prog ann 70 (K) s := den_flat hf (l := []) (by kernel_rfl) K s
theorem r7_eq (K : List Item) (s : St) : den prog ann 70 (.code r7 :: K) s = mreg prog ann 70 (some [0, 3, 4, 5, 11, 12]) [] none [] [
    ⟨some 33, none, .v fun s => binA prog .add 3 (s.get 12) (.int .i64 1)⟩,
    ⟨some 12, none, .v fun s => some (s.get 33)⟩] K s := (den_reg hf _ K s).trans (by kernel_rfl)
theorem r8_eq (K : List Item) (s : St) : den prog ann 70 (.code r8 :: K) s = mreg prog ann 70 (some [4, 5]) [] none [] [
    ⟨some 34, none, .v fun s => loadA true 4 s.m (s.get 5)⟩,
    ⟨none, none, .w false none fun s => stA true 4 s.m (s.get 4) (s.get 34)⟩] K s := (den_reg hf _ K s).trans (by kernel_rfl)
theorem ret_eq (K : List Item) (s : St) : den prog ann 70 (.code .ret :: K) s = finM true [fun s => loadA true 4 s.m (s.get 4)] s := (den_ret hf K s).trans (by kernel_rfl)
theorem nil_eq (s : St) : den prog ann 70 [] s = finM true [fun s => loadA true 4 s.m (s.get 4)] s := (den_nil hf s).trans (by kernel_rfl)
theorem inBlock_eq (id : Nat) (K : List Item) (s : St) : den prog ann 70 (.inBlock id :: K) s = den prog ann 70 K s := den_inBlock hf id K s
theorem exit_eq (id : Nat) (K : List Item) (s : St) : den prog ann 70 (.code (.exit id) :: K) s = exitV prog ann 70 (exitTo id K) s := den_exitV hf id K s
theorem call_eq (v0 v1 : AV) (m : Mem) (h : closedL [v0, v1] = true) : denC prog ann 70 [v0, v1] m = (den prog ann 70 [.code b] ⟨[(0, v0), (1, v1)], 35, Mem.empty⟩).bind fun r => some (r.1, m) := (denC_pure hf (b := b) (by kernel_rfl) (by kernel_rfl) (by kernel_rfl) h m).trans (by kernel_rfl)
theorem pure_eq : (ann 70).pure = true := by kernel_rfl
attribute [simp] b_eq r0_eq r1_eq r2_eq k0_eq l0_eq r3_eq i0_eq i0t_eq i0e_eq k1_eq r4_eq r5_eq i1_eq i1t_eq r6_eq i1e_eq r7_eq r8_eq ret_eq nil_eq inBlock_eq exit_eq pure_eq
end watch_story_forth

namespace watch_story_consistent
/-- (*pommel/watch.story).consistent -/
noncomputable def b : Code := (Try.f72.body).getD .skip
theorem hf : prog.funcs[72]? = some Try.f72 := by kernel_rfl
noncomputable def r0 : Code := findReg b 0
noncomputable def r1 : Code := findReg b 1
theorem b_eq (K : List Item) (s : St) : den prog ann 72 (.code b :: K) s = den prog ann 72 (.code r0 :: .code r1 :: .code .ret :: K) s := den_flat hf (l := [r0, r1, .ret]) (by kernel_rfl) K s
theorem r0_eq (K : List Item) (s : St) : den prog ann 72 (.code r0 :: K) s = mreg prog ann 72 none [] none [] [
    ⟨some 3, none, .v fun s => frozenPtr (s.get 1)⟩,
    ⟨some 4, none, .v fun s => some (.bool false)⟩] K s := (den_reg hf _ K s).trans (by kernel_rfl)
theorem r1_draw : drawOk (fun g => (ann g).pure) (modeOf (ann 72) (idOf r1)) (frzOf (ann 72) (idOf r1)) (opsOf r1) = true := drawOk_of (an := [0, 0, 3, 0, 15, 31]) (by kernel_rfl) (by kernel_rfl)
theorem r1_eq (K : List Item) (s : St) : den prog ann 72 (.code r1 :: K) s = mreg prog ann 72 none [] (some 6) [] [
    ⟨some 5, none, .v fun s => some (s.get 0)⟩,
    ⟨some 6, none, .v fun s => loadF true 4 (s.get 3)⟩,
    ⟨some 7, none, .c 0 (fun s => (.fn 70 [] [])) fun s => [(s.get 5), (s.get 6)]⟩,
    ⟨some 8, none, .v fun s => loadF true 4 (s.get 3)⟩,
    ⟨some 9, none, .v fun s => binA prog .eql 99 (s.get 7) (s.get 8)⟩,
    ⟨some 4, none, .v fun s => some (s.get 9)⟩] K s := (den_regD hf r1_draw K s).trans (by kernel_rfl)
theorem ret_eq (K : List Item) (s : St) : den prog ann 72 (.code .ret :: K) s = finM true [fun s => some (s.get 4)] s := (den_ret hf K s).trans (by kernel_rfl)
theorem nil_eq (s : St) : den prog ann 72 [] s = finM true [fun s => some (s.get 4)] s := (den_nil hf s).trans (by kernel_rfl)
theorem inBlock_eq (id : Nat) (K : List Item) (s : St) : den prog ann 72 (.inBlock id :: K) s = den prog ann 72 K s := den_inBlock hf id K s
theorem exit_eq (id : Nat) (K : List Item) (s : St) : den prog ann 72 (.code (.exit id) :: K) s = exitV prog ann 72 (exitTo id K) s := den_exitV hf id K s
theorem call_eq (v0 v1 : AV) (m : Mem) (h : closedL [v0, v1] = true) : denC prog ann 72 [v0, v1] m = (den prog ann 72 [.code b] ⟨[(0, v0), (1, v1)], 10, Mem.empty⟩).bind fun r => some (r.1, m) := (denC_pure hf (b := b) (by kernel_rfl) (by kernel_rfl) (by kernel_rfl) h m).trans (by kernel_rfl)
theorem pure_eq : (ann 72).pure = true := by kernel_rfl
attribute [simp] b_eq r0_eq r1_eq ret_eq nil_eq inBlock_eq exit_eq pure_eq
end watch_story_consistent

namespace slices_Min_int
/-- slices.Minintint -/
noncomputable def b : Code := (Try.f92.body).getD .skip
theorem hf : prog.funcs[92]? = some Try.f92 := by kernel_rfl
noncomputable def r0 : Code := findReg b 0
noncomputable def r1 : Code := findReg b 1
noncomputable def i0 : Code := findCond b 0
noncomputable def i0t : Code := thenOf i0
noncomputable def i0e : Code := elseOf i0
noncomputable def r2 : Code := findReg b 2
noncomputable def r3 : Code := findReg b 3
noncomputable def r4 : Code := findReg b 4
noncomputable def k0 : Code := findBlk b 0
noncomputable def l0 : Code := loopOf k0
noncomputable def L0 (x0 x3 x4 : AV) (m : Mem) (K : List Item) : Option Res := den prog ann 92 (.code l0 :: .inLoop l0 :: .inBlock 0 :: K) ⟨[(0, x0), (3, x3), (4, x4)], 25, m⟩
noncomputable def r5 : Code := findReg b 5
noncomputable def i1 : Code := findCond b 1
noncomputable def i1t : Code := thenOf i1
noncomputable def i1e : Code := elseOf i1
noncomputable def k1 : Code := findBlk b 1
noncomputable def r7 : Code := findReg b 7
noncomputable def r6 : Code := findReg b 6
noncomputable def r8 : Code := findReg b 8
theorem b_eq (K : List Item) (s : St) : den prog ann 92 (.code b :: K) s = den prog ann 92 (.code r0 :: .code r1 :: .code i0 :: .code r3 :: .code r4 :: .code k0 :: .code r8 :: .code .ret :: K) s := den_flat hf (l := [r0, r1, i0, r3, r4, k0, r8, .ret]) (by kernel_rfl) K s
theorem r0_eq (K : List Item) (s : St) : den prog ann 92 (.code r0 :: K) s = mreg prog ann 92 none [] none [] [
    ⟨some 2, none, .v fun s => some (.int .i64 0)⟩] K s := (den_reg hf _ K s).trans (by kernel_rfl)
theorem r1_eq (K : List Item) (s : St) : den prog ann 92 (.code r1 :: K) s = mreg prog ann 92 none [] none [] [
    ⟨some 5, none, .v fun s => some (s.get 0)⟩,
    ⟨some 6, none, .v fun s => lenSl (s.get 5)⟩,
    ⟨some 7, none, .v fun s => binA prog .lss 3 (s.get 6) (.int .i64 1)⟩] K s := (den_reg hf _ K s).trans (by kernel_rfl)
theorem i0_eq (K : List Item) (s : St) : den prog ann 92 (.code i0 :: K) s = ifV prog ann 92 7 i0t i0e K s (s.get 7) := den_if hf (by kernel_rfl) K s
theorem i0t_eq (K : List Item) (s : St) : den prog ann 92 (.code i0t :: K) s = den prog ann 92 (.code r2 :: K) s := den_flat hf (l := [r2]) (by kernel_rfl) K s
-- not covered: r2, operation 1
theorem i0e_eq (K : List Item) (s : St) : den prog ann 92 (.code i0e :: K) s = den prog ann 92 (K) s := den_flat hf (l := []) (by kernel_rfl) K s
theorem r3_eq (K : List Item) (s : St) : den prog ann 92 (.code r3 :: K) s = mreg prog ann 92 (some [0]) [] none [] [
    ⟨some 9, none, .v fun s => some (s.get 0)⟩,
    ⟨some 10, none, .v fun s => idxSl 1 (s.get 9) (.int .i64 0)⟩,
    ⟨some 11, none, .v fun s => loadF false 1 (s.get 10)⟩,
    ⟨some 3, none, .v fun s => some (s.get 11)⟩] K s := (den_reg hf _ K s).trans (by kernel_rfl)
theorem r4_eq (K : List Item) (s : St) : den prog ann 92 (.code r4 :: K) s = mreg prog ann 92 none [] none [] [
    ⟨some 4, none, .v fun s => some (.int .i64 1)⟩] K s := (den_reg hf _ K s).trans (by kernel_rfl)
theorem k0_eq (K : List Item) (t : List (Nat × AV)) (m : Mem) : den prog ann 92 (.code k0 :: K) ⟨t, 25, m⟩ = L0 (get t 0) (get t 3) (get t 4) m K := den_loop_enter hf (b := l0) (id := 5) (l := [0, 3, 4]) (by kernel_rfl) (by kernel_rfl) (by kernel_rfl) K _
theorem l0_eq (K : List Item) (t : List (Nat × AV)) (m : Mem) : den prog ann 92 (.inLoop l0 :: .inBlock 0 :: K) ⟨t, 25, m⟩ = L0 (get t 0) (get t 3) (get t 4) m K := den_loop_again hf (id := 5) (l := [0, 3, 4]) (by kernel_rfl) (by kernel_rfl) (.inBlock 0 :: K) _
theorem L0_eq (x0 x3 x4 : AV) (m : Mem) (K : List Item) : L0 x0 x3 x4 m K = den prog ann 92 (.code r5 :: .code i1 :: .code k1 :: .code r6 :: .inLoop l0 :: .inBlock 0 :: K) ⟨[(0, x0), (3, x3), (4, x4)], 25, m⟩ := den_flat hf (l := [r5, i1, k1, r6]) (by kernel_rfl) _ _
theorem r5_eq (K : List Item) (s : St) : den prog ann 92 (.code r5 :: K) s = mreg prog ann 92 (some [0, 3, 4]) [] none [] [
    ⟨some 12, none, .v fun s => some (s.get 4)⟩,
    ⟨some 13, none, .v fun s => some (s.get 0)⟩,
    ⟨some 14, none, .v fun s => lenSl (s.get 13)⟩,
    ⟨some 15, none, .v fun s => binA prog .lss 3 (s.get 12) (s.get 14)⟩] K s := (den_reg hf _ K s).trans (by kernel_rfl)
theorem i1_eq (K : List Item) (s : St) : den prog ann 92 (.code i1 :: K) s = ifV prog ann 92 15 i1t i1e K s (s.get 15) := den_if hf (by kernel_rfl) K s
theorem i1t_eq (K : List Item) (s : St) : den prog ann 92 (.code i1t :: K) s = den prog ann 92 (K) s := den_flat hf (l := []) (by kernel_rfl) K s
theorem i1e_eq (K : List Item) (s : St) : den prog ann 92 (.code i1e :: K) s = den prog ann 92 (.code (.exit 0) :: K) s := den_flat hf (l := [(.exit 0)]) (by kernel_rfl) K s
theorem k1_eq (K : List Item) (s : St) : den prog ann 92 (.code k1 :: K) s = den prog ann 92 (.code r7 :: .inBlock 1 :: K) s := den_blk hf (b := blkOf k1) (l := [r7]) (by kernel_rfl) (by kernel_rfl) K s
theorem r7_eq (K : List Item) (s : St) : den prog ann 92 (.code r7 :: K) s = mreg prog ann 92 none [] none [] [
    ⟨some 18, none, .v fun s => some (s.get 3)⟩,
    ⟨some 19, none, .v fun s => some (s.get 0)⟩,
    ⟨some 20, none, .v fun s => some (s.get 4)⟩,
    ⟨some 21, none, .v fun s => idxSl 1 (s.get 19) (s.get 20)⟩,
    ⟨some 22, none, .v fun s => loadF false 1 (s.get 21)⟩,
    ⟨some 23, none, .v fun s => foldA min2A (s.get 18) [(s.get 22)]⟩,
    ⟨some 3, none, .v fun s => some (s.get 23)⟩] K s := (den_reg hf _ K s).trans (by kernel_rfl)
theorem r6_eq (K : List Item) (s : St) : den prog ann 92 (.code r6 :: K) s = mreg prog ann 92 (some [0, 3, 4]) [] none [] [
    ⟨some 16, none, .v fun s => some (s.get 4)⟩,
    ⟨some 17, none, .v fun s => binA prog .add 3 (s.get 16) (.int .i64 1)⟩,
    ⟨some 4, none, .v fun s => some (s.get 17)⟩] K s := (den_reg hf _ K s).trans (by kernel_rfl)
theorem r8_eq (K : List Item) (s : St) : den prog ann 92 (.code r8 :: K) s = mreg prog ann 92 (some [3]) [] none [] [
    ⟨some 24, none, .v fun s => some (s.get 3)⟩,
    ⟨some 2, none, .v fun s => some (s.get 24)⟩] K s := (den_reg hf _ K s).trans (by kernel_rfl)
theorem ret_eq (K : List Item) (s : St) : den prog ann 92 (.code .ret :: K) s = finM true [fun s => some (s.get 2)] s := (den_ret hf K s).trans (by kernel_rfl)
theorem nil_eq (s : St) : den prog ann 92 [] s = finM true [fun s => some (s.get 2)] s := (den_nil hf s).trans (by kernel_rfl)
theorem inBlock_eq (id : Nat) (K : List Item) (s : St) : den prog ann 92 (.inBlock id :: K) s = den prog ann 92 K s := den_inBlock hf id K s
theorem exit_eq (id : Nat) (K : List Item) (s : St) : den prog ann 92 (.code (.exit id) :: K) s = exitV prog ann 92 (exitTo id K) s := den_exitV hf id K s
theorem call_eq (v0 : AV) (m : Mem) (h : closedL [v0] = true) : denC prog ann 92 [v0] m = (den prog ann 92 [.code b] ⟨[(0, v0)], 25, Mem.empty⟩).bind fun r => some (r.1, m) := (denC_pure hf (b := b) (by kernel_rfl) (by kernel_rfl) (by kernel_rfl) h m).trans (by kernel_rfl)
theorem pure_eq : (ann 92).pure = true := by kernel_rfl
attribute [simp] b_eq r0_eq r1_eq i0_eq i0t_eq i0e_eq r3_eq r4_eq k0_eq l0_eq r5_eq i1_eq i1t_eq i1e_eq k1_eq r7_eq r6_eq r8_eq ret_eq nil_eq inBlock_eq exit_eq pure_eq
end slices_Min_int

namespace slices_Max_int
/-- slices.Maxintint -/
noncomputable def b : Code := (Try.f93.body).getD .skip
theorem hf : prog.funcs[93]? = some Try.f93 := by kernel_rfl
noncomputable def r0 : Code := findReg b 0
noncomputable def r1 : Code := findReg b 1
noncomputable def i0 : Code := findCond b 0
noncomputable def i0t : Code := thenOf i0
noncomputable def i0e : Code := elseOf i0
noncomputable def r2 : Code := findReg b 2
noncomputable def r3 : Code := findReg b 3
noncomputable def r4 : Code := findReg b 4
noncomputable def k0 : Code := findBlk b 0
noncomputable def l0 : Code := loopOf k0
noncomputable def L0 (x0 x3 x4 : AV) (m : Mem) (K : List Item) : Option Res := den prog ann 93 (.code l0 :: .inLoop l0 :: .inBlock 0 :: K) ⟨[(0, x0), (3, x3), (4, x4)], 25, m⟩
noncomputable def r5 : Code := findReg b 5
noncomputable def i1 : Code := findCond b 1
noncomputable def i1t : Code := thenOf i1
noncomputable def i1e : Code := elseOf i1
noncomputable def k1 : Code := findBlk b 1
noncomputable def r7 : Code := findReg b 7
noncomputable def r6 : Code := findReg b 6
noncomputable def r8 : Code := findReg b 8
theorem b_eq (K : List Item) (s : St) : den prog ann 93 (.code b :: K) s = den prog ann 93 (.code r0 :: .code r1 :: .code i0 :: .code r3 :: .code r4 :: .code k0 :: .code r8 :: .code .ret :: K) s := den_flat hf (l := [r0, r1, i0, r3, r4, k0, r8, .ret]) (by kernel_rfl) K s
theorem r0_eq (K : List Item) (s : St) : den prog ann 93 (.code r0 :: K) s = mreg prog ann 93 none [] none [] [
    ⟨some 2, none, .v fun s => some (.int .i64 0)⟩] K s := (den_reg hf _ K s).trans (by kernel_rfl)
theorem r1_eq (K : List Item) (s : St) : den prog ann 93 (.code r1 :: K) s = mreg prog ann 93 none [] none [] [
    ⟨some 5, none, .v fun s => some (s.get 0)⟩,
    ⟨some 6, none, .v fun s => lenSl (s.get 5)⟩,
    ⟨some 7, none, .v fun s => binA prog .lss 3 (s.get 6) (.int .i64 1)⟩] K s := (den_reg hf _ K s).trans (by kernel_rfl)
theorem i0_eq (K : List Item) (s : St) : den prog ann 93 (.code i0 :: K) s = ifV prog ann 93 7 i0t i0e K s (s.get 7) := den_if hf (by kernel_rfl) K s
theorem i0t_eq (K : List Item) (s : St) : den prog ann 93 (.code i0t :: K) s = den prog ann 93 (.code r2 :: K) s := den_flat hf (l := [r2]) (by kernel_rfl) K s
-- not covered: r2, operation 1
theorem i0e_eq (K : List Item) (s : St) : den prog ann 93 (.code i0e :: K) s = den prog ann 93 (K) s := den_flat hf (l := []) (by kernel_rfl) K s
theorem r3_eq (K : List Item) (s : St) : den prog ann 93 (.code r3 :: K) s = mreg prog ann 93 (some [0]) [] none [] [
    ⟨some 9, none, .v fun s => some (s.get 0)⟩,
    ⟨some 10, none, .v fun s => idxSl 1 (s.get 9) (.int .i64 0)⟩,
    ⟨some 11, none, .v fun s => loadF false 1 (s.get 10)⟩,
    ⟨some 3, none, .v fun s => some (s.get 11)⟩] K s := (den_reg hf _ K s).trans (by kernel_rfl)
theorem r4_eq (K : List Item) (s : St) : den prog ann 93 (.code r4 :: K) s = mreg prog ann 93 none [] none [] [
    ⟨some 4, none, .v fun s => some (.int .i64 1)⟩] K s := (den_reg hf _ K s).trans (by kernel_rfl)
theorem k0_eq (K : List Item) (t : List (Nat × AV)) (m : Mem) : den prog ann 93 (.code k0 :: K) ⟨t, 25, m⟩ = L0 (get t 0) (get t 3) (get t 4) m K := den_loop_enter hf (b := l0) (id := 5) (l := [0, 3, 4]) (by kernel_rfl) (by kernel_rfl) (by kernel_rfl) K _
theorem l0_eq (K : List Item) (t : List (Nat × AV)) (m : Mem) : den prog ann 93 (.inLoop l0 :: .inBlock 0 :: K) ⟨t, 25, m⟩ = L0 (get t 0) (get t 3) (get t 4) m K := den_loop_again hf (id := 5) (l := [0, 3, 4]) (by kernel_rfl) (by kernel_rfl) (.inBlock 0 :: K) _
theorem L0_eq (x0 x3 x4 : AV) (m : Mem) (K : List Item) : L0 x0 x3 x4 m K = den prog ann 93 (.code r5 :: .code i1 :: .code k1 :: .code r6 :: .inLoop l0 :: .inBlock 0 :: K) ⟨[(0, x0), (3, x3), (4, x4)], 25, m⟩ := den_flat hf (l := [r5, i1, k1, r6]) (by kernel_rfl) _ _
theorem r5_eq (K : List Item) (s : St) : den prog ann 93 (.code r5 :: K) s = mreg prog ann 93 (some [0, 3, 4]) [] none [] [
    ⟨some 12, none, .v fun s => some (s.get 4)⟩,
    ⟨some 13, none, .v fun s => some (s.get 0)⟩,
    ⟨some 14, none, .v fun s => lenSl (s.get 13)⟩,
    ⟨some 15, none, .v fun s => binA prog .lss 3 (s.get 12) (s.get 14)⟩] K s := (den_reg hf _ K s).trans (by kernel_rfl)
theorem i1_eq (K : List Item) (s : St) : den prog ann 93 (.code i1 :: K) s = ifV prog ann 93 15 i1t i1e K s (s.get 15) := den_if hf (by kernel_rfl) K s
theorem i1t_eq (K : List Item) (s : St) : den prog ann 93 (.code i1t :: K) s = den prog ann 93 (K) s := den_flat hf (l := []) (by kernel_rfl) K s
theorem i1e_eq (K : List Item) (s : St) : den prog ann 93 (.code i1e :: K) s = den prog ann 93 (.code (.exit 0) :: K) s := den_flat hf (l := [(.exit 0)]) (by kernel_rfl) K s
theorem k1_eq (K : List Item) (s : St) : den prog ann 93 (.code k1 :: K) s = den prog ann 93 (.code r7 :: .inBlock 1 :: K) s := den_blk hf (b := blkOf k1) (l := [r7]) (by kernel_rfl) (by kernel_rfl) K s
theorem r7_eq (K : List Item) (s : St) : den prog ann 93 (.code r7 :: K) s = mreg prog ann 93 none [] none [] [
    ⟨some 18, none, .v fun s => some (s.get 3)⟩,
    ⟨some 19, none, .v fun s => some (s.get 0)⟩,
    ⟨some 20, none, .v fun s => some (s.get 4)⟩,
    ⟨some 21, none, .v fun s => idxSl 1 (s.get 19) (s.get 20)⟩,
    ⟨some 22, none, .v fun s => loadF false 1 (s.get 21)⟩,
    ⟨some 23, none, .v fun s => foldA max2A (s.get 18) [(s.get 22)]⟩,
    ⟨some 3, none, .v fun s => some (s.get 23)⟩] K s := (den_reg hf _ K s).trans (by kernel_rfl)
theorem r6_eq (K : List Item) (s : St) : den prog ann 93 (.code r6 :: K) s = mreg prog ann 93 (some [0, 3, 4]) [] none [] [
    ⟨some 16, none, .v fun s => some (s.get 4)⟩,
    ⟨some 17, none, .v fun s => binA prog .add 3 (s.get 16) (.int .i64 1)⟩,
    ⟨some 4, none, .v fun s => some (s.get 17)⟩] K s := (den_reg hf _ K s).trans (by kernel_rfl)
theorem r8_eq (K : List Item) (s : St) : den prog ann 93 (.code r8 :: K) s = mreg prog ann 93 (some [3]) [] none [] [
    ⟨some 24, none, .v fun s => some (s.get 3)⟩,
    ⟨some 2, none, .v fun s => some (s.get 24)⟩] K s := (den_reg hf _ K s).trans (by kernel_rfl)
theorem ret_eq (K : List Item) (s : St) : den prog ann 93 (.code .ret :: K) s = finM true [fun s => some (s.get 2)] s := (den_ret hf K s).trans (by kernel_rfl)
theorem nil_eq (s : St) : den prog ann 93 [] s = finM true [fun s => some (s.get 2)] s := (den_nil hf s).trans (by kernel_rfl)
theorem inBlock_eq (id : Nat) (K : List Item) (s : St) : den prog ann 93 (.inBlock id :: K) s = den prog ann 93 K s := den_inBlock hf id K s
theorem exit_eq (id : Nat) (K : List Item) (s : St) : den prog ann 93 (.code (.exit id) :: K) s = exitV prog ann 93 (exitTo id K) s := den_exitV hf id K s
theorem call_eq (v0 : AV) (m : Mem) (h : closedL [v0] = true) : denC prog ann 93 [v0] m = (den prog ann 93 [.code b] ⟨[(0, v0)], 25, Mem.empty⟩).bind fun r => some (r.1, m) := (denC_pure hf (b := b) (by kernel_rfl) (by kernel_rfl) (by kernel_rfl) h m).trans (by kernel_rfl)
theorem pure_eq : (ann 93).pure = true := by kernel_rfl
attribute [simp] b_eq r0_eq r1_eq i0_eq i0t_eq i0e_eq r3_eq r4_eq k0_eq l0_eq r5_eq i1_eq i1t_eq i1e_eq k1_eq r7_eq r6_eq r8_eq ret_eq nil_eq inBlock_eq exit_eq pure_eq
end slices_Max_int

namespace slices_Index_cut
/-- slices.Indexpommel/watch.cutpommel/watch.cut -/
noncomputable def b : Code := (Try.f81.body).getD .skip
theorem hf : prog.funcs[81]? = some Try.f81 := by kernel_rfl
noncomputable def r0 : Code := findReg b 0
noncomputable def r1 : Code := findReg b 1
noncomputable def k0 : Code := findBlk b 0
noncomputable def l0 : Code := loopOf k0
noncomputable def L0 (x0 x3 x7 x8 : AV) (m : Mem) (K : List Item) : Option Res := den prog ann 81 (.code l0 :: .inLoop l0 :: .inBlock 0 :: K) ⟨[(0, x0), (3, x3), (7, x7), (8, x8)], 19, m⟩
noncomputable def r2 : Code := findReg b 2
noncomputable def i0 : Code := findCond b 0
noncomputable def i0t : Code := thenOf i0
noncomputable def i0e : Code := elseOf i0
noncomputable def k1 : Code := findBlk b 1
noncomputable def r3 : Code := findReg b 3
noncomputable def r4 : Code := findReg b 4
noncomputable def i1 : Code := findCond b 1
noncomputable def i1t : Code := thenOf i1
noncomputable def i1e : Code := elseOf i1
noncomputable def r5 : Code := findReg b 5
noncomputable def r6 : Code := findReg b 6
noncomputable def r7 : Code := findReg b 7
theorem b_eq (K : List Item) (s : St) : den prog ann 81 (.code b :: K) s = den prog ann 81 (.code r0 :: .code r1 :: .code k0 :: .code r7 :: .code .ret :: K) s := den_flat hf (l := [r0, r1, k0, r7, .ret]) (by kernel_rfl) K s
theorem r0_eq (K : List Item) (s : St) : den prog ann 81 (.code r0 :: K) s = mreg prog ann 81 none [] none [] [
    ⟨some 3, none, .v fun s => frozenPtr (s.get 1)⟩,
    ⟨some 4, none, .v fun s => some (.int .i64 0)⟩] K s := (den_reg hf _ K s).trans (by kernel_rfl)
theorem r1_eq (K : List Item) (s : St) : den prog ann 81 (.code r1 :: K) s = mreg prog ann 81 none [] none [] [
    ⟨some 6, none, .v fun s => some (s.get 0)⟩,
    ⟨some 7, none, .v fun s => lenSl (s.get 6)⟩,
    ⟨some 8, none, .v fun s => some (.int .i64 0)⟩] K s := (den_reg hf _ K s).trans (by kernel_rfl)
theorem k0_eq (K : List Item) (t : List (Nat × AV)) (m : Mem) : den prog ann 81 (.code k0 :: K) ⟨t, 19, m⟩ = L0 (get t 0) (get t 3) (get t 7) (get t 8) m K := den_loop_enter hf (b := l0) (id := 2) (l := [0, 3, 7, 8]) (by kernel_rfl) (by kernel_rfl) (by kernel_rfl) K _
theorem l0_eq (K : List Item) (t : List (Nat × AV)) (m : Mem) : den prog ann 81 (.inLoop l0 :: .inBlock 0 :: K) ⟨t, 19, m⟩ = L0 (get t 0) (get t 3) (get t 7) (get t 8) m K := den_loop_again hf (id := 2) (l := [0, 3, 7, 8]) (by kernel_rfl) (by kernel_rfl) (.inBlock 0 :: K) _
theorem L0_eq (x0 x3 x7 x8 : AV) (m : Mem) (K : List Item) : L0 x0 x3 x7 x8 m K = den prog ann 81 (.code r2 :: .code i0 :: .code k1 :: .code r6 :: .inLoop l0 :: .inBlock 0 :: K) ⟨[(0, x0), (3, x3), (7, x7), (8, x8)], 19, m⟩ := den_flat hf (l := [r2, i0, k1, r6]) (by kernel_rfl) _ _
theorem r2_eq (K : List Item) (s : St) : den prog ann 81 (.code r2 :: K) s = mreg prog ann 81 (some [0, 3, 7, 8]) [] none [] [
    ⟨some 9, none, .v fun s => binA prog .lss 3 (s.get 8) (s.get 7)⟩] K s := (den_reg hf _ K s).trans (by kernel_rfl)
theorem i0_eq (K : List Item) (s : St) : den prog ann 81 (.code i0 :: K) s = ifV prog ann 81 9 i0t i0e K s (s.get 9) := den_if hf (by kernel_rfl) K s
theorem i0t_eq (K : List Item) (s : St) : den prog ann 81 (.code i0t :: K) s = den prog ann 81 (K) s := den_flat hf (l := []) (by kernel_rfl) K s
theorem i0e_eq (K : List Item) (s : St) : den prog ann 81 (.code i0e :: K) s = den prog ann 81 (.code (.exit 0) :: K) s := den_flat hf (l := [(.exit 0)]) (by kernel_rfl) K s
theorem k1_eq (K : List Item) (s : St) : den prog ann 81 (.code k1 :: K) s = den prog ann 81 (.code r3 :: .code r4 :: .code i1 :: .inBlock 1 :: K) s := den_blk hf (b := blkOf k1) (l := [r3, r4, i1]) (by kernel_rfl) (by kernel_rfl) K s
theorem r3_eq (K : List Item) (s : St) : den prog ann 81 (.code r3 :: K) s = mreg prog ann 81 none [] none [] [
    ⟨some 10, none, .v fun s => some (s.get 8)⟩,
    ⟨some 5, none, .v fun s => some (s.get 10)⟩] K s := (den_reg hf _ K s).trans (by kernel_rfl)
theorem r4_draw : drawOk (fun g => (ann g).pure) (modeOf (ann 81) (idOf r4)) (frzOf (ann 81) (idOf r4)) (opsOf r4) = true := drawOk_of (an := [0, 0, 0, 6, 14, 31]) (by kernel_rfl) (by kernel_rfl)
theorem r4_eq (K : List Item) (s : St) : den prog ann 81 (.code r4 :: K) s = mreg prog ann 81 none [] (some 6) [] [
    ⟨some 11, none, .v fun s => loadF true 4 (s.get 3)⟩,
    ⟨some 12, none, .v fun s => some (s.get 0)⟩,
    ⟨some 13, none, .v fun s => some (s.get 5)⟩,
    ⟨some 14, none, .v fun s => idxSl 4 (s.get 12) (s.get 13)⟩,
    ⟨some 15, none, .v fun s => loadF true 4 (s.get 14)⟩,
    ⟨some 16, none, .v fun s => binA prog .eql 99 (s.get 11) (s.get 15)⟩] K s := (den_regD hf r4_draw K s).trans (by kernel_rfl)
theorem i1_eq (K : List Item) (s : St) : den prog ann 81 (.code i1 :: K) s = ifV prog ann 81 16 i1t i1e K s (s.get 16) := den_if hf (by kernel_rfl) K s
theorem i1t_eq (K : List Item) (s : St) : den prog ann 81 (.code i1t :: K) s = den prog ann 81 (.code r5 :: .code .ret :: K) s := den_flat hf (l := [r5, .ret]) (by kernel_rfl) K s
theorem r5_eq (K : List Item) (s : St) : den prog ann 81 (.code r5 :: K) s = mreg prog ann 81 none [] none [] [
    ⟨some 17, none, .v fun s => some (s.get 5)⟩,
    ⟨some 4, none, .v fun s => some (s.get 17)⟩] K s := (den_reg hf _ K s).trans (by kernel_rfl)
theorem i1e_eq (K : List Item) (s : St) : den prog ann 81 (.code i1e :: K) s = den prog ann 81 (K) s := den_flat hf (l := []) (by kernel_rfl) K s
theorem r6_eq (K : List Item) (s : St) : den prog ann 81 (.code r6 :: K) s = mreg prog ann 81 (some [0, 3, 7, 8]) [] none [] [
    ⟨some 18, none, .v fun s => binA prog .add 3 (s.get 8) (.int .i64 1)⟩,
    ⟨some 8, none, .v fun s => some (s.get 18)⟩] K s := (den_reg hf _ K s).trans (by kernel_rfl)
theorem r7_eq (K : List Item) (s : St) : den prog ann 81 (.code r7 :: K) s = mreg prog ann 81 (some []) [] none [] [
    ⟨some 4, none, .v fun s => some (.int .i64 (-1))⟩] K s := (den_reg hf _ K s).trans (by kernel_rfl)
theorem ret_eq (K : List Item) (s : St) : den prog ann 81 (.code .ret :: K) s = finM true [fun s => some (s.get 4)] s := (den_ret hf K s).trans (by kernel_rfl)
theorem nil_eq (s : St) : den prog ann 81 [] s = finM true [fun s => some (s.get 4)] s := (den_nil hf s).trans (by kernel_rfl)
theorem inBlock_eq (id : Nat) (K : List Item) (s : St) : den prog ann 81 (.inBlock id :: K) s = den prog ann 81 K s := den_inBlock hf id K s
theorem exit_eq (id : Nat) (K : List Item) (s : St) : den prog ann 81 (.code (.exit id) :: K) s = exitV prog ann 81 (exitTo id K) s := den_exitV hf id K s
theorem call_eq (v0 v1 : AV) (m : Mem) (h : closedL [v0, v1] = true) : denC prog ann 81 [v0, v1] m = (den prog ann 81 [.code b] ⟨[(0, v0), (1, v1)], 19, Mem.empty⟩).bind fun r => some (r.1, m) := (denC_pure hf (b := b) (by kernel_rfl) (by kernel_rfl) (by kernel_rfl) h m).trans (by kernel_rfl)
theorem pure_eq : (ann 81).pure = true := by kernel_rfl
attribute [simp] b_eq r0_eq r1_eq k0_eq l0_eq r2_eq i0_eq i0t_eq i0e_eq k1_eq r3_eq r4_eq i1_eq i1t_eq r5_eq i1e_eq r6_eq r7_eq ret_eq nil_eq inBlock_eq exit_eq pure_eq
end slices_Index_cut

namespace slices_Contains_cut
/-- slices.Containspommel/watch.cutpommel/watch.cut -/
noncomputable def b : Code := (Try.f96.body).getD .skip
theorem hf : prog.funcs[96]? = some Try.f96 := by kernel_rfl
noncomputable def r0 : Code := findReg b 0
noncomputable def r1 : Code := findReg b 1
theorem b_eq (K : List Item) (s : St) : den prog ann 96 (.code b :: K) s = den prog ann 96 (.code r0 :: .code r1 :: .code .ret :: K) s := den_flat hf (l := [r0, r1, .ret]) (by kernel_rfl) K s
theorem r0_eq (K : List Item) (s : St) : den prog ann 96 (.code r0 :: K) s = mreg prog ann 96 none [] none [] [
    ⟨some 3, none, .v fun s => frozenPtr (s.get 1)⟩,
    ⟨some 4, none, .v fun s => some (.bool false)⟩] K s := (den_reg hf _ K s).trans (by kernel_rfl)
theorem r1_eq (K : List Item) (s : St) : den prog ann 96 (.code r1 :: K) s = mreg prog ann 96 none [] none [] [
    ⟨some 5, none, .v fun s => some (s.get 0)⟩,
    ⟨some 6, none, .v fun s => loadF true 4 (s.get 3)⟩,
    ⟨some 7, none, .c 0 (fun s => (.fn 81 [] [])) fun s => [(s.get 5), (s.get 6)]⟩,
    ⟨some 8, none, .v fun s => binA prog .geq 3 (s.get 7) (.int .i64 0)⟩,
    ⟨some 4, none, .v fun s => some (s.get 8)⟩] K s := (den_reg hf _ K s).trans (by kernel_rfl)
theorem ret_eq (K : List Item) (s : St) : den prog ann 96 (.code .ret :: K) s = finM true [fun s => some (s.get 4)] s := (den_ret hf K s).trans (by kernel_rfl)
theorem nil_eq (s : St) : den prog ann 96 [] s = finM true [fun s => some (s.get 4)] s := (den_nil hf s).trans (by kernel_rfl)
theorem inBlock_eq (id : Nat) (K : List Item) (s : St) : den prog ann 96 (.inBlock id :: K) s = den prog ann 96 K s := den_inBlock hf id K s
theorem exit_eq (id : Nat) (K : List Item) (s : St) : den prog ann 96 (.code (.exit id) :: K) s = exitV prog ann 96 (exitTo id K) s := den_exitV hf id K s
theorem call_eq (v0 v1 : AV) (m : Mem) (h : closedL [v0, v1] = true) : denC prog ann 96 [v0, v1] m = (den prog ann 96 [.code b] ⟨[(0, v0), (1, v1)], 9, Mem.empty⟩).bind fun r => some (r.1, m) := (denC_pure hf (b := b) (by kernel_rfl) (by kernel_rfl) (by kernel_rfl) h m).trans (by kernel_rfl)
theorem pure_eq : (ann 96).pure = true := by kernel_rfl
attribute [simp] b_eq r0_eq r1_eq ret_eq nil_eq inBlock_eq exit_eq pure_eq
end slices_Contains_cut

namespace watch_read_1
/-- pommel/watch.read$1 -/
noncomputable def b : Code := (Try.f94.body).getD .skip
theorem hf : prog.funcs[94]? = some Try.f94 := by kernel_rfl
noncomputable def r0 : Code := findReg b 0
noncomputable def r1 : Code := findReg b 1
theorem b_eq (K : List Item) (s : St) : den prog ann 94 (.code b :: K) s = den prog ann 94 (.code r0 :: .code r1 :: .code .ret :: K) s := den_flat hf (l := [r0, r1, .ret]) (by kernel_rfl) K s
theorem r0_eq (K : List Item) (s : St) : den prog ann 94 (.code r0 :: K) s = mreg prog ann 94 none [] none [] [
    ⟨some 6, none, .v fun s => some (.bool false)⟩] K s := (den_reg hf _ K s).trans (by kernel_rfl)
theorem r1_eq (K : List Item) (s : St) : den prog ann 94 (.code r1 :: K) s = mreg prog ann 94 none [] none [] [
    ⟨some 7, none, .v fun s => some (s.get 0)⟩,
    ⟨some 8, none, .v fun s => binA prog .geq 3 (s.get 7) (.int .i64 0)⟩,
    ⟨some 9, none, .v fun s => some (s.get 8)⟩,
    ⟨some 10, some (9, true), .v fun s => some (s.get 0)⟩,
    ⟨some 11, some (9, true), .v fun s => loadA false 1 s.m (s.get 2)⟩,
    ⟨some 12, some (9, true), .v fun s => binA prog .lss 3 (s.get 10) (s.get 11)⟩,
    ⟨some 13, none, .v fun s => pickA (s.get 9) (s.get 12) (.bool false)⟩,
    ⟨some 14, none, .v fun s => some (s.get 13)⟩,
    ⟨some 15, some (14, true), .v fun s => some (s.get 1)⟩,
    ⟨some 16, some (14, true), .v fun s => binA prog .geq 3 (s.get 15) (.int .i64 1)⟩,
    ⟨some 17, none, .v fun s => pickA (s.get 14) (s.get 16) (.bool false)⟩,
    ⟨some 18, none, .v fun s => some (s.get 17)⟩,
    ⟨some 19, some (18, true), .v fun s => some (s.get 1)⟩,
    ⟨some 20, some (18, true), .v fun s => fieldA 0 (s.get 3)⟩,
    ⟨some 21, some (18, true), .v fun s => loadA false 1 s.m (s.get 20)⟩,
    ⟨some 22, some (18, true), .v fun s => some (s.get 0)⟩,
    ⟨some 23, some (18, true), .v fun s => idxSl 1 (s.get 21) (s.get 22)⟩,
    ⟨some 24, some (18, true), .v fun s => loadA false 1 s.m (s.get 23)⟩,
    ⟨some 25, some (18, true), .v fun s => binA prog .leq 3 (s.get 19) (s.get 24)⟩,
    ⟨some 26, none, .v fun s => pickA (s.get 18) (s.get 25) (.bool false)⟩,
    ⟨some 6, none, .v fun s => some (s.get 26)⟩] K s := (den_reg hf _ K s).trans (by kernel_rfl)
theorem ret_eq (K : List Item) (s : St) : den prog ann 94 (.code .ret :: K) s = finM false [fun s => some (s.get 6)] s := (den_ret hf K s).trans (by kernel_rfl)
theorem nil_eq (s : St) : den prog ann 94 [] s = finM false [fun s => some (s.get 6)] s := (den_nil hf s).trans (by kernel_rfl)
theorem inBlock_eq (id : Nat) (K : List Item) (s : St) : den prog ann 94 (.inBlock id :: K) s = den prog ann 94 K s := den_inBlock hf id K s
theorem exit_eq (id : Nat) (K : List Item) (s : St) : den prog ann 94 (.code (.exit id) :: K) s = exitV prog ann 94 (exitTo id K) s := den_exitV hf id K s
theorem call_eq (v0 v1 v2 v3 : AV) (m : Mem) : denC prog ann 94 [v0, v1, v2, v3] m = den prog ann 94 [.code b] ⟨[(0, v0), (1, v1), (2, v2), (3, v3)], 27, m⟩ := (denC_impure hf (b := b) (by kernel_rfl) (by kernel_rfl) (by kernel_rfl) m).trans (by kernel_rfl)
theorem pure_eq : (ann 94).pure = false := by kernel_rfl
attribute [simp] b_eq r0_eq r1_eq ret_eq nil_eq inBlock_eq exit_eq pure_eq
end watch_read_1

namespace watch_read_2
/-- pommel/watch.read$2 -/
noncomputable def b : Code := (Try.f95.body).getD .skip
theorem hf : prog.funcs[95]? = some Try.f95 := by kernel_rfl
noncomputable def r0 : Code := findReg b 0
noncomputable def r1 : Code := findReg b 1
noncomputable def r2 : Code := findReg b 2
noncomputable def i0 : Code := findCond b 0
noncomputable def i0t : Code := thenOf i0
noncomputable def i0e : Code := elseOf i0
noncomputable def r3 : Code := findReg b 3
theorem b_eq (K : List Item) (s : St) : den prog ann 95 (.code b :: K) s = den prog ann 95 (.code r0 :: .code r1 :: .code r2 :: .code i0 :: K) s := den_flat hf (l := [r0, r1, r2, i0]) (by kernel_rfl) K s
theorem r0_eq (K : List Item) (s : St) : den prog ann 95 (.code r0 :: K) s = mreg prog ann 95 none [] none [] [
    ⟨some 7, none, .v fun s => frozenPtr (s.get 2)⟩] K s := (den_reg hf _ K s).trans (by kernel_rfl)
theorem r1_draw : drawOk (fun g => (ann g).pure) (modeOf (ann 95) (idOf r1)) (frzOf (ann 95) (idOf r1)) (opsOf r1) = true := drawOk_of (an := [0, 0, 1, 5, 15, 31, 0, 127, 255, 0, 1023, 0, 4095]) (by kernel_rfl) (by kernel_rfl)
theorem r1_eq (K : List Item) (s : St) : den prog ann 95 (.code r1 :: K) s = mreg prog ann 95 none [] (some 13) [8] [
    ⟨some 9, none, .v fun s => loadA false 1 s.m (s.get 3)⟩,
    ⟨some 10, none, .v fun s => some (s.get 0)⟩,
    ⟨some 11, none, .v fun s => nilA (s.get 9)⟩,
    ⟨some 12, none, .v fun s => fieldA 5 (s.get 11)⟩,
    ⟨some 13, none, .v fun s => idxArr 4 1 (s.get 12) (s.get 10)⟩,
    ⟨some 14, none, .v fun s => loadA false 1 s.m (s.get 13)⟩,
    ⟨some 15, none, .v fun s => some (s.get 1)⟩,
    ⟨some 16, none, .v fun s => idxSl 4 (s.get 14) (s.get 15)⟩,
    ⟨some 17, none, .v fun s => loadA true 4 s.m (s.get 16)⟩,
    ⟨some 18, none, .v fun s => loadF true 4 (s.get 7)⟩,
    ⟨some 19, none, .c 0 (fun s => (.fn 91 [] [])) fun s => [(s.get 17), (s.get 18)]⟩,
    ⟨some 8, none, .w false (some 11) fun s => newPtr s.m [.int .i64 0, .int .i64 0, .int .i64 0, .int .i64 0]⟩,
    ⟨none, none, .w false (some 12) fun s => stA true 4 s.m (s.get 8) (s.get 19)⟩] K s := (den_regD hf r1_draw K s).trans (by kernel_rfl)
theorem r2_draw : drawOk (fun g => (ann g).pure) (modeOf (ann 95) (idOf r2)) (frzOf (ann 95) (idOf r2)) (opsOf r2) = true := drawOk_of (an := [0, 0, 0, 2, 10, 30, 62, 0, 254, 510, 1023]) (by kernel_rfl) (by kernel_rfl)
theorem r2_eq (K : List Item) (s : St) : den prog ann 95 (.code r2 :: K) s = mreg prog ann 95 none [] (some 11) [] [
    ⟨some 20, none, .v fun s => loadF true 4 (s.get 8)⟩,
    ⟨some 21, none, .v fun s => loadA false 1 s.m (s.get 3)⟩,
    ⟨some 22, none, .v fun s => some (s.get 0)⟩,
    ⟨some 23, none, .v fun s => nilA (s.get 21)⟩,
    ⟨some 24, none, .v fun s => fieldA 5 (s.get 23)⟩,
    ⟨some 25, none, .v fun s => idxArr 4 1 (s.get 24) (s.get 22)⟩,
    ⟨some 26, none, .v fun s => loadA false 1 s.m (s.get 25)⟩,
    ⟨some 27, none, .v fun s => some (s.get 1)⟩,
    ⟨some 28, none, .v fun s => idxSl 4 (s.get 26) (s.get 27)⟩,
    ⟨some 29, none, .v fun s => loadA true 4 s.m (s.get 28)⟩,
    ⟨some 30, none, .v fun s => binA prog .neq 99 (s.get 20) (s.get 29)⟩] K s := (den_regD hf r2_draw K s).trans (by kernel_rfl)
theorem i0_eq (K : List Item) (s : St) : den prog ann 95 (.code i0 :: K) s = ifV prog ann 95 30 i0t i0e K s (s.get 30) := den_if hf (by kernel_rfl) K s
theorem i0t_eq (K : List Item) (s : St) : den prog ann 95 (.code i0t :: K) s = den prog ann 95 (.code r3 :: K) s := den_flat hf (l := [r3]) (by kernel_rfl) K s
theorem r3_draw : drawOk (fun g => (ann g).pure) (modeOf (ann 95) (idOf r3)) (frzOf (ann 95) (idOf r3)) (opsOf r3) = true := drawOk_of (an := [0, 0, 1, 5, 15, 31, 0, 0, 255, 511, 1023]) (by kernel_rfl) (by kernel_rfl)
theorem r3_eq (K : List Item) (s : St) : den prog ann 95 (.code r3 :: K) s = mreg prog ann 95 none [] (some 11) [] [
    ⟨some 31, none, .v fun s => loadA false 1 s.m (s.get 3)⟩,
    ⟨some 32, none, .v fun s => some (s.get 0)⟩,
    ⟨some 33, none, .v fun s => nilA (s.get 31)⟩,
    ⟨some 34, none, .v fun s => fieldA 5 (s.get 33)⟩,
    ⟨some 35, none, .v fun s => idxArr 4 1 (s.get 34) (s.get 32)⟩,
    ⟨some 36, none, .v fun s => loadA false 1 s.m (s.get 35)⟩,
    ⟨some 37, none, .v fun s => some (s.get 1)⟩,
    ⟨some 38, none, .v fun s => loadF true 4 (s.get 8)⟩,
    ⟨some 39, none, .v fun s => idxSl 4 (s.get 36) (s.get 37)⟩,
    ⟨none, none, .w false (some 9) fun s => stA true 4 s.m (s.get 39) (s.get 38)⟩,
    ⟨none, none, .w false (some 10) fun s => stA false 1 s.m (s.get 4) (.bool true)⟩] K s := (den_regD hf r3_draw K s).trans (by kernel_rfl)
theorem i0e_eq (K : List Item) (s : St) : den prog ann 95 (.code i0e :: K) s = den prog ann 95 (K) s := den_flat hf (l := []) (by kernel_rfl) K s
theorem ret_eq (K : List Item) (s : St) : den prog ann 95 (.code .ret :: K) s = finM false [] s := (den_ret hf K s).trans (by kernel_rfl)
theorem nil_eq (s : St) : den prog ann 95 [] s = finM false [] s := (den_nil hf s).trans (by kernel_rfl)
theorem inBlock_eq (id : Nat) (K : List Item) (s : St) : den prog ann 95 (.inBlock id :: K) s = den prog ann 95 K s := den_inBlock hf id K s
theorem exit_eq (id : Nat) (K : List Item) (s : St) : den prog ann 95 (.code (.exit id) :: K) s = exitV prog ann 95 (exitTo id K) s := den_exitV hf id K s
theorem call_eq (v0 v1 v2 v3 v4 : AV) (m : Mem) : denC prog ann 95 [v0, v1, v2, v3, v4] m = den prog ann 95 [.code b] ⟨[(0, v0), (1, v1), (2, v2), (3, v3), (4, v4)], 40, m⟩ := (denC_impure hf (b := b) (by kernel_rfl) (by kernel_rfl) (by kernel_rfl) m).trans (by kernel_rfl)
theorem pure_eq : (ann 95).pure = false := by kernel_rfl
attribute [simp] b_eq r0_eq r1_eq r2_eq i0_eq i0t_eq r3_eq i0e_eq ret_eq nil_eq inBlock_eq exit_eq pure_eq
end watch_read_2

namespace watch_read
/-- pommel/watch.read -/
noncomputable def b : Code := (Try.f61.body).getD .skip
theorem hf : prog.funcs[61]? = some Try.f61 := by kernel_rfl
noncomputable def r0 : Code := findReg b 0
noncomputable def r1 : Code := findReg b 1
noncomputable def r2 : Code := findReg b 2
noncomputable def i0 : Code := findCond b 0
noncomputable def i0t : Code := thenOf i0
noncomputable def i0e : Code := elseOf i0
noncomputable def r3 : Code := findReg b 3
noncomputable def r4 : Code := findReg b 4
noncomputable def r5 : Code := findReg b 5
noncomputable def r6 : Code := findReg b 6
noncomputable def r7 : Code := findReg b 7
noncomputable def k0 : Code := findBlk b 0
noncomputable def l0 : Code := loopOf k0
noncomputable def L0 (x1 x4 x5 x6 x61 x62 x63 : AV) (m : Mem) (K : List Item) : Option Res := den prog ann 61 (.code l0 :: .inLoop l0 :: .inBlock 0 :: K) ⟨[(1, x1), (4, x4), (5, x5), (6, x6), (61, x61), (62, x62), (63, x63)], 224, m⟩
noncomputable def r8 : Code := findReg b 8
noncomputable def i1 : Code := findCond b 1
noncomputable def i1t : Code := thenOf i1
noncomputable def i1e : Code := elseOf i1
noncomputable def k1 : Code := findBlk b 1
noncomputable def r9 : Code := findReg b 9
noncomputable def r10 : Code := findReg b 10
noncomputable def i2 : Code := findCond b 2
noncomputable def i2t : Code := thenOf i2
noncomputable def i2e : Code := elseOf i2
noncomputable def r11 : Code := findReg b 11
noncomputable def r12 : Code := findReg b 12
noncomputable def r13 : Code := findReg b 13
noncomputable def k2 : Code := findBlk b 2
noncomputable def l2 : Code := loopOf k2
noncomputable def L2 (x1 x4 x5 x91 x92 : AV) (m : Mem) (K : List Item) : Option Res := den prog ann 61 (.code l2 :: .inLoop l2 :: .inBlock 2 :: K) ⟨[(1, x1), (4, x4), (5, x5), (91, x91), (92, x92)], 224, m⟩
noncomputable def r14 : Code := findReg b 14
noncomputable def i3 : Code := findCond b 3
noncomputable def i3t : Code := thenOf i3
noncomputable def i3e : Code := elseOf i3
noncomputable def k3 : Code := findBlk b 3
noncomputable def r15 : Code := findReg b 15
noncomputable def r16 : Code := findReg b 16
noncomputable def k4 : Code := findBlk b 4
noncomputable def l4 : Code := loopOf k4
noncomputable def L4 (x1 x4 x5 x9 x91 x92 x99 x100 : AV) (m : Mem) (K : List Item) : Option Res := den prog ann 61 (.code l4 :: .inLoop l4 :: .inBlock 4 :: K) ⟨[(1, x1), (4, x4), (5, x5), (9, x9), (91, x91), (92, x92), (99, x99), (100, x100)], 224, m⟩
noncomputable def r17 : Code := findReg b 17
noncomputable def i4 : Code := findCond b 4
noncomputable def i4t : Code := thenOf i4
noncomputable def i4e : Code := elseOf i4
noncomputable def k5 : Code := findBlk b 5
noncomputable def r18 : Code := findReg b 18
noncomputable def r19 : Code := findReg b 19
noncomputable def r20 : Code := findReg b 20
noncomputable def r21 : Code := findReg b 21
noncomputable def r22 : Code := findReg b 22
noncomputable def r23 : Code := findReg b 23
noncomputable def r24 : Code := findReg b 24
noncomputable def k6 : Code := findBlk b 6
noncomputable def l6 : Code := loopOf k6
noncomputable def L6 (x1 x4 x5 x12 : AV) (m : Mem) (K : List Item) : Option Res := den prog ann 61 (.code l6 :: .inLoop l6 :: .inBlock 6 :: K) ⟨[(1, x1), (4, x4), (5, x5), (12, x12)], 224, m⟩
noncomputable def r25 : Code := findReg b 25
noncomputable def i5 : Code := findCond b 5
noncomputable def i5t : Code := thenOf i5
noncomputable def i5e : Code := elseOf i5
noncomputable def k7 : Code := findBlk b 7
noncomputable def r26 : Code := findReg b 26
noncomputable def r27 : Code := findReg b 27
noncomputable def r28 : Code := findReg b 28
noncomputable def k8 : Code := findBlk b 8
noncomputable def l8 : Code := loopOf k8
noncomputable def L8 (x1 x4 x5 x12 x13 x125 x126 : AV) (m : Mem) (K : List Item) : Option Res := den prog ann 61 (.code l8 :: .inLoop l8 :: .inBlock 8 :: K) ⟨[(1, x1), (4, x4), (5, x5), (12, x12), (13, x13), (125, x125), (126, x126)], 224, m⟩
noncomputable def r29 : Code := findReg b 29
noncomputable def i6 : Code := findCond b 6
noncomputable def i6t : Code := thenOf i6
noncomputable def i6e : Code := elseOf i6
noncomputable def k9 : Code := findBlk b 9
noncomputable def r30 : Code := findReg b 30
noncomputable def r31 : Code := findReg b 31
noncomputable def k10 : Code := findBlk b 10
noncomputable def l10 : Code := loopOf k10
noncomputable def L10 (x1 x4 x5 x12 x13 x14 x15 x125 x126 : AV) (m : Mem) (K : List Item) : Option Res := den prog ann 61 (.code l10 :: .inLoop l10 :: .inBlock 10 :: K) ⟨[(1, x1), (4, x4), (5, x5), (12, x12), (13, x13), (14, x14), (15, x15), (125, x125), (126, x126)], 224, m⟩
noncomputable def r32 : Code := findReg b 32
noncomputable def i7 : Code := findCond b 7
noncomputable def i7t : Code := thenOf i7
noncomputable def i7e : Code := elseOf i7
noncomputable def k11 : Code := findBlk b 11
noncomputable def r34 : Code := findReg b 34
noncomputable def r33 : Code := findReg b 33
noncomputable def r35 : Code := findReg b 35
noncomputable def r36 : Code := findReg b 36
noncomputable def k12 : Code := findBlk b 12
noncomputable def l12 : Code := loopOf k12
noncomputable def L12 (x1 x4 x5 x12 x13 x154 x155 x156 : AV) (m : Mem) (K : List Item) : Option Res := den prog ann 61 (.code l12 :: .inLoop l12 :: .inBlock 12 :: K) ⟨[(1, x1), (4, x4), (5, x5), (12, x12), (13, x13), (154, x154), (155, x155), (156, x156)], 224, m⟩
noncomputable def r37 : Code := findReg b 37
noncomputable def i8 : Code := findCond b 8
noncomputable def i8t : Code := thenOf i8
noncomputable def i8e : Code := elseOf i8
noncomputable def k13 : Code := findBlk b 13
noncomputable def r38 : Code := findReg b 38
noncomputable def r39 : Code := findReg b 39
noncomputable def r40 : Code := findReg b 40
noncomputable def r41 : Code := findReg b 41
noncomputable def r42 : Code := findReg b 42
noncomputable def r43 : Code := findReg b 43
noncomputable def k14 : Code := findBlk b 14
noncomputable def l14 : Code := loopOf k14
noncomputable def L14 (x4 x5 x181 x182 : AV) (m : Mem) (K : List Item) : Option Res := den prog ann 61 (.code l14 :: .inLoop l14 :: .inBlock 14 :: K) ⟨[(4, x4), (5, x5), (181, x181), (182, x182)], 224, m⟩
noncomputable def r44 : Code := findReg b 44
noncomputable def i9 : Code := findCond b 9
noncomputable def i9t : Code := thenOf i9
noncomputable def i9e : Code := elseOf i9
noncomputable def k15 : Code := findBlk b 15
noncomputable def r45 : Code := findReg b 45
noncomputable def r46 : Code := findReg b 46
noncomputable def k16 : Code := findBlk b 16
noncomputable def l16 : Code := loopOf k16
noncomputable def L16 (x4 x5 x18 x181 x182 x190 x191 x192 : AV) (m : Mem) (K : List Item) : Option Res := den prog ann 61 (.code l16 :: .inLoop l16 :: .inBlock 16 :: K) ⟨[(4, x4), (5, x5), (18, x18), (181, x181), (182, x182), (190, x190), (191, x191), (192, x192)], 224, m⟩
noncomputable def r47 : Code := findReg b 47
noncomputable def i10 : Code := findCond b 10
noncomputable def i10t : Code := thenOf i10
noncomputable def i10e : Code := elseOf i10
noncomputable def k17 : Code := findBlk b 17
noncomputable def r48 : Code := findReg b 48
noncomputable def r49 : Code := findReg b 49
noncomputable def i11 : Code := findCond b 11
noncomputable def i11t : Code := thenOf i11
noncomputable def i11e : Code := elseOf i11
noncomputable def r50 : Code := findReg b 50
noncomputable def r51 : Code := findReg b 51
noncomputable def k18 : Code := findBlk b 18
noncomputable def l18 : Code := loopOf k18
noncomputable def L18 (x4 x5 x18 x20 x181 x182 x190 x191 x192 x203 x204 : AV) (m : Mem) (K : List Item) : Option Res := den prog ann 61 (.code l18 :: .inLoop l18 :: .inBlock 18 :: K) ⟨[(4, x4), (5, x5), (18, x18), (20, x20), (181, x181), (182, x182), (190, x190), (191, x191), (192, x192), (203, x203), (204, x204)], 224, m⟩
noncomputable def r52 : Code := findReg b 52
noncomputable def i12 : Code := findCond b 12
noncomputable def i12t : Code := thenOf i12
noncomputable def i12e : Code := elseOf i12
noncomputable def k19 : Code := findBlk b 19
noncomputable def r53 : Code := findReg b 53
noncomputable def r54 : Code := findReg b 54
noncomputable def i13 : Code := findCond b 13
noncomputable def i13t : Code := thenOf i13
noncomputable def i13e : Code := elseOf i13
noncomputable def r55 : Code := findReg b 55
noncomputable def r56 : Code := findReg b 56
noncomputable def r57 : Code := findReg b 57
noncomputable def r58 : Code := findReg b 58
noncomputable def r59 : Code := findReg b 59
theorem b_eq (K : List Item) (s : St) : den prog ann 61 (.code b :: K) s = den prog ann 61 (.code r0 :: .code r1 :: .code r2 :: .code i0 :: .code r4 :: .code r5 :: .code r6 :: .code r7 :: .code k0 :: .code r13 :: .code k2 :: .code r24 :: .code k6 :: .code r43 :: .code k14 :: .code r59 :: .code .ret :: K) s := den_flat hf (l := [r0, r1, r2, i0, r4, r5, r6, r7, k0, r13, k2, r24, k6, r43, k14, r59, .ret]) (by kernel_rfl) K s
theorem r0_eq (K : List Item) (s : St) : den prog ann 61 (.code r0 :: K) s = mreg prog ann 61 none [] none [] [
    ⟨some 1, none, .v fun s => frozenPtr (s.get 0)⟩,
    ⟨some 2, none, .v fun s => some (.nilp)⟩,
    ⟨some 3, none, .v fun s => some (.bool false)⟩] K s := (den_reg hf _ K s).trans (by kernel_rfl)
theorem r1_eq (K : List Item) (s : St) : den prog ann 61 (.code r1 :: K) s = mreg prog ann 61 none [] none [4] [
    ⟨some 22, none, .v fun s => fieldA 0 (s.get 1)⟩,
    ⟨some 23, none, .v fun s => loadF false 1 (s.get 22)⟩,
    ⟨some 24, none, .v fun s => lenSl (s.get 23)⟩,
    ⟨some 4, none, .w false none fun s => newPtr s.m [.int .i64 0]⟩,
    ⟨none, none, .w false none fun s => stA false 1 s.m (s.get 4) (s.get 24)⟩] K s := (den_reg hf _ K s).trans (by kernel_rfl)
theorem r2_eq (K : List Item) (s : St) : den prog ann 61 (.code r2 :: K) s = mreg prog ann 61 none [] none [] [
    ⟨some 25, none, .v fun s => loadF false 1 (s.get 4)⟩,
    ⟨some 26, none, .v fun s => binA prog .lss 3 (s.get 25) (.int .i64 1)⟩,
    ⟨some 27, none, .v fun s => some (s.get 26)⟩,
    ⟨some 28, some (27, false), .v fun s => loadF false 1 (s.get 4)⟩,
    ⟨some 29, some (27, false), .v fun s => binA prog .gtr 3 (s.get 28) (.int .i64 4)⟩,
    ⟨some 30, none, .v fun s => pickA (s.get 27) (.bool true) (s.get 29)⟩,
    ⟨some 31, none, .v fun s => some (s.get 30)⟩,
    ⟨some 32, some (31, false), .v fun s => fieldA 1 (s.get 1)⟩,
    ⟨some 33, some (31, false), .v fun s => loadF false 1 (s.get 32)⟩,
    ⟨some 34, some (31, false), .v fun s => lenSl (s.get 33)⟩,
    ⟨some 35, some (31, false), .v fun s => binA prog .gtr 3 (s.get 34) (.int .i64 24)⟩,
    ⟨some 36, none, .v fun s => pickA (s.get 31) (.bool true) (s.get 35)⟩,
    ⟨some 37, none, .v fun s => some (s.get 36)⟩,
    ⟨some 38, some (37, false), .v fun s => fieldA 0 (s.get 1)⟩,
    ⟨some 39, some (37, false), .v fun s => loadF false 1 (s.get 38)⟩,
    ⟨some 40, some (37, false), .c 0 (fun s => (.fn 92 [] [])) fun s => [(s.get 39)]⟩,
    ⟨some 41, some (37, false), .v fun s => binA prog .lss 3 (s.get 40) (.int .i64 0)⟩,
    ⟨some 42, none, .v fun s => pickA (s.get 37) (.bool true) (s.get 41)⟩,
    ⟨some 43, none, .v fun s => some (s.get 42)⟩,
    ⟨some 44, some (43, false), .v fun s => fieldA 0 (s.get 1)⟩,
    ⟨some 45, some (43, false), .v fun s => loadF false 1 (s.get 44)⟩,
    ⟨some 46, some (43, false), .c 0 (fun s => (.fn 93 [] [])) fun s => [(s.get 45)]⟩,
    ⟨some 47, some (43, false), .v fun s => binA prog .gtr 3 (s.get 46) (.int .i64 6)⟩,
    ⟨some 48, none, .v fun s => pickA (s.get 43) (.bool true) (s.get 47)⟩] K s := (den_reg hf _ K s).trans (by kernel_rfl)
theorem i0_eq (K : List Item) (s : St) : den prog ann 61 (.code i0 :: K) s = ifV prog ann 61 48 i0t i0e K s (s.get 48) := den_if hf (by kernel_rfl) K s
theorem i0t_eq (K : List Item) (s : St) : den prog ann 61 (.code i0t :: K) s = den prog ann 61 (.code r3 :: .code .ret :: K) s := den_flat hf (l := [r3, .ret]) (by kernel_rfl) K s
theorem r3_eq (K : List Item) (s : St) : den prog ann 61 (.code r3 :: K) s = mreg prog ann 61 none [] none [] [
    ⟨some 2, none, .v fun s => some (.nilp)⟩,
    ⟨some 3, none, .v fun s => some (.bool false)⟩] K s := (den_reg hf _ K s).trans (by kernel_rfl)
theorem i0e_eq (K : List Item) (s : St) : den prog ann 61 (.code i0e :: K) s = den prog ann 61 (K) s := den_flat hf (l := []) (by kernel_rfl) K s
theorem r4_eq (K : List Item) (s : St) : den prog ann 61 (.code r4 :: K) s = mreg prog ann 61 none [] none [5] [
    ⟨some 49, none, .v fun s => loadF false 1 (s.get 4)⟩,
    ⟨some 50, none, .v fun s => bldA (plc [(0, 1), (1, 4), (5, 4)]) [.int .i64 0, .int .i64 0, .int .i64 0, .int .i64 0, .int .i64 0, .nils, .nils, .nils, .nils] [(0, (s.get 49))]⟩,
    ⟨some 51, none, .w false none fun s => newPtr s.m (AV.cells (s.get 50))⟩,
    ⟨some 5, none, .w false none fun s => newPtr s.m [.nilp]⟩,
    ⟨none, none, .w false none fun s => stA false 1 s.m (s.get 5) (s.get 51)⟩] K s := (den_reg hf _ K s).trans (by kernel_rfl)
theorem r5_draw : drawOk (fun g => (ann g).pure) (modeOf (ann 61) (idOf r5)) (frzOf (ann 61) (idOf r5)) (opsOf r5) = true := drawOk_of (an := [0, 1, 3, 7, 0, 16, 63]) (by kernel_rfl) (by kernel_rfl)
theorem r5_eq (K : List Item) (s : St) : den prog ann 61 (.code r5 :: K) s = mreg prog ann 61 none [] (some 7) [] [
    ⟨some 52, none, .v fun s => loadF false 1 (s.get 5)⟩,
    ⟨some 53, none, .v fun s => nilA (s.get 52)⟩,
    ⟨some 54, none, .v fun s => fieldA 1 (s.get 53)⟩,
    ⟨some 55, none, .v fun s => sliceArr 4 1 (s.get 54) none none⟩,
    ⟨some 56, none, .v fun s => fieldA 0 (s.get 1)⟩,
    ⟨some 57, none, .v fun s => loadF false 1 (s.get 56)⟩,
    ⟨some 58, none, .w false (some 6) fun s => copyA 1 s.m (s.get 55) (s.get 57)⟩] K s := (den_regD hf r5_draw K s).trans (by kernel_rfl)
theorem r6_eq (K : List Item) (s : St) : den prog ann 61 (.code r6 :: K) s = mreg prog ann 61 none [] none [] [
    ⟨some 59, none, .v fun s => some (.fn 94 [] [(s.get 4), (s.get 1)])⟩,
    ⟨some 6, none, .v fun s => some (s.get 59)⟩] K s := (den_reg hf _ K s).trans (by kernel_rfl)
theorem r7_eq (K : List Item) (s : St) : den prog ann 61 (.code r7 :: K) s = mreg prog ann 61 none [] none [] [
    ⟨some 60, none, .v fun s => fieldA 1 (s.get 1)⟩,
    ⟨some 61, none, .v fun s => loadF false 1 (s.get 60)⟩,
    ⟨some 62, none, .v fun s => lenSl (s.get 61)⟩,
    ⟨some 63, none, .v fun s => some (.int .i64 0)⟩] K s := (den_reg hf _ K s).trans (by kernel_rfl)
theorem k0_eq (K : List Item) (t : List (Nat × AV)) (m : Mem) : den prog ann 61 (.code k0 :: K) ⟨t, 224, m⟩ = L0 (get t 1) (get t 4) (get t 5) (get t 6) (get t 61) (get t 62) (get t 63) m K := den_loop_enter hf (b := l0) (id := 8) (l := [1, 4, 5, 6, 61, 62, 63]) (by kernel_rfl) (by kernel_rfl) (by kernel_rfl) K _
theorem l0_eq (K : List Item) (t : List (Nat × AV)) (m : Mem) : den prog ann 61 (.inLoop l0 :: .inBlock 0 :: K) ⟨t, 224, m⟩ = L0 (get t 1) (get t 4) (get t 5) (get t 6) (get t 61) (get t 62) (get t 63) m K := den_loop_again hf (id := 8) (l := [1, 4, 5, 6, 61, 62, 63]) (by kernel_rfl) (by kernel_rfl) (.inBlock 0 :: K) _
theorem L0_eq (x1 x4 x5 x6 x61 x62 x63 : AV) (m : Mem) (K : List Item) : L0 x1 x4 x5 x6 x61 x62 x63 m K = den prog ann 61 (.code r8 :: .code i1 :: .code k1 :: .code r12 :: .inLoop l0 :: .inBlock 0 :: K) ⟨[(1, x1), (4, x4), (5, x5), (6, x6), (61, x61), (62, x62), (63, x63)], 224, m⟩ := den_flat hf (l := [r8, i1, k1, r12]) (by kernel_rfl) _ _
theorem r8_eq (K : List Item) (s : St) : den prog ann 61 (.code r8 :: K) s = mreg prog ann 61 (some [1, 4, 5, 6, 61, 62, 63]) [] none [] [
    ⟨some 64, none, .v fun s => binA prog .lss 3 (s.get 63) (s.get 62)⟩] K s := (den_reg hf _ K s).trans (by kernel_rfl)
theorem i1_eq (K : List Item) (s : St) : den prog ann 61 (.code i1 :: K) s = ifV prog ann 61 64 i1t i1e K s (s.get 64) := den_if hf (by kernel_rfl) K s
theorem i1t_eq (K : List Item) (s : St) : den prog ann 61 (.code i1t :: K) s = den prog ann 61 (K) s := den_flat hf (l := []) (by kernel_rfl) K s
theorem i1e_eq (K : List Item) (s : St) : den prog ann 61 (.code i1e :: K) s = den prog ann 61 (.code (.exit 0) :: K) s := den_flat hf (l := [(.exit 0)]) (by kernel_rfl) K s
theorem k1_eq (K : List Item) (s : St) : den prog ann 61 (.code k1 :: K) s = den prog ann 61 (.code r9 :: .code r10 :: .code i2 :: .inBlock 1 :: K) s := den_blk hf (b := blkOf k1) (l := [r9, r10, i2]) (by kernel_rfl) (by kernel_rfl) K s
theorem r9_eq (K : List Item) (s : St) : den prog ann 61 (.code r9 :: K) s = mreg prog ann 61 none [] none [8] [
    ⟨some 65, none, .v fun s => idxSl 4 (s.get 61) (s.get 63)⟩,
    ⟨some 66, none, .v fun s => loadF true 4 (s.get 65)⟩,
    ⟨some 8, none, .w false none fun s => newPtr s.m [.int .i64 0, .int .i64 0, .int .i64 0, .int .i64 0]⟩,
    ⟨none, none, .w false none fun s => stA true 4 s.m (s.get 8) (s.get 66)⟩] K s := (den_reg hf _ K s).trans (by kernel_rfl)
theorem r10_eq (K : List Item) (s : St) : den prog ann 61 (.code r10 :: K) s = mreg prog ann 61 none [] none [] [
    ⟨some 67, none, .v fun s => some (s.get 6)⟩,
    ⟨some 68, none, .v fun s => fieldA 0 (s.get 8)⟩,
    ⟨some 69, none, .v fun s => loadF false 1 (s.get 68)⟩,
    ⟨some 70, none, .v fun s => fieldA 1 (s.get 8)⟩,
    ⟨some 71, none, .v fun s => loadF false 1 (s.get 70)⟩,
    ⟨some 72, none, .c 0 (fun s => (s.get 67)) fun s => [(s.get 69), (s.get 71)]⟩,
    ⟨some 73, none, .v fun s => unA .not (s.get 72)⟩,
    ⟨some 74, none, .v fun s => some (s.get 73)⟩,
    ⟨some 75, some (74, false), .v fun s => some (s.get 6)⟩,
    ⟨some 76, some (74, false), .v fun s => fieldA 2 (s.get 8)⟩,
    ⟨some 77, some (74, false), .v fun s => loadF false 1 (s.get 76)⟩,
    ⟨some 78, some (74, false), .v fun s => fieldA 3 (s.get 8)⟩,
    ⟨some 79, some (74, false), .v fun s => loadF false 1 (s.get 78)⟩,
    ⟨some 80, some (74, false), .c 0 (fun s => (s.get 75)) fun s => [(s.get 77), (s.get 79)]⟩,
    ⟨some 81, some (74, false), .v fun s => unA .not (s.get 80)⟩,
    ⟨some 82, none, .v fun s => pickA (s.get 74) (.bool true) (s.get 81)⟩,
    ⟨some 83, none, .v fun s => some (s.get 82)⟩,
    ⟨some 84, some (83, false), .v fun s => fieldA 0 (s.get 8)⟩,
    ⟨some 85, some (83, false), .v fun s => loadF false 1 (s.get 84)⟩,
    ⟨some 86, some (83, false), .v fun s => fieldA 2 (s.get 8)⟩,
    ⟨some 87, some (83, false), .v fun s => loadF false 1 (s.get 86)⟩,
    ⟨some 88, some (83, false), .v fun s => binA prog .eql 3 (s.get 85) (s.get 87)⟩,
    ⟨some 89, none, .v fun s => pickA (s.get 83) (.bool true) (s.get 88)⟩] K s := (den_reg hf _ K s).trans (by kernel_rfl)
theorem i2_eq (K : List Item) (s : St) : den prog ann 61 (.code i2 :: K) s = ifV prog ann 61 89 i2t i2e K s (s.get 89) := den_if hf (by kernel_rfl) K s
theorem i2t_eq (K : List Item) (s : St) : den prog ann 61 (.code i2t :: K) s = den prog ann 61 (.code r11 :: .code .ret :: K) s := den_flat hf (l := [r11, .ret]) (by kernel_rfl) K s
theorem r11_eq (K : List Item) (s : St) : den prog ann 61 (.code r11 :: K) s = mreg prog ann 61 none [] none [] [
    ⟨some 2, none, .v fun s => some (.nilp)⟩,
    ⟨some 3, none, .v fun s => some (.bool false)⟩] K s := (den_reg hf _ K s).trans (by kernel_rfl)
theorem i2e_eq (K : List Item) (s : St) : den prog ann 61 (.code i2e :: K) s = den prog ann 61 (K) s := den_flat hf (l := []) (by kernel_rfl) K s
theorem r12_eq (K : List Item) (s : St) : den prog ann 61 (.code r12 :: K) s = mreg prog ann 61 (some [1, 4, 5, 6, 61, 62, 63]) [] none [] [
    ⟨some 90, none, .v fun s => binA prog .add 3 (s.get 63) (.int .i64 1)⟩,
    ⟨some 63, none, .v fun s => some (s.get 90)⟩] K s := (den_reg hf _ K s).trans (by kernel_rfl)
theorem r13_eq (K : List Item) (s : St) : den prog ann 61 (.code r13 :: K) s = mreg prog ann 61 (some [1, 4, 5]) [] none [] [
    ⟨some 91, none, .v fun s => loadF false 1 (s.get 4)⟩,
    ⟨some 92, none, .v fun s => some (.int .i64 0)⟩] K s := (den_reg hf _ K s).trans (by kernel_rfl)
theorem k2_eq (K : List Item) (t : List (Nat × AV)) (m : Mem) : den prog ann 61 (.code k2 :: K) ⟨t, 224, m⟩ = L2 (get t 1) (get t 4) (get t 5) (get t 91) (get t 92) m K := den_loop_enter hf (b := l2) (id := 14) (l := [1, 4, 5, 91, 92]) (by kernel_rfl) (by kernel_rfl) (by kernel_rfl) K _
theorem l2_eq (K : List Item) (t : List (Nat × AV)) (m : Mem) : den prog ann 61 (.inLoop l2 :: .inBlock 2 :: K) ⟨t, 224, m⟩ = L2 (get t 1) (get t 4) (get t 5) (get t 91) (get t 92) m K := den_loop_again hf (id := 14) (l := [1, 4, 5, 91, 92]) (by kernel_rfl) (by kernel_rfl) (.inBlock 2 :: K) _
theorem L2_eq (x1 x4 x5 x91 x92 : AV) (m : Mem) (K : List Item) : L2 x1 x4 x5 x91 x92 m K = den prog ann 61 (.code r14 :: .code i3 :: .code k3 :: .code r23 :: .inLoop l2 :: .inBlock 2 :: K) ⟨[(1, x1), (4, x4), (5, x5), (91, x91), (92, x92)], 224, m⟩ := den_flat hf (l := [r14, i3, k3, r23]) (by kernel_rfl) _ _
theorem r14_eq (K : List Item) (s : St) : den prog ann 61 (.code r14 :: K) s = mreg prog ann 61 (some [1, 4, 5, 91, 92]) [] none [] [
    ⟨some 93, none, .v fun s => binA prog .lss 3 (s.get 92) (s.get 91)⟩] K s := (den_reg hf _ K s).trans (by kernel_rfl)
theorem i3_eq (K : List Item) (s : St) : den prog ann 61 (.code i3 :: K) s = ifV prog ann 61 93 i3t i3e K s (s.get 93) := den_if hf (by kernel_rfl) K s
theorem i3t_eq (K : List Item) (s : St) : den prog ann 61 (.code i3t :: K) s = den prog ann 61 (K) s := den_flat hf (l := []) (by kernel_rfl) K s
theorem i3e_eq (K : List Item) (s : St) : den prog ann 61 (.code i3e :: K) s = den prog ann 61 (.code (.exit 2) :: K) s := den_flat hf (l := [(.exit 2)]) (by kernel_rfl) K s
theorem k3_eq (K : List Item) (s : St) : den prog ann 61 (.code k3 :: K) s = den prog ann 61 (.code r15 :: .code r16 :: .code k4 :: .inBlock 3 :: K) s := den_blk hf (b := blkOf k3) (l := [r15, r16, k4]) (by kernel_rfl) (by kernel_rfl) K s
theorem r15_eq (K : List Item) (s : St) : den prog ann 61 (.code r15 :: K) s = mreg prog ann 61 none [] none [] [
    ⟨some 94, none, .v fun s => some (s.get 92)⟩,
    ⟨some 9, none, .v fun s => some (s.get 94)⟩] K s := (den_reg hf _ K s).trans (by kernel_rfl)
theorem r16_eq (K : List Item) (s : St) : den prog ann 61 (.code r16 :: K) s = mreg prog ann 61 none [] none [] [
    ⟨some 95, none, .v fun s => fieldA 0 (s.get 1)⟩,
    ⟨some 96, none, .v fun s => loadF false 1 (s.get 95)⟩,
    ⟨some 97, none, .v fun s => some (s.get 9)⟩,
    ⟨some 98, none, .v fun s => idxSl 1 (s.get 96) (s.get 97)⟩,
    ⟨some 99, none, .v fun s => loadF false 1 (s.get 98)⟩,
    ⟨some 100, none, .v fun s => some (.int .i64 0)⟩] K s := (den_reg hf _ K s).trans (by kernel_rfl)
theorem k4_eq (K : List Item) (t : List (Nat × AV)) (m : Mem) : den prog ann 61 (.code k4 :: K) ⟨t, 224, m⟩ = L4 (get t 1) (get t 4) (get t 5) (get t 9) (get t 91) (get t 92) (get t 99) (get t 100) m K := den_loop_enter hf (b := l4) (id := 17) (l := [1, 4, 5, 9, 91, 92, 99, 100]) (by kernel_rfl) (by kernel_rfl) (by kernel_rfl) K _
theorem l4_eq (K : List Item) (t : List (Nat × AV)) (m : Mem) : den prog ann 61 (.inLoop l4 :: .inBlock 4 :: K) ⟨t, 224, m⟩ = L4 (get t 1) (get t 4) (get t 5) (get t 9) (get t 91) (get t 92) (get t 99) (get t 100) m K := den_loop_again hf (id := 17) (l := [1, 4, 5, 9, 91, 92, 99, 100]) (by kernel_rfl) (by kernel_rfl) (.inBlock 4 :: K) _
theorem L4_eq (x1 x4 x5 x9 x91 x92 x99 x100 : AV) (m : Mem) (K : List Item) : L4 x1 x4 x5 x9 x91 x92 x99 x100 m K = den prog ann 61 (.code r17 :: .code i4 :: .code k5 :: .code r22 :: .inLoop l4 :: .inBlock 4 :: K) ⟨[(1, x1), (4, x4), (5, x5), (9, x9), (91, x91), (92, x92), (99, x99), (100, x100)], 224, m⟩ := den_flat hf (l := [r17, i4, k5, r22]) (by kernel_rfl) _ _
theorem r17_eq (K : List Item) (s : St) : den prog ann 61 (.code r17 :: K) s = mreg prog ann 61 (some [1, 4, 5, 9, 91, 92, 99, 100]) [] none [] [
    ⟨some 101, none, .v fun s => binA prog .lss 3 (s.get 100) (s.get 99)⟩] K s := (den_reg hf _ K s).trans (by kernel_rfl)
theorem i4_eq (K : List Item) (s : St) : den prog ann 61 (.code i4 :: K) s = ifV prog ann 61 101 i4t i4e K s (s.get 101) := den_if hf (by kernel_rfl) K s
theorem i4t_eq (K : List Item) (s : St) : den prog ann 61 (.code i4t :: K) s = den prog ann 61 (K) s := den_flat hf (l := []) (by kernel_rfl) K s
theorem i4e_eq (K : List Item) (s : St) : den prog ann 61 (.code i4e :: K) s = den prog ann 61 (.code (.exit 4) :: K) s := den_flat hf (l := [(.exit 4)]) (by kernel_rfl) K s
theorem k5_eq (K : List Item) (s : St) : den prog ann 61 (.code k5 :: K) s = den prog ann 61 (.code r18 :: .code r19 :: .code r20 :: .code r21 :: .inBlock 5 :: K) s := den_blk hf (b := blkOf k5) (l := [r18, r19, r20, r21]) (by kernel_rfl) (by kernel_rfl) K s
theorem r18_eq (K : List Item) (s : St) : den prog ann 61 (.code r18 :: K) s = mreg prog ann 61 none [] none [] [
    ⟨some 102, none, .v fun s => some (s.get 100)⟩,
    ⟨some 10, none, .v fun s => some (s.get 102)⟩] K s := (den_reg hf _ K s).trans (by kernel_rfl)
theorem r19_eq (K : List Item) (s : St) : den prog ann 61 (.code r19 :: K) s = mreg prog ann 61 none [] none [] [
    ⟨some 11, none, .w false none fun s => newPtr s.m [.int .i64 0, .int .i64 0, .int .i64 0, .int .i64 0]⟩] K s := (den_reg hf _ K s).trans (by kernel_rfl)
theorem r20_eq (K : List Item) (s : St) : den prog ann 61 (.code r20 :: K) s = mreg prog ann 61 none [] none [] [
    ⟨some 103, none, .v fun s => some (s.get 9)⟩,
    ⟨some 104, none, .v fun s => some (s.get 10)⟩,
    ⟨some 105, none, .v fun s => binA prog .add 3 (s.get 104) (.int .i64 1)⟩,
    ⟨some 106, none, .v fun s => idxArr 4 1 (s.get 11) (s.get 103)⟩,
    ⟨none, none, .w false none fun s => stA false 1 s.m (s.get 106) (s.get 105)⟩] K s := (den_reg hf _ K s).trans (by kernel_rfl)
theorem r21_draw : drawOk (fun g => (ann g).pure) (modeOf (ann 61) (idOf r21)) (frzOf (ann 61) (idOf r21)) (opsOf r21) = true := drawOk_of (an := [0, 0, 0, 0, 4, 20, 60, 124, 0, 256, 1020, 1, 2049, 8191, 16383]) (by kernel_rfl) (by kernel_rfl)
theorem r21_eq (K : List Item) (s : St) : den prog ann 61 (.code r21 :: K) s = mreg prog ann 61 none [] (some 15) [] [
    ⟨some 107, none, .v fun s => loadF false 1 (s.get 5)⟩,
    ⟨some 108, none, .v fun s => some (s.get 9)⟩,
    ⟨some 109, none, .v fun s => loadF false 1 (s.get 5)⟩,
    ⟨some 110, none, .v fun s => some (s.get 9)⟩,
    ⟨some 111, none, .v fun s => nilA (s.get 109)⟩,
    ⟨some 112, none, .v fun s => fieldA 5 (s.get 111)⟩,
    ⟨some 113, none, .v fun s => idxArr 4 1 (s.get 112) (s.get 110)⟩,
    ⟨some 114, none, .v fun s => loadA false 1 s.m (s.get 113)⟩,
    ⟨some 115, none, .v fun s => loadA true 4 s.m (s.get 11)⟩,
    ⟨some 116, none, .v fun s => bslF 1 (bslA 4 1 [.int .i64 0, .int .i64 0, .int .i64 0, .int .i64 0] [(0, (s.get 115))])⟩,
    ⟨some 117, none, .w false (some 10) fun s => appendA 4 32 s.m (s.get 114) (s.get 116)⟩,
    ⟨some 118, none, .v fun s => nilA (s.get 107)⟩,
    ⟨some 119, none, .v fun s => fieldA 5 (s.get 118)⟩,
    ⟨some 120, none, .v fun s => idxArr 4 1 (s.get 119) (s.get 108)⟩,
    ⟨none, none, .w false (some 14) fun s => stA false 1 s.m (s.get 120) (s.get 117)⟩] K s := (den_regD hf r21_draw K s).trans (by kernel_rfl)
theorem r22_eq (K : List Item) (s : St) : den prog ann 61 (.code r22 :: K) s = mreg prog ann 61 (some [1, 4, 5, 9, 91, 92, 99, 100]) [] none [] [
    ⟨some 121, none, .v fun s => binA prog .add 3 (s.get 100) (.int .i64 1)⟩,
    ⟨some 100, none, .v fun s => some (s.get 121)⟩] K s := (den_reg hf _ K s).trans (by kernel_rfl)
theorem r23_eq (K : List Item) (s : St) : den prog ann 61 (.code r23 :: K) s = mreg prog ann 61 (some [1, 4, 5, 91, 92]) [] none [] [
    ⟨some 122, none, .v fun s => binA prog .add 3 (s.get 92) (.int .i64 1)⟩,
    ⟨some 92, none, .v fun s => some (s.get 122)⟩] K s := (den_reg hf _ K s).trans (by kernel_rfl)
theorem r24_eq (K : List Item) (s : St) : den prog ann 61 (.code r24 :: K) s = mreg prog ann 61 (some [1, 4, 5]) [] none [] [
    ⟨some 12, none, .w false none fun s => newPtr s.m [.bool false]⟩,
    ⟨none, none, .w false none fun s => stA false 1 s.m (s.get 12) (.bool true)⟩] K s := (den_reg hf _ K s).trans (by kernel_rfl)
theorem k6_eq (K : List Item) (t : List (Nat × AV)) (m : Mem) : den prog ann 61 (.code k6 :: K) ⟨t, 224, m⟩ = L6 (get t 1) (get t 4) (get t 5) (get t 12) m K := den_loop_enter hf (b := l6) (id := 25) (l := [1, 4, 5, 12]) (by kernel_rfl) (by kernel_rfl) (by kernel_rfl) K _
theorem l6_eq (K : List Item) (t : List (Nat × AV)) (m : Mem) : den prog ann 61 (.inLoop l6 :: .inBlock 6 :: K) ⟨t, 224, m⟩ = L6 (get t 1) (get t 4) (get t 5) (get t 12) m K := den_loop_again hf (id := 25) (l := [1, 4, 5, 12]) (by kernel_rfl) (by kernel_rfl) (.inBlock 6 :: K) _
theorem L6_eq (x1 x4 x5 x12 : AV) (m : Mem) (K : List Item) : L6 x1 x4 x5 x12 m K = den prog ann 61 (.code r25 :: .code i5 :: .code k7 :: .code r41 :: .code r42 :: .inLoop l6 :: .inBlock 6 :: K) ⟨[(1, x1), (4, x4), (5, x5), (12, x12)], 224, m⟩ := den_flat hf (l := [r25, i5, k7, r41, r42]) (by kernel_rfl) _ _
theorem r25_eq (K : List Item) (s : St) : den prog ann 61 (.code r25 :: K) s = mreg prog ann 61 (some [1, 4, 5, 12]) [] none [] [
    ⟨some 123, none, .v fun s => loadA false 1 s.m (s.get 12)⟩] K s := (den_reg hf _ K s).trans (by kernel_rfl)
theorem i5_eq (K : List Item) (s : St) : den prog ann 61 (.code i5 :: K) s = ifV prog ann 61 123 i5t i5e K s (s.get 123) := den_if hf (by kernel_rfl) K s
theorem i5t_eq (K : List Item) (s : St) : den prog ann 61 (.code i5t :: K) s = den prog ann 61 (K) s := den_flat hf (l := []) (by kernel_rfl) K s
theorem i5e_eq (K : List Item) (s : St) : den prog ann 61 (.code i5e :: K) s = den prog ann 61 (.code (.exit 6) :: K) s := den_flat hf (l := [(.exit 6)]) (by kernel_rfl) K s
theorem k7_eq (K : List Item) (s : St) : den prog ann 61 (.code k7 :: K) s = den prog ann 61 (.code r26 :: .code r27 :: .code r28 :: .code k8 :: .code r36 :: .code k12 :: .inBlock 7 :: K) s := den_blk hf (b := blkOf k7) (l := [r26, r27, r28, k8, r36, k12]) (by kernel_rfl) (by kernel_rfl) K s
theorem r26_eq (K : List Item) (s : St) : den prog ann 61 (.code r26 :: K) s = mreg prog ann 61 none [] none [] [
    ⟨none, none, .w false none fun s => stA false 1 s.m (s.get 12) (.bool false)⟩] K s := (den_reg hf _ K s).trans (by kernel_rfl)
theorem r27_eq (K : List Item) (s : St) : den prog ann 61 (.code r27 :: K) s = mreg prog ann 61 none [] none [] [
    ⟨some 124, none, .v fun s => some (.fn 95 [] [(s.get 5), (s.get 12)])⟩,
    ⟨some 13, none, .v fun s => some (s.get 124)⟩] K s := (den_reg hf _ K s).trans (by kernel_rfl)
theorem r28_eq (K : List Item) (s : St) : den prog ann 61 (.code r28 :: K) s = mreg prog ann 61 none [] none [] [
    ⟨some 125, none, .v fun s => loadF false 1 (s.get 4)⟩,
    ⟨some 126, none, .v fun s => some (.int .i64 0)⟩] K s := (den_reg hf _ K s).trans (by kernel_rfl)
theorem k8_eq (K : List Item) (t : List (Nat × AV)) (m : Mem) : den prog ann 61 (.code k8 :: K) ⟨t, 224, m⟩ = L8 (get t 1) (get t 4) (get t 5) (get t 12) (get t 13) (get t 125) (get t 126) m K := den_loop_enter hf (b := l8) (id := 29) (l := [1, 4, 5, 12, 13, 125, 126]) (by kernel_rfl) (by kernel_rfl) (by kernel_rfl) K _
theorem l8_eq (K : List Item) (t : List (Nat × AV)) (m : Mem) : den prog ann 61 (.inLoop l8 :: .inBlock 8 :: K) ⟨t, 224, m⟩ = L8 (get t 1) (get t 4) (get t 5) (get t 12) (get t 13) (get t 125) (get t 126) m K := den_loop_again hf (id := 29) (l := [1, 4, 5, 12, 13, 125, 126]) (by kernel_rfl) (by kernel_rfl) (.inBlock 8 :: K) _
theorem L8_eq (x1 x4 x5 x12 x13 x125 x126 : AV) (m : Mem) (K : List Item) : L8 x1 x4 x5 x12 x13 x125 x126 m K = den prog ann 61 (.code r29 :: .code i6 :: .code k9 :: .code r35 :: .inLoop l8 :: .inBlock 8 :: K) ⟨[(1, x1), (4, x4), (5, x5), (12, x12), (13, x13), (125, x125), (126, x126)], 224, m⟩ := den_flat hf (l := [r29, i6, k9, r35]) (by kernel_rfl) _ _
theorem r29_eq (K : List Item) (s : St) : den prog ann 61 (.code r29 :: K) s = mreg prog ann 61 (some [1, 4, 5, 12, 13, 125, 126]) [] none [] [
    ⟨some 127, none, .v fun s => binA prog .lss 3 (s.get 126) (s.get 125)⟩] K s := (den_reg hf _ K s).trans (by kernel_rfl)
theorem i6_eq (K : List Item) (s : St) : den prog ann 61 (.code i6 :: K) s = ifV prog ann 61 127 i6t i6e K s (s.get 127) := den_if hf (by kernel_rfl) K s
theorem i6t_eq (K : List Item) (s : St) : den prog ann 61 (.code i6t :: K) s = den prog ann 61 (K) s := den_flat hf (l := []) (by kernel_rfl) K s
theorem i6e_eq (K : List Item) (s : St) : den prog ann 61 (.code i6e :: K) s = den prog ann 61 (.code (.exit 8) :: K) s := den_flat hf (l := [(.exit 8)]) (by kernel_rfl) K s
theorem k9_eq (K : List Item) (s : St) : den prog ann 61 (.code k9 :: K) s = den prog ann 61 (.code r30 :: .code r31 :: .code k10 :: .inBlock 9 :: K) s := den_blk hf (b := blkOf k9) (l := [r30, r31, k10]) (by kernel_rfl) (by kernel_rfl) K s
theorem r30_eq (K : List Item) (s : St) : den prog ann 61 (.code r30 :: K) s = mreg prog ann 61 none [] none [] [
    ⟨some 128, none, .v fun s => some (s.get 126)⟩,
    ⟨some 14, none, .v fun s => some (s.get 128)⟩] K s := (den_reg hf _ K s).trans (by kernel_rfl)
theorem r31_eq (K : List Item) (s : St) : den prog ann 61 (.code r31 :: K) s = mreg prog ann 61 none [] none [] [
    ⟨some 15, none, .v fun s => some (.int .i64 1)⟩] K s := (den_reg hf _ K s).trans (by kernel_rfl)
theorem k10_eq (K : List Item) (t : List (Nat × AV)) (m : Mem) : den prog ann 61 (.code k10 :: K) ⟨t, 224, m⟩ = L10 (get t 1) (get t 4) (get t 5) (get t 12) (get t 13) (get t 14) (get t 15) (get t 125) (get t 126) m K := den_loop_enter hf (b := l10) (id := 32) (l := [1, 4, 5, 12, 13, 14, 15, 125, 126]) (by kernel_rfl) (by kernel_rfl) (by kernel_rfl) K _
theorem l10_eq (K : List Item) (t : List (Nat × AV)) (m : Mem) : den prog ann 61 (.inLoop l10 :: .inBlock 10 :: K) ⟨t, 224, m⟩ = L10 (get t 1) (get t 4) (get t 5) (get t 12) (get t 13) (get t 14) (get t 15) (get t 125) (get t 126) m K := den_loop_again hf (id := 32) (l := [1, 4, 5, 12, 13, 14, 15, 125, 126]) (by kernel_rfl) (by kernel_rfl) (.inBlock 10 :: K) _
theorem L10_eq (x1 x4 x5 x12 x13 x14 x15 x125 x126 : AV) (m : Mem) (K : List Item) : L10 x1 x4 x5 x12 x13 x14 x15 x125 x126 m K = den prog ann 61 (.code r32 :: .code i7 :: .code k11 :: .code r33 :: .inLoop l10 :: .inBlock 10 :: K) ⟨[(1, x1), (4, x4), (5, x5), (12, x12), (13, x13), (14, x14), (15, x15), (125, x125), (126, x126)], 224, m⟩ := den_flat hf (l := [r32, i7, k11, r33]) (by kernel_rfl) _ _
theorem r32_eq (K : List Item) (s : St) : den prog ann 61 (.code r32 :: K) s = mreg prog ann 61 (some [1, 4, 5, 12, 13, 14, 15, 125, 126]) [] none [] [
    ⟨some 129, none, .v fun s => some (s.get 15)⟩,
    ⟨some 130, none, .v fun s => fieldA 0 (s.get 1)⟩,
    ⟨some 131, none, .v fun s => loadF false 1 (s.get 130)⟩,
    ⟨some 132, none, .v fun s => some (s.get 14)⟩,
    ⟨some 133, none, .v fun s => idxSl 1 (s.get 131) (s.get 132)⟩,
    ⟨some 134, none, .v fun s => loadF false 1 (s.get 133)⟩,
    ⟨some 135, none, .v fun s => binA prog .lss 3 (s.get 129) (s.get 134)⟩] K s := (den_reg hf _ K s).trans (by kernel_rfl)
theorem i7_eq (K : List Item) (s : St) : den prog ann 61 (.code i7 :: K) s = ifV prog ann 61 135 i7t i7e K s (s.get 135) := den_if hf (by kernel_rfl) K s
theorem i7t_eq (K : List Item) (s : St) : den prog ann 61 (.code i7t :: K) s = den prog ann 61 (K) s := den_flat hf (l := []) (by kernel_rfl) K s
theorem i7e_eq (K : List Item) (s : St) : den prog ann 61 (.code i7e :: K) s = den prog ann 61 (.code (.exit 10) :: K) s := den_flat hf (l := [(.exit 10)]) (by kernel_rfl) K s
theorem k11_eq (K : List Item) (s : St) : den prog ann 61 (.code k11 :: K) s = den prog ann 61 (.code r34 :: .inBlock 11 :: K) s := den_blk hf (b := blkOf k11) (l := [r34]) (by kernel_rfl) (by kernel_rfl) K s
theorem r34_eq (K : List Item) (s : St) : den prog ann 61 (.code r34 :: K) s = mreg prog ann 61 none [] none [] [
    ⟨some 138, none, .v fun s => some (s.get 13)⟩,
    ⟨some 139, none, .v fun s => some (s.get 14)⟩,
    ⟨some 140, none, .v fun s => some (s.get 15)⟩,
    ⟨some 141, none, .v fun s => loadF false 1 (s.get 5)⟩,
    ⟨some 142, none, .v fun s => some (s.get 14)⟩,
    ⟨some 143, none, .v fun s => nilA (s.get 141)⟩,
    ⟨some 144, none, .v fun s => fieldA 5 (s.get 143)⟩,
    ⟨some 145, none, .v fun s => idxArr 4 1 (s.get 144) (s.get 142)⟩,
    ⟨some 146, none, .v fun s => loadA false 1 s.m (s.get 145)⟩,
    ⟨some 147, none, .v fun s => some (s.get 15)⟩,
    ⟨some 148, none, .v fun s => binA prog .sub 3 (s.get 147) (.int .i64 1)⟩,
    ⟨some 149, none, .v fun s => idxSl 4 (s.get 146) (s.get 148)⟩,
    ⟨some 150, none, .v fun s => loadA true 4 s.m (s.get 149)⟩,
    ⟨some 151, none, .c 0 (fun s => (s.get 138)) fun s => [(s.get 139), (s.get 140), (s.get 150)]⟩] K s := (den_reg hf _ K s).trans (by kernel_rfl)
theorem r33_eq (K : List Item) (s : St) : den prog ann 61 (.code r33 :: K) s = mreg prog ann 61 (some [1, 4, 5, 12, 13, 14, 15, 125, 126]) [] none [] [
    ⟨some 136, none, .v fun s => some (s.get 15)⟩,
    ⟨some 137, none, .v fun s => binA prog .add 3 (s.get 136) (.int .i64 1)⟩,
    ⟨some 15, none, .v fun s => some (s.get 137)⟩] K s := (den_reg hf _ K s).trans (by kernel_rfl)
theorem r35_eq (K : List Item) (s : St) : den prog ann 61 (.code r35 :: K) s = mreg prog ann 61 (some [1, 4, 5, 12, 13, 125, 126]) [] none [] [
    ⟨some 152, none, .v fun s => binA prog .add 3 (s.get 126) (.int .i64 1)⟩,
    ⟨some 126, none, .v fun s => some (s.get 152)⟩] K s := (den_reg hf _ K s).trans (by kernel_rfl)
theorem r36_eq (K : List Item) (s : St) : den prog ann 61 (.code r36 :: K) s = mreg prog ann 61 (some [1, 4, 5, 12, 13]) [] none [] [
    ⟨some 153, none, .v fun s => fieldA 1 (s.get 1)⟩,
    ⟨some 154, none, .v fun s => loadF false 1 (s.get 153)⟩,
    ⟨some 155, none, .v fun s => lenSl (s.get 154)⟩,
    ⟨some 156, none, .v fun s => some (.int .i64 0)⟩] K s := (den_reg hf _ K s).trans (by kernel_rfl)
theorem k12_eq (K : List Item) (t : List (Nat × AV)) (m : Mem) : den prog ann 61 (.code k12 :: K) ⟨t, 224, m⟩ = L12 (get t 1) (get t 4) (get t 5) (get t 12) (get t 13) (get t 154) (get t 155) (get t 156) m K := den_loop_enter hf (b := l12) (id := 37) (l := [1, 4, 5, 12, 13, 154, 155, 156]) (by kernel_rfl) (by kernel_rfl) (by kernel_rfl) K _
theorem l12_eq (K : List Item) (t : List (Nat × AV)) (m : Mem) : den prog ann 61 (.inLoop l12 :: .inBlock 12 :: K) ⟨t, 224, m⟩ = L12 (get t 1) (get t 4) (get t 5) (get t 12) (get t 13) (get t 154) (get t 155) (get t 156) m K := den_loop_again hf (id := 37) (l := [1, 4, 5, 12, 13, 154, 155, 156]) (by kernel_rfl) (by kernel_rfl) (.inBlock 12 :: K) _
theorem L12_eq (x1 x4 x5 x12 x13 x154 x155 x156 : AV) (m : Mem) (K : List Item) : L12 x1 x4 x5 x12 x13 x154 x155 x156 m K = den prog ann 61 (.code r37 :: .code i8 :: .code k13 :: .code r40 :: .inLoop l12 :: .inBlock 12 :: K) ⟨[(1, x1), (4, x4), (5, x5), (12, x12), (13, x13), (154, x154), (155, x155), (156, x156)], 224, m⟩ := den_flat hf (l := [r37, i8, k13, r40]) (by kernel_rfl) _ _
theorem r37_eq (K : List Item) (s : St) : den prog ann 61 (.code r37 :: K) s = mreg prog ann 61 (some [1, 4, 5, 12, 13, 154, 155, 156]) [] none [] [
    ⟨some 157, none, .v fun s => binA prog .lss 3 (s.get 156) (s.get 155)⟩] K s := (den_reg hf _ K s).trans (by kernel_rfl)
theorem i8_eq (K : List Item) (s : St) : den prog ann 61 (.code i8 :: K) s = ifV prog ann 61 157 i8t i8e K s (s.get 157) := den_if hf (by kernel_rfl) K s
theorem i8t_eq (K : List Item) (s : St) : den prog ann 61 (.code i8t :: K) s = den prog ann 61 (K) s := den_flat hf (l := []) (by kernel_rfl) K s
theorem i8e_eq (K : List Item) (s : St) : den prog ann 61 (.code i8e :: K) s = den prog ann 61 (.code (.exit 12) :: K) s := den_flat hf (l := [(.exit 12)]) (by kernel_rfl) K s
theorem k13_eq (K : List Item) (s : St) : den prog ann 61 (.code k13 :: K) s = den prog ann 61 (.code r38 :: .code r39 :: .inBlock 13 :: K) s := den_blk hf (b := blkOf k13) (l := [r38, r39]) (by kernel_rfl) (by kernel_rfl) K s
theorem r38_eq (K : List Item) (s : St) : den prog ann 61 (.code r38 :: K) s = mreg prog ann 61 none [] none [17] [
    ⟨some 158, none, .v fun s => idxSl 4 (s.get 154) (s.get 156)⟩,
    ⟨some 159, none, .v fun s => loadF true 4 (s.get 158)⟩,
    ⟨some 17, none, .w false none fun s => newPtr s.m [.int .i64 0, .int .i64 0, .int .i64 0, .int .i64 0]⟩,
    ⟨none, none, .w false none fun s => stA true 4 s.m (s.get 17) (s.get 159)⟩] K s := (den_reg hf _ K s).trans (by kernel_rfl)
theorem r39_draw : drawOk (fun g => (ann g).pure) (modeOf (ann 61) (idOf r39)) (frzOf (ann 61) (idOf r39)) (opsOf r39) = true := drawOk_of (an := [0, 0, 2, 0, 8, 24, 0, 0, 128, 64, 576, 1984, 4032, 0, 8192, 24576, 65472, 131008, 262143]) (by kernel_rfl) (by kernel_rfl)
theorem r39_eq (K : List Item) (s : St) : den prog ann 61 (.code r39 :: K) s = mreg prog ann 61 none [] (some 19) [] [
    ⟨some 160, none, .v fun s => some (s.get 13)⟩,
    ⟨some 161, none, .v fun s => fieldA 2 (s.get 17)⟩,
    ⟨some 162, none, .v fun s => loadF false 1 (s.get 161)⟩,
    ⟨some 163, none, .v fun s => fieldA 3 (s.get 17)⟩,
    ⟨some 164, none, .v fun s => loadF false 1 (s.get 163)⟩,
    ⟨some 165, none, .v fun s => binA prog .sub 3 (s.get 164) (.int .i64 1)⟩,
    ⟨some 166, none, .v fun s => loadF false 1 (s.get 5)⟩,
    ⟨some 167, none, .v fun s => fieldA 0 (s.get 17)⟩,
    ⟨some 168, none, .v fun s => loadF false 1 (s.get 167)⟩,
    ⟨some 169, none, .v fun s => nilA (s.get 166)⟩,
    ⟨some 170, none, .v fun s => fieldA 5 (s.get 169)⟩,
    ⟨some 171, none, .v fun s => idxArr 4 1 (s.get 170) (s.get 168)⟩,
    ⟨some 172, none, .v fun s => loadA false 1 s.m (s.get 171)⟩,
    ⟨some 173, none, .v fun s => fieldA 1 (s.get 17)⟩,
    ⟨some 174, none, .v fun s => loadF false 1 (s.get 173)⟩,
    ⟨some 175, none, .v fun s => binA prog .sub 3 (s.get 174) (.int .i64 1)⟩,
    ⟨some 176, none, .v fun s => idxSl 4 (s.get 172) (s.get 175)⟩,
    ⟨some 177, none, .v fun s => loadA true 4 s.m (s.get 176)⟩,
    ⟨some 178, none, .c 0 (fun s => (s.get 160)) fun s => [(s.get 162), (s.get 165), (s.get 177)]⟩] K s := (den_regD hf r39_draw K s).trans (by kernel_rfl)
theorem r40_eq (K : List Item) (s : St) : den prog ann 61 (.code r40 :: K) s = mreg prog ann 61 (some [1, 4, 5, 12, 13, 154, 155, 156]) [] none [] [
    ⟨some 179, none, .v fun s => binA prog .add 3 (s.get 156) (.int .i64 1)⟩,
    ⟨some 156, none, .v fun s => some (s.get 179)⟩] K s := (den_reg hf _ K s).trans (by kernel_rfl)
theorem r41_eq (K : List Item) (s : St) : den prog ann 61 (.code r41 :: K) s = mreg prog ann 61 (some [1, 4, 5, 12]) [] none [] [
    ⟨some 180, none, .v fun s => loadA false 1 s.m (s.get 12)⟩] K s := (den_reg hf _ K s).trans (by kernel_rfl)
theorem r42_eq (K : List Item) (s : St) : den prog ann 61 (.code r42 :: K) s = mreg prog ann 61 none [] none [] [
    ⟨some 12, none, .w false none fun s => newPtr s.m [.bool false]⟩,
    ⟨none, none, .w false none fun s => stA false 1 s.m (s.get 12) (s.get 180)⟩] K s := (den_reg hf _ K s).trans (by kernel_rfl)
theorem r43_eq (K : List Item) (s : St) : den prog ann 61 (.code r43 :: K) s = mreg prog ann 61 (some [4, 5]) [] none [] [
    ⟨some 181, none, .v fun s => loadF false 1 (s.get 4)⟩,
    ⟨some 182, none, .v fun s => some (.int .i64 0)⟩] K s := (den_reg hf _ K s).trans (by kernel_rfl)
theorem k14_eq (K : List Item) (t : List (Nat × AV)) (m : Mem) : den prog ann 61 (.code k14 :: K) ⟨t, 224, m⟩ = L14 (get t 4) (get t 5) (get t 181) (get t 182) m K := den_loop_enter hf (b := l14) (id := 44) (l := [4, 5, 181, 182]) (by kernel_rfl) (by kernel_rfl) (by kernel_rfl) K _
theorem l14_eq (K : List Item) (t : List (Nat × AV)) (m : Mem) : den prog ann 61 (.inLoop l14 :: .inBlock 14 :: K) ⟨t, 224, m⟩ = L14 (get t 4) (get t 5) (get t 181) (get t 182) m K := den_loop_again hf (id := 44) (l := [4, 5, 181, 182]) (by kernel_rfl) (by kernel_rfl) (.inBlock 14 :: K) _
theorem L14_eq (x4 x5 x181 x182 : AV) (m : Mem) (K : List Item) : L14 x4 x5 x181 x182 m K = den prog ann 61 (.code r44 :: .code i9 :: .code k15 :: .code r58 :: .inLoop l14 :: .inBlock 14 :: K) ⟨[(4, x4), (5, x5), (181, x181), (182, x182)], 224, m⟩ := den_flat hf (l := [r44, i9, k15, r58]) (by kernel_rfl) _ _
theorem r44_eq (K : List Item) (s : St) : den prog ann 61 (.code r44 :: K) s = mreg prog ann 61 (some [4, 5, 181, 182]) [] none [] [
    ⟨some 183, none, .v fun s => binA prog .lss 3 (s.get 182) (s.get 181)⟩] K s := (den_reg hf _ K s).trans (by kernel_rfl)
theorem i9_eq (K : List Item) (s : St) : den prog ann 61 (.code i9 :: K) s = ifV prog ann 61 183 i9t i9e K s (s.get 183) := den_if hf (by kernel_rfl) K s
theorem i9t_eq (K : List Item) (s : St) : den prog ann 61 (.code i9t :: K) s = den prog ann 61 (K) s := den_flat hf (l := []) (by kernel_rfl) K s
theorem i9e_eq (K : List Item) (s : St) : den prog ann 61 (.code i9e :: K) s = den prog ann 61 (.code (.exit 14) :: K) s := den_flat hf (l := [(.exit 14)]) (by kernel_rfl) K s
theorem k15_eq (K : List Item) (s : St) : den prog ann 61 (.code k15 :: K) s = den prog ann 61 (.code r45 :: .code r46 :: .code k16 :: .inBlock 15 :: K) s := den_blk hf (b := blkOf k15) (l := [r45, r46, k16]) (by kernel_rfl) (by kernel_rfl) K s
theorem r45_eq (K : List Item) (s : St) : den prog ann 61 (.code r45 :: K) s = mreg prog ann 61 none [] none [] [
    ⟨some 184, none, .v fun s => some (s.get 182)⟩,
    ⟨some 18, none, .v fun s => some (s.get 184)⟩] K s := (den_reg hf _ K s).trans (by kernel_rfl)
theorem r46_eq (K : List Item) (s : St) : den prog ann 61 (.code r46 :: K) s = mreg prog ann 61 none [] none [] [
    ⟨some 185, none, .v fun s => loadF false 1 (s.get 5)⟩,
    ⟨some 186, none, .v fun s => some (s.get 18)⟩,
    ⟨some 187, none, .v fun s => nilA (s.get 185)⟩,
    ⟨some 188, none, .v fun s => fieldA 5 (s.get 187)⟩,
    ⟨some 189, none, .v fun s => idxArr 4 1 (s.get 188) (s.get 186)⟩,
    ⟨some 190, none, .v fun s => loadA false 1 s.m (s.get 189)⟩,
    ⟨some 191, none, .v fun s => lenSl (s.get 190)⟩,
    ⟨some 192, none, .v fun s => some (.int .i64 0)⟩] K s := (den_reg hf _ K s).trans (by kernel_rfl)
theorem k16_eq (K : List Item) (t : List (Nat × AV)) (m : Mem) : den prog ann 61 (.code k16 :: K) ⟨t, 224, m⟩ = L16 (get t 4) (get t 5) (get t 18) (get t 181) (get t 182) (get t 190) (get t 191) (get t 192) m K := den_loop_enter hf (b := l16) (id := 47) (l := [4, 5, 18, 181, 182, 190, 191, 192]) (by kernel_rfl) (by kernel_rfl) (by kernel_rfl) K _
theorem l16_eq (K : List Item) (t : List (Nat × AV)) (m : Mem) : den prog ann 61 (.inLoop l16 :: .inBlock 16 :: K) ⟨t, 224, m⟩ = L16 (get t 4) (get t 5) (get t 18) (get t 181) (get t 182) (get t 190) (get t 191) (get t 192) m K := den_loop_again hf (id := 47) (l := [4, 5, 18, 181, 182, 190, 191, 192]) (by kernel_rfl) (by kernel_rfl) (.inBlock 16 :: K) _
theorem L16_eq (x4 x5 x18 x181 x182 x190 x191 x192 : AV) (m : Mem) (K : List Item) : L16 x4 x5 x18 x181 x182 x190 x191 x192 m K = den prog ann 61 (.code r47 :: .code i10 :: .code k17 :: .code r57 :: .inLoop l16 :: .inBlock 16 :: K) ⟨[(4, x4), (5, x5), (18, x18), (181, x181), (182, x182), (190, x190), (191, x191), (192, x192)], 224, m⟩ := den_flat hf (l := [r47, i10, k17, r57]) (by kernel_rfl) _ _
theorem r47_eq (K : List Item) (s : St) : den prog ann 61 (.code r47 :: K) s = mreg prog ann 61 (some [4, 5, 18, 181, 182, 190, 191, 192]) [] none [] [
    ⟨some 193, none, .v fun s => binA prog .lss 3 (s.get 192) (s.get 191)⟩] K s := (den_reg hf _ K s).trans (by kernel_rfl)
theorem i10_eq (K : List Item) (s : St) : den prog ann 61 (.code i10 :: K) s = ifV prog ann 61 193 i10t i10e K s (s.get 193) := den_if hf (by kernel_rfl) K s
theorem i10t_eq (K : List Item) (s : St) : den prog ann 61 (.code i10t :: K) s = den prog ann 61 (K) s := den_flat hf (l := []) (by kernel_rfl) K s
theorem i10e_eq (K : List Item) (s : St) : den prog ann 61 (.code i10e :: K) s = den prog ann 61 (.code (.exit 16) :: K) s := den_flat hf (l := [(.exit 16)]) (by kernel_rfl) K s
theorem k17_eq (K : List Item) (s : St) : den prog ann 61 (.code k17 :: K) s = den prog ann 61 (.code r48 :: .code r49 :: .code i11 :: .code r51 :: .code k18 :: .inBlock 17 :: K) s := den_blk hf (b := blkOf k17) (l := [r48, r49, i11, r51, k18]) (by kernel_rfl) (by kernel_rfl) K s
theorem r48_eq (K : List Item) (s : St) : den prog ann 61 (.code r48 :: K) s = mreg prog ann 61 none [] none [20] [
    ⟨some 194, none, .v fun s => some (s.get 192)⟩,
    ⟨some 195, none, .v fun s => idxSl 4 (s.get 190) (s.get 192)⟩,
    ⟨some 196, none, .v fun s => loadA true 4 s.m (s.get 195)⟩,
    ⟨some 20, none, .w false none fun s => newPtr s.m [.int .i64 0, .int .i64 0, .int .i64 0, .int .i64 0]⟩,
    ⟨some 19, none, .v fun s => some (s.get 194)⟩,
    ⟨none, none, .w false none fun s => stA true 4 s.m (s.get 20) (s.get 196)⟩] K s := (den_reg hf _ K s).trans (by kernel_rfl)
theorem r49_eq (K : List Item) (s : St) : den prog ann 61 (.code r49 :: K) s = mreg prog ann 61 none [] none [] [
    ⟨some 197, none, .v fun s => some (s.get 18)⟩,
    ⟨some 198, none, .v fun s => idxArr 4 1 (s.get 20) (s.get 197)⟩,
    ⟨some 199, none, .v fun s => loadF false 1 (s.get 198)⟩,
    ⟨some 200, none, .v fun s => some (s.get 19)⟩,
    ⟨some 201, none, .v fun s => binA prog .add 3 (s.get 200) (.int .i64 1)⟩,
    ⟨some 202, none, .v fun s => binA prog .neq 3 (s.get 199) (s.get 201)⟩] K s := (den_reg hf _ K s).trans (by kernel_rfl)
theorem i11_eq (K : List Item) (s : St) : den prog ann 61 (.code i11 :: K) s = ifV prog ann 61 202 i11t i11e K s (s.get 202) := den_if hf (by kernel_rfl) K s
theorem i11t_eq (K : List Item) (s : St) : den prog ann 61 (.code i11t :: K) s = den prog ann 61 (.code r50 :: .code .ret :: K) s := den_flat hf (l := [r50, .ret]) (by kernel_rfl) K s
theorem r50_eq (K : List Item) (s : St) : den prog ann 61 (.code r50 :: K) s = mreg prog ann 61 none [] none [] [
    ⟨some 2, none, .v fun s => some (.nilp)⟩,
    ⟨some 3, none, .v fun s => some (.bool false)⟩] K s := (den_reg hf _ K s).trans (by kernel_rfl)
theorem i11e_eq (K : List Item) (s : St) : den prog ann 61 (.code i11e :: K) s = den prog ann 61 (K) s := den_flat hf (l := []) (by kernel_rfl) K s
theorem r51_eq (K : List Item) (s : St) : den prog ann 61 (.code r51 :: K) s = mreg prog ann 61 none [] none [] [
    ⟨some 203, none, .v fun s => loadF false 1 (s.get 4)⟩,
    ⟨some 204, none, .v fun s => some (.int .i64 0)⟩] K s := (den_reg hf _ K s).trans (by kernel_rfl)
theorem k18_eq (K : List Item) (t : List (Nat × AV)) (m : Mem) : den prog ann 61 (.code k18 :: K) ⟨t, 224, m⟩ = L18 (get t 4) (get t 5) (get t 18) (get t 20) (get t 181) (get t 182) (get t 190) (get t 191) (get t 192) (get t 203) (get t 204) m K := den_loop_enter hf (b := l18) (id := 52) (l := [4, 5, 18, 20, 181, 182, 190, 191, 192, 203, 204]) (by kernel_rfl) (by kernel_rfl) (by kernel_rfl) K _
theorem l18_eq (K : List Item) (t : List (Nat × AV)) (m : Mem) : den prog ann 61 (.inLoop l18 :: .inBlock 18 :: K) ⟨t, 224, m⟩ = L18 (get t 4) (get t 5) (get t 18) (get t 20) (get t 181) (get t 182) (get t 190) (get t 191) (get t 192) (get t 203) (get t 204) m K := den_loop_again hf (id := 52) (l := [4, 5, 18, 20, 181, 182, 190, 191, 192, 203, 204]) (by kernel_rfl) (by kernel_rfl) (.inBlock 18 :: K) _
theorem L18_eq (x4 x5 x18 x20 x181 x182 x190 x191 x192 x203 x204 : AV) (m : Mem) (K : List Item) : L18 x4 x5 x18 x20 x181 x182 x190 x191 x192 x203 x204 m K = den prog ann 61 (.code r52 :: .code i12 :: .code k19 :: .code r56 :: .inLoop l18 :: .inBlock 18 :: K) ⟨[(4, x4), (5, x5), (18, x18), (20, x20), (181, x181), (182, x182), (190, x190), (191, x191), (192, x192), (203, x203), (204, x204)], 224, m⟩ := den_flat hf (l := [r52, i12, k19, r56]) (by kernel_rfl) _ _
theorem r52_eq (K : List Item) (s : St) : den prog ann 61 (.code r52 :: K) s = mreg prog ann 61 (some [4, 5, 18, 20, 181, 182, 190, 191, 192, 203, 204]) [] none [] [
    ⟨some 205, none, .v fun s => binA prog .lss 3 (s.get 204) (s.get 203)⟩] K s := (den_reg hf _ K s).trans (by kernel_rfl)
theorem i12_eq (K : List Item) (s : St) : den prog ann 61 (.code i12 :: K) s = ifV prog ann 61 205 i12t i12e K s (s.get 205) := den_if hf (by kernel_rfl) K s
theorem i12t_eq (K : List Item) (s : St) : den prog ann 61 (.code i12t :: K) s = den prog ann 61 (K) s := den_flat hf (l := []) (by kernel_rfl) K s
theorem i12e_eq (K : List Item) (s : St) : den prog ann 61 (.code i12e :: K) s = den prog ann 61 (.code (.exit 18) :: K) s := den_flat hf (l := [(.exit 18)]) (by kernel_rfl) K s
theorem k19_eq (K : List Item) (s : St) : den prog ann 61 (.code k19 :: K) s = den prog ann 61 (.code r53 :: .code r54 :: .code i13 :: .inBlock 19 :: K) s := den_blk hf (b := blkOf k19) (l := [r53, r54, i13]) (by kernel_rfl) (by kernel_rfl) K s
theorem r53_eq (K : List Item) (s : St) : den prog ann 61 (.code r53 :: K) s = mreg prog ann 61 none [] none [] [
    ⟨some 206, none, .v fun s => some (s.get 204)⟩,
    ⟨some 21, none, .v fun s => some (s.get 206)⟩] K s := (den_reg hf _ K s).trans (by kernel_rfl)
theorem r54_draw : drawOk (fun g => (ann g).pure) (modeOf (ann 61) (idOf r54)) (frzOf (ann 61) (idOf r54)) (opsOf r54) = true := drawOk_of (an := [0, 0, 3, 7, 15, 15, 31, 95, 255, 511, 15, 2047, 4095]) (by kernel_rfl) (by kernel_rfl)
theorem r54_eq (K : List Item) (s : St) : den prog ann 61 (.code r54 :: K) s = mreg prog ann 61 none [] (some 13) [] [
    ⟨some 207, none, .v fun s => some (s.get 21)⟩,
    ⟨some 208, none, .v fun s => some (s.get 18)⟩,
    ⟨some 209, none, .v fun s => binA prog .neq 3 (s.get 207) (s.get 208)⟩,
    ⟨some 210, none, .v fun s => some (s.get 209)⟩,
    ⟨some 211, some (210, true), .v fun s => loadF false 1 (s.get 5)⟩,
    ⟨some 212, some (210, true), .v fun s => some (s.get 21)⟩,
    ⟨some 213, some (210, true), .v fun s => nilA (s.get 211)⟩,
    ⟨some 214, some (210, true), .v fun s => fieldA 5 (s.get 213)⟩,
    ⟨some 215, some (210, true), .v fun s => idxArr 4 1 (s.get 214) (s.get 212)⟩,
    ⟨some 216, some (210, true), .v fun s => loadA false 1 s.m (s.get 215)⟩,
    ⟨some 217, some (210, true), .v fun s => loadF true 4 (s.get 20)⟩,
    ⟨some 218, some (210, true), .c 0 (fun s => (.fn 96 [] [])) fun s => [(s.get 216), (s.get 217)]⟩,
    ⟨some 219, none, .v fun s => pickA (s.get 210) (s.get 218) (.bool false)⟩] K s := (den_regD hf r54_draw K s).trans (by kernel_rfl)
theorem i13_eq (K : List Item) (s : St) : den prog ann 61 (.code i13 :: K) s = ifV prog ann 61 219 i13t i13e K s (s.get 219) := den_if hf (by kernel_rfl) K s
theorem i13t_eq (K : List Item) (s : St) : den prog ann 61 (.code i13t :: K) s = den prog ann 61 (.code r55 :: .code .ret :: K) s := den_flat hf (l := [r55, .ret]) (by kernel_rfl) K s
theorem r55_eq (K : List Item) (s : St) : den prog ann 61 (.code r55 :: K) s = mreg prog ann 61 none [] none [] [
    ⟨some 2, none, .v fun s => some (.nilp)⟩,
    ⟨some 3, none, .v fun s => some (.bool false)⟩] K s := (den_reg hf _ K s).trans (by kernel_rfl)
theorem i13e_eq (K : List Item) (s : St) : den prog ann 61 (.code i13e :: K) s = den prog ann 61 (K) s := den_flat hf (l := []) (by kernel_rfl) K s
theorem r56_eq (K : List Item) (s : St) : den prog ann 61 (.code r56 :: K) s = mreg prog ann 61 (some [4, 5, 18, 20, 181, 182, 190, 191, 192, 203, 204]) [] none [] [
    ⟨some 220, none, .v fun s => binA prog .add 3 (s.get 204) (.int .i64 1)⟩,
    ⟨some 204, none, .v fun s => some (s.get 220)⟩] K s := (den_reg hf _ K s).trans (by kernel_rfl)
theorem r57_eq (K : List Item) (s : St) : den prog ann 61 (.code r57 :: K) s = mreg prog ann 61 (some [4, 5, 18, 181, 182, 190, 191, 192]) [] none [] [
    ⟨some 221, none, .v fun s => binA prog .add 3 (s.get 192) (.int .i64 1)⟩,
    ⟨some 192, none, .v fun s => some (s.get 221)⟩] K s := (den_reg hf _ K s).trans (by kernel_rfl)
theorem r58_eq (K : List Item) (s : St) : den prog ann 61 (.code r58 :: K) s = mreg prog ann 61 (some [4, 5, 181, 182]) [] none [] [
    ⟨some 222, none, .v fun s => binA prog .add 3 (s.get 182) (.int .i64 1)⟩,
    ⟨some 182, none, .v fun s => some (s.get 222)⟩] K s := (den_reg hf _ K s).trans (by kernel_rfl)
theorem r59_eq (K : List Item) (s : St) : den prog ann 61 (.code r59 :: K) s = mreg prog ann 61 (some [5]) [] none [] [
    ⟨some 223, none, .v fun s => loadF false 1 (s.get 5)⟩,
    ⟨some 2, none, .v fun s => some (s.get 223)⟩,
    ⟨some 3, none, .v fun s => some (.bool true)⟩] K s := (den_reg hf _ K s).trans (by kernel_rfl)
theorem ret_eq (K : List Item) (s : St) : den prog ann 61 (.code .ret :: K) s = finM true [fun s => some (s.get 2), fun s => some (s.get 3)] s := (den_ret hf K s).trans (by kernel_rfl)
theorem nil_eq (s : St) : den prog ann 61 [] s = finM true [fun s => some (s.get 2), fun s => some (s.get 3)] s := (den_nil hf s).trans (by kernel_rfl)
theorem inBlock_eq (id : Nat) (K : List Item) (s : St) : den prog ann 61 (.inBlock id :: K) s = den prog ann 61 K s := den_inBlock hf id K s
theorem exit_eq (id : Nat) (K : List Item) (s : St) : den prog ann 61 (.code (.exit id) :: K) s = exitV prog ann 61 (exitTo id K) s := den_exitV hf id K s
theorem call_eq (v0 : AV) (m : Mem) (h : closedL [v0] = true) : denC prog ann 61 [v0] m = (den prog ann 61 [.code b] ⟨[(0, v0)], 224, Mem.empty⟩).bind fun r => some (r.1, m) := (denC_pure hf (b := b) (by kernel_rfl) (by kernel_rfl) (by kernel_rfl) h m).trans (by kernel_rfl)
theorem pure_eq : (ann 61).pure = true := by kernel_rfl
attribute [simp] b_eq r0_eq r1_eq r2_eq i0_eq i0t_eq r3_eq i0e_eq r4_eq r5_eq r6_eq r7_eq k0_eq l0_eq r8_eq i1_eq i1t_eq i1e_eq k1_eq r9_eq r10_eq i2_eq i2t_eq r11_eq i2e_eq r12_eq r13_eq k2_eq l2_eq r14_eq i3_eq i3t_eq i3e_eq k3_eq r15_eq r16_eq k4_eq l4_eq r17_eq i4_eq i4t_eq i4e_eq k5_eq r18_eq r19_eq r20_eq r21_eq r22_eq r23_eq r24_eq k6_eq l6_eq r25_eq i5_eq i5t_eq i5e_eq k7_eq r26_eq r27_eq r28_eq k8_eq l8_eq r29_eq i6_eq i6t_eq i6e_eq k9_eq r30_eq r31_eq k10_eq l10_eq r32_eq i7_eq i7t_eq i7e_eq k11_eq r34_eq r33_eq r35_eq r36_eq k12_eq l12_eq r37_eq i8_eq i8t_eq i8e_eq k13_eq r38_eq r39_eq r40_eq r41_eq r42_eq r43_eq k14_eq l14_eq r44_eq i9_eq i9t_eq i9e_eq k15_eq r45_eq r46_eq k16_eq l16_eq r47_eq i10_eq i10t_eq i10e_eq k17_eq r48_eq r49_eq i11_eq i11t_eq r50_eq i11e_eq r51_eq k18_eq l18_eq r52_eq i12_eq i12t_eq i12e_eq k19_eq r53_eq r54_eq i13_eq i13t_eq r55_eq i13e_eq r56_eq r57_eq r58_eq r59_eq ret_eq nil_eq inBlock_eq exit_eq pure_eq
end watch_read

namespace watch_story_all_1
/-- (*pommel/watch.story).all$1 -/
noncomputable def b : Code := (Try.f97.body).getD .skip
theorem hf : prog.funcs[97]? = some Try.f97 := by kernel_rfl
noncomputable def r0 : Code := findReg b 0
noncomputable def r1 : Code := findReg b 1
noncomputable def i0 : Code := findCond b 0
noncomputable def i0t : Code := thenOf i0
noncomputable def i0e : Code := elseOf i0
noncomputable def r2 : Code := findReg b 2
noncomputable def i1 : Code := findCond b 1
noncomputable def i1t : Code := thenOf i1
noncomputable def i1e : Code := elseOf i1
noncomputable def r3 : Code := findReg b 3
noncomputable def r4 : Code := findReg b 4
noncomputable def k0 : Code := findBlk b 0
noncomputable def l0 : Code := loopOf k0
noncomputable def L0 (x1 x2 x4 x5 x7 : AV) (m : Mem) (K : List Item) : Option Res := den prog ann 97 (.code l0 :: .inLoop l0 :: .inBlock 0 :: K) ⟨[(1, x1), (2, x2), (4, x4), (5, x5), (7, x7)], 39, m⟩
noncomputable def r5 : Code := findReg b 5
noncomputable def i2 : Code := findCond b 2
noncomputable def i2t : Code := thenOf i2
noncomputable def i2e : Code := elseOf i2
noncomputable def k1 : Code := findBlk b 1
noncomputable def r7 : Code := findReg b 7
noncomputable def r8 : Code := findReg b 8
noncomputable def r6 : Code := findReg b 6
theorem b_eq (K : List Item) (s : St) : den prog ann 97 (.code b :: K) s = den prog ann 97 (.code r0 :: .code r1 :: .code i0 :: .code r4 :: .code k0 :: K) s := den_flat hf (l := [r0, r1, i0, r4, k0]) (by kernel_rfl) K s
theorem r0_eq (K : List Item) (s : St) : den prog ann 97 (.code r0 :: K) s = mreg prog ann 97 none [] none [] [
    ⟨some 5, none, .w false none fun s => newPtr s.m (AV.cells (s.get 0))⟩] K s := (den_reg hf _ K s).trans (by kernel_rfl)
theorem r1_eq (K : List Item) (s : St) : den prog ann 97 (.code r1 :: K) s = mreg prog ann 97 none [] none [] [
    ⟨some 8, none, .v fun s => some (s.get 1)⟩,
    ⟨some 9, none, .v fun s => loadA false 1 s.m (s.get 2)⟩,
    ⟨some 10, none, .v fun s => nilA (s.get 9)⟩,
    ⟨some 11, none, .v fun s => fieldA 0 (s.get 10)⟩,
    ⟨some 12, none, .v fun s => loadA false 1 s.m (s.get 11)⟩,
    ⟨some 13, none, .v fun s => binA prog .eql 3 (s.get 8) (s.get 12)⟩] K s := (den_reg hf _ K s).trans (by kernel_rfl)
theorem i0_eq (K : List Item) (s : St) : den prog ann 97 (.code i0 :: K) s = ifV prog ann 97 13 i0t i0e K s (s.get 13) := den_if hf (by kernel_rfl) K s
theorem i0t_eq (K : List Item) (s : St) : den prog ann 97 (.code i0t :: K) s = den prog ann 97 (.code r2 :: .code i1 :: .code .ret :: K) s := den_flat hf (l := [r2, i1, .ret]) (by kernel_rfl) K s
theorem r2_eq (K : List Item) (s : St) : den prog ann 97 (.code r2 :: K) s = mreg prog ann 97 none [] none [] [
    ⟨some 14, none, .v fun s => loadA false 1 s.m (s.get 2)⟩,
    ⟨some 15, none, .v fun s => loadA true 4 s.m (s.get 5)⟩,
    ⟨some 16, none, .c 0 (fun s => (.fn 72 [] [])) fun s => [(s.get 14), (s.get 15)]⟩] K s := (den_reg hf _ K s).trans (by kernel_rfl)
theorem i1_eq (K : List Item) (s : St) : den prog ann 97 (.code i1 :: K) s = ifV prog ann 97 16 i1t i1e K s (s.get 16) := den_if hf (by kernel_rfl) K s
theorem i1t_eq (K : List Item) (s : St) : den prog ann 97 (.code i1t :: K) s = den prog ann 97 (.code r3 :: K) s := den_flat hf (l := [r3]) (by kernel_rfl) K s
theorem r3_eq (K : List Item) (s : St) : den prog ann 97 (.code r3 :: K) s = mreg prog ann 97 none [] none [] [
    ⟨some 17, none, .v fun s => loadA false 1 s.m (s.get 3)⟩,
    ⟨some 18, none, .v fun s => loadA true 4 s.m (s.get 5)⟩,
    ⟨some 19, none, .v fun s => bslF 1 (bslA 4 1 [.int .i64 0, .int .i64 0, .int .i64 0, .int .i64 0] [(0, (s.get 18))])⟩,
    ⟨some 20, none, .w false none fun s => appendA 4 32 s.m (s.get 17) (s.get 19)⟩,
    ⟨none, none, .w false none fun s => stA false 1 s.m (s.get 3) (s.get 20)⟩] K s := (den_reg hf _ K s).trans (by kernel_rfl)
theorem i1e_eq (K : List Item) (s : St) : den prog ann 97 (.code i1e :: K) s = den prog ann 97 (K) s := den_flat hf (l := []) (by kernel_rfl) K s
theorem i0e_eq (K : List Item) (s : St) : den prog ann 97 (.code i0e :: K) s = den prog ann 97 (K) s := den_flat hf (l := []) (by kernel_rfl) K s
theorem r4_eq (K : List Item) (s : St) : den prog ann 97 (.code r4 :: K) s = mreg prog ann 97 none [] none [] [
    ⟨some 7, none, .v fun s => some (.int .i64 0)⟩] K s := (den_reg hf _ K s).trans (by kernel_rfl)
theorem k0_eq (K : List Item) (t : List (Nat × AV)) (m : Mem) : den prog ann 97 (.code k0 :: K) ⟨t, 39, m⟩ = L0 (get t 1) (get t 2) (get t 4) (get t 5) (get t 7) m K := den_loop_enter hf (b := l0) (id := 5) (l := [1, 2, 4, 5, 7]) (by kernel_rfl) (by kernel_rfl) (by kernel_rfl) K _
theorem l0_eq (K : List Item) (t : List (Nat × AV)) (m : Mem) : den prog ann 97 (.inLoop l0 :: .inBlock 0 :: K) ⟨t, 39, m⟩ = L0 (get t 1) (get t 2) (get t 4) (get t 5) (get t 7) m K := den_loop_again hf (id := 5) (l := [1, 2, 4, 5, 7]) (by kernel_rfl) (by kernel_rfl) (.inBlock 0 :: K) _
theorem L0_eq (x1 x2 x4 x5 x7 : AV) (m : Mem) (K : List Item) : L0 x1 x2 x4 x5 x7 m K = den prog ann 97 (.code r5 :: .code i2 :: .code k1 :: .code r6 :: .inLoop l0 :: .inBlock 0 :: K) ⟨[(1, x1), (2, x2), (4, x4), (5, x5), (7, x7)], 39, m⟩ := den_flat hf (l := [r5, i2, k1, r6]) (by kernel_rfl) _ _
theorem r5_eq (K : List Item) (s : St) : den prog ann 97 (.code r5 :: K) s = mreg prog ann 97 (some [1, 2, 4, 5, 7]) [] none [] [
    ⟨some 21, none, .v fun s => some (s.get 7)⟩,
    ⟨some 22, none, .v fun s => loadA false 1 s.m (s.get 2)⟩,
    ⟨some 23, none, .v fun s => some (s.get 1)⟩,
    ⟨some 24, none, .v fun s => nilA (s.get 22)⟩,
    ⟨some 25, none, .v fun s => fieldA 1 (s.get 24)⟩,
    ⟨some 26, none, .v fun s => idxArr 4 1 (s.get 25) (s.get 23)⟩,
    ⟨some 27, none, .v fun s => loadA false 1 s.m (s.get 26)⟩,
    ⟨some 28, none, .v fun s => binA prog .leq 3 (s.get 21) (s.get 27)⟩] K s := (den_reg hf _ K s).trans (by kernel_rfl)
theorem i2_eq (K : List Item) (s : St) : den prog ann 97 (.code i2 :: K) s = ifV prog ann 97 28 i2t i2e K s (s.get 28) := den_if hf (by kernel_rfl) K s
theorem i2t_eq (K : List Item) (s : St) : den prog ann 97 (.code i2t :: K) s = den prog ann 97 (K) s := den_flat hf (l := []) (by kernel_rfl) K s
theorem i2e_eq (K : List Item) (s : St) : den prog ann 97 (.code i2e :: K) s = den prog ann 97 (.code (.exit 0) :: K) s := den_flat hf (l := [(.exit 0)]) (by kernel_rfl) K s
theorem k1_eq (K : List Item) (s : St) : den prog ann 97 (.code k1 :: K) s = den prog ann 97 (.code r7 :: .code r8 :: .inBlock 1 :: K) s := den_blk hf (b := blkOf k1) (l := [r7, r8]) (by kernel_rfl) (by kernel_rfl) K s
theorem r7_eq (K : List Item) (s : St) : den prog ann 97 (.code r7 :: K) s = mreg prog ann 97 none [] none [] [
    ⟨some 31, none, .v fun s => some (s.get 1)⟩,
    ⟨some 32, none, .v fun s => some (s.get 7)⟩,
    ⟨some 33, none, .v fun s => idxArr 4 1 (s.get 5) (s.get 31)⟩,
    ⟨none, none, .w false none fun s => stA false 1 s.m (s.get 33) (s.get 32)⟩] K s := (den_reg hf _ K s).trans (by kernel_rfl)
theorem r8_eq (K : List Item) (s : St) : den prog ann 97 (.code r8 :: K) s = mreg prog ann 97 none [] none [] [
    ⟨some 34, none, .v fun s => loadA false 1 s.m (s.get 4)⟩,
    ⟨some 35, none, .v fun s => loadA true 4 s.m (s.get 5)⟩,
    ⟨some 36, none, .v fun s => some (s.get 1)⟩,
    ⟨some 37, none, .v fun s => binA prog .add 3 (s.get 36) (.int .i64 1)⟩,
    ⟨some 38, none, .c 0 (fun s => (s.get 34)) fun s => [(s.get 35), (s.get 37)]⟩] K s := (den_reg hf _ K s).trans (by kernel_rfl)
theorem r6_eq (K : List Item) (s : St) : den prog ann 97 (.code r6 :: K) s = mreg prog ann 97 (some [1, 2, 4, 5, 7]) [] none [] [
    ⟨some 29, none, .v fun s => some (s.get 7)⟩,
    ⟨some 30, none, .v fun s => binA prog .add 3 (s.get 29) (.int .i64 1)⟩,
    ⟨some 7, none, .v fun s => some (s.get 30)⟩] K s := (den_reg hf _ K s).trans (by kernel_rfl)
theorem ret_eq (K : List Item) (s : St) : den prog ann 97 (.code .ret :: K) s = finM false [] s := (den_ret hf K s).trans (by kernel_rfl)
theorem nil_eq (s : St) : den prog ann 97 [] s = finM false [] s := (den_nil hf s).trans (by kernel_rfl)
theorem inBlock_eq (id : Nat) (K : List Item) (s : St) : den prog ann 97 (.inBlock id :: K) s = den prog ann 97 K s := den_inBlock hf id K s
theorem exit_eq (id : Nat) (K : List Item) (s : St) : den prog ann 97 (.code (.exit id) :: K) s = exitV prog ann 97 (exitTo id K) s := den_exitV hf id K s
theorem call_eq (v0 v1 v2 v3 v4 : AV) (m : Mem) : denC prog ann 97 [v0, v1, v2, v3, v4] m = den prog ann 97 [.code b] ⟨[(0, v0), (1, v1), (2, v2), (3, v3), (4, v4)], 39, m⟩ := (denC_impure hf (b := b) (by kernel_rfl) (by kernel_rfl) (by kernel_rfl) m).trans (by kernel_rfl)
theorem pure_eq : (ann 97).pure = false := by kernel_rfl
attribute [simp] b_eq r0_eq r1_eq i0_eq i0t_eq r2_eq i1_eq i1t_eq r3_eq i1e_eq i0e_eq r4_eq k0_eq l0_eq r5_eq i2_eq i2t_eq i2e_eq k1_eq r7_eq r8_eq r6_eq ret_eq nil_eq inBlock_eq exit_eq pure_eq
end watch_story_all_1

namespace watch_story_all
/-- (*pommel/watch.story).all -/
noncomputable def b : Code := (Try.f62.body).getD .skip
theorem hf : prog.funcs[62]? = some Try.f62 := by kernel_rfl
noncomputable def r0 : Code := findReg b 0
noncomputable def r1 : Code := findReg b 1
noncomputable def r2 : Code := findReg b 2
noncomputable def r3 : Code := findReg b 3
noncomputable def r4 : Code := findReg b 4
noncomputable def r5 : Code := findReg b 5
theorem b_eq (K : List Item) (s : St) : den prog ann 62 (.code b :: K) s = den prog ann 62 (.code r0 :: .code r1 :: .code r2 :: .code r3 :: .code r4 :: .code r5 :: .code .ret :: K) s := den_flat hf (l := [r0, r1, r2, r3, r4, r5, .ret]) (by kernel_rfl) K s
theorem r0_eq (K : List Item) (s : St) : den prog ann 62 (.code r0 :: K) s = mreg prog ann 62 none [] none [] [
    ⟨some 1, none, .v fun s => frozenPtr (s.get 0)⟩,
    ⟨some 2, none, .v fun s => some (.nils)⟩] K s := (den_reg hf _ K s).trans (by kernel_rfl)
theorem r1_eq (K : List Item) (s : St) : den prog ann 62 (.code r1 :: K) s = mreg prog ann 62 none [] none [] [
    ⟨some 3, none, .w false none fun s => newPtr s.m [.nils]⟩] K s := (den_reg hf _ K s).trans (by kernel_rfl)
theorem r2_eq (K : List Item) (s : St) : den prog ann 62 (.code r2 :: K) s = mreg prog ann 62 none [] none [] [
    ⟨some 4, none, .w false none fun s => newPtr s.m [.nilf]⟩] K s := (den_reg hf _ K s).trans (by kernel_rfl)
theorem r3_eq (K : List Item) (s : St) : den prog ann 62 (.code r3 :: K) s = mreg prog ann 62 none [] none [] [
    ⟨some 5, none, .v fun s => some (.fn 97 [] [(s.get 1), (s.get 3), (s.get 4)])⟩,
    ⟨none, none, .w false none fun s => stA false 1 s.m (s.get 4) (s.get 5)⟩] K s := (den_reg hf _ K s).trans (by kernel_rfl)
theorem r4_eq (K : List Item) (s : St) : den prog ann 62 (.code r4 :: K) s = mreg prog ann 62 none [] none [] [
    ⟨some 6, none, .v fun s => loadA false 1 s.m (s.get 4)⟩,
    ⟨some 7, none, .v fun s => bldA (plcA 1) [.int .i64 0, .int .i64 0, .int .i64 0, .int .i64 0] []⟩,
    ⟨some 8, none, .c 0 (fun s => (s.get 6)) fun s => [(s.get 7), (.int .i64 0)]⟩] K s := (den_reg hf _ K s).trans (by kernel_rfl)
theorem r5_eq (K : List Item) (s : St) : den prog ann 62 (.code r5 :: K) s = mreg prog ann 62 none [] none [] [
    ⟨some 9, none, .v fun s => loadA false 1 s.m (s.get 3)⟩,
    ⟨some 2, none, .v fun s => some (s.get 9)⟩] K s := (den_reg hf _ K s).trans (by kernel_rfl)
theorem ret_eq (K : List Item) (s : St) : den prog ann 62 (.code .ret :: K) s = finM true [fun s => some (s.get 2)] s := (den_ret hf K s).trans (by kernel_rfl)
theorem nil_eq (s : St) : den prog ann 62 [] s = finM true [fun s => some (s.get 2)] s := (den_nil hf s).trans (by kernel_rfl)
theorem inBlock_eq (id : Nat) (K : List Item) (s : St) : den prog ann 62 (.inBlock id :: K) s = den prog ann 62 K s := den_inBlock hf id K s
theorem exit_eq (id : Nat) (K : List Item) (s : St) : den prog ann 62 (.code (.exit id) :: K) s = exitV prog ann 62 (exitTo id K) s := den_exitV hf id K s
theorem call_eq (v0 : AV) (m : Mem) (h : closedL [v0] = true) : denC prog ann 62 [v0] m = (den prog ann 62 [.code b] ⟨[(0, v0)], 10, Mem.empty⟩).bind fun r => some (r.1, m) := (denC_pure hf (b := b) (by kernel_rfl) (by kernel_rfl) (by kernel_rfl) h m).trans (by kernel_rfl)
theorem pure_eq : (ann 62).pure = true := by kernel_rfl
attribute [simp] b_eq r0_eq r1_eq r2_eq r3_eq r4_eq r5_eq ret_eq nil_eq inBlock_eq exit_eq pure_eq
end watch_story_all

namespace watch_At
/-- pommel/watch.At -/
noncomputable def b : Code := (Try.f18.body).getD .skip
theorem hf : prog.funcs[18]? = some Try.f18 := by kernel_rfl
noncomputable def r0 : Code := findReg b 0
noncomputable def r1 : Code := findReg b 1
noncomputable def r2 : Code := findReg b 2
noncomputable def i0 : Code := findCond b 0
noncomputable def i0t : Code := thenOf i0
noncomputable def i0e : Code := elseOf i0
noncomputable def r3 : Code := findReg b 3
noncomputable def r4 : Code := findReg b 4
noncomputable def r5 : Code := findReg b 5
noncomputable def i1 : Code := findCond b 1
noncomputable def i1t : Code := thenOf i1
noncomputable def i1e : Code := elseOf i1
noncomputable def r6 : Code := findReg b 6
noncomputable def r7 : Code := findReg b 7
theorem b_eq (K : List Item) (s : St) : den prog ann 18 (.code b :: K) s = den prog ann 18 (.code r0 :: .code r1 :: .code r2 :: .code i0 :: .code r4 :: .code r5 :: .code i1 :: .code r7 :: .code .ret :: K) s := den_flat hf (l := [r0, r1, r2, i0, r4, r5, i1, r7, .ret]) (by kernel_rfl) K s
theorem r0_eq (K : List Item) (s : St) : den prog ann 18 (.code r0 :: K) s = mreg prog ann 18 none [] none [] [
    ⟨some 2, none, .v fun s => frozenPtr (s.get 0)⟩,
    ⟨some 4, none, .v fun s => some (.nils)⟩,
    ⟨some 5, none, .v fun s => some (.int .i64 0)⟩] K s := (den_reg hf _ K s).trans (by kernel_rfl)
theorem r1_eq (K : List Item) (s : St) : den prog ann 18 (.code r1 :: K) s = mreg prog ann 18 none [] none [] [
    ⟨some 10, none, .v fun s => loadF true 2 (s.get 2)⟩,
    ⟨some 11, none, .c 0 (fun s => (.fn 61 [] [])) fun s => [(s.get 10)]⟩,
    ⟨some 9, none, .v fun s => some (s.get 11)⟩,
    ⟨some 12, none, .v fun s => extA (s.get 9) 0⟩,
    ⟨some 13, none, .v fun s => extA (s.get 9) 1⟩,
    ⟨some 6, none, .v fun s => some (s.get 12)⟩,
    ⟨some 7, none, .v fun s => some (s.get 13)⟩] K s := (den_reg hf _ K s).trans (by kernel_rfl)
theorem r2_eq (K : List Item) (s : St) : den prog ann 18 (.code r2 :: K) s = mreg prog ann 18 none [] none [] [
    ⟨some 14, none, .v fun s => some (s.get 7)⟩,
    ⟨some 15, none, .v fun s => unA .not (s.get 14)⟩] K s := (den_reg hf _ K s).trans (by kernel_rfl)
theorem i0_eq (K : List Item) (s : St) : den prog ann 18 (.code i0 :: K) s = ifV prog ann 18 15 i0t i0e K s (s.get 15) := den_if hf (by kernel_rfl) K s
theorem i0t_eq (K : List Item) (s : St) : den prog ann 18 (.code i0t :: K) s = den prog ann 18 (.code r3 :: .code .ret :: K) s := den_flat hf (l := [r3, .ret]) (by kernel_rfl) K s
theorem r3_eq (K : List Item) (s : St) : den prog ann 18 (.code r3 :: K) s = mreg prog ann 18 none [] none [] [
    ⟨some 4, none, .v fun s => some (.nils)⟩,
    ⟨some 5, none, .v fun s => some (.int .i64 1)⟩] K s := (den_reg hf _ K s).trans (by kernel_rfl)
theorem i0e_eq (K : List Item) (s : St) : den prog ann 18 (.code i0e :: K) s = den prog ann 18 (K) s := den_flat hf (l := []) (by kernel_rfl) K s
theorem r4_eq (K : List Item) (s : St) : den prog ann 18 (.code r4 :: K) s = mreg prog ann 18 none [] none [] [
    ⟨some 16, none, .v fun s => some (s.get 6)⟩,
    ⟨some 17, none, .c 0 (fun s => (.fn 62 [] [])) fun s => [(s.get 16)]⟩,
    ⟨some 8, none, .v fun s => some (s.get 17)⟩] K s := (den_reg hf _ K s).trans (by kernel_rfl)
theorem r5_eq (K : List Item) (s : St) : den prog ann 18 (.code r5 :: K) s = mreg prog ann 18 none [] none [] [
    ⟨some 18, none, .v fun s => some (s.get 1)⟩,
    ⟨some 19, none, .v fun s => binA prog .lss 3 (s.get 18) (.int .i64 0)⟩,
    ⟨some 20, none, .v fun s => some (s.get 19)⟩,
    ⟨some 21, some (20, false), .v fun s => some (s.get 1)⟩,
    ⟨some 22, some (20, false), .v fun s => some (s.get 8)⟩,
    ⟨some 23, some (20, false), .v fun s => lenSl (s.get 22)⟩,
    ⟨some 24, some (20, false), .v fun s => binA prog .geq 3 (s.get 21) (s.get 23)⟩,
    ⟨some 25, none, .v fun s => pickA (s.get 20) (.bool true) (s.get 24)⟩] K s := (den_reg hf _ K s).trans (by kernel_rfl)
theorem i1_eq (K : List Item) (s : St) : den prog ann 18 (.code i1 :: K) s = ifV prog ann 18 25 i1t i1e K s (s.get 25) := den_if hf (by kernel_rfl) K s
theorem i1t_eq (K : List Item) (s : St) : den prog ann 18 (.code i1t :: K) s = den prog ann 18 (.code r6 :: .code .ret :: K) s := den_flat hf (l := [r6, .ret]) (by kernel_rfl) K s
theorem r6_eq (K : List Item) (s : St) : den prog ann 18 (.code r6 :: K) s = mreg prog ann 18 none [] none [] [
    ⟨some 4, none, .v fun s => some (.nils)⟩,
    ⟨some 5, none, .v fun s => some (.int .i64 5)⟩] K s := (den_reg hf _ K s).trans (by kernel_rfl)
theorem i1e_eq (K : List Item) (s : St) : den prog ann 18 (.code i1e :: K) s = den prog ann 18 (K) s := den_flat hf (l := []) (by kernel_rfl) K s
theorem r7_eq (K : List Item) (s : St) : den prog ann 18 (.code r7 :: K) s = mreg prog ann 18 none [] none [] [
    ⟨some 26, none, .v fun s => some (s.get 6)⟩,
    ⟨some 27, none, .v fun s => some (s.get 8)⟩,
    ⟨some 28, none, .v fun s => some (s.get 1)⟩,
    ⟨some 29, none, .v fun s => idxSl 4 (s.get 27) (s.get 28)⟩,
    ⟨some 30, none, .v fun s => loadF true 4 (s.get 29)⟩,
    ⟨some 31, none, .c 0 (fun s => (.fn 63 [] [])) fun s => [(s.get 26), (s.get 30)]⟩,
    ⟨some 4, none, .v fun s => some (s.get 31)⟩,
    ⟨some 5, none, .v fun s => some (.int .i64 0)⟩] K s := (den_reg hf _ K s).trans (by kernel_rfl)
theorem ret_eq (K : List Item) (s : St) : den prog ann 18 (.code .ret :: K) s = finM true [fun s => some (s.get 4), fun s => some (s.get 5)] s := (den_ret hf K s).trans (by kernel_rfl)
theorem nil_eq (s : St) : den prog ann 18 [] s = finM true [fun s => some (s.get 4), fun s => some (s.get 5)] s := (den_nil hf s).trans (by kernel_rfl)
theorem inBlock_eq (id : Nat) (K : List Item) (s : St) : den prog ann 18 (.inBlock id :: K) s = den prog ann 18 K s := den_inBlock hf id K s
theorem exit_eq (id : Nat) (K : List Item) (s : St) : den prog ann 18 (.code (.exit id) :: K) s = exitV prog ann 18 (exitTo id K) s := den_exitV hf id K s
theorem call_eq (v0 v1 : AV) (m : Mem) (h : closedL [v0, v1] = true) : denC prog ann 18 [v0, v1] m = (den prog ann 18 [.code b] ⟨[(0, v0), (1, v1)], 32, Mem.empty⟩).bind fun r => some (r.1, m) := (denC_pure hf (b := b) (by kernel_rfl) (by kernel_rfl) (by kernel_rfl) h m).trans (by kernel_rfl)
theorem pure_eq : (ann 18).pure = true := by kernel_rfl
attribute [simp] b_eq r0_eq r1_eq r2_eq i0_eq i0t_eq r3_eq i0e_eq r4_eq r5_eq i1_eq i1t_eq r6_eq i1e_eq r7_eq ret_eq nil_eq inBlock_eq exit_eq pure_eq
end watch_At
end Go.Proofs.Ytdkmepjedjclkaa
