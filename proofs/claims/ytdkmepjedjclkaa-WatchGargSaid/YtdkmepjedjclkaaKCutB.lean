/-
  BODIES OF FUNCTIONS OF THE PROGRAM AS SMALL OPERATIONS (written by gen.py; checked by the kernel against the program). Conditions: none.
-/
import Derived.Test.YtdkmepjedjclkaaKAmH
set_option linter.all false
namespace Go.Proofs.Ytdkmepjedjclkaa
open Go.AM
open Go.Proofs.Try (prog)
set_option maxRecDepth 100000
set_option linter.all false





namespace watch_story_cutOf
/-- (*pommel/watch.story).cutOf -/
noncomputable def b : Code := (Try.f71.body).getD .skip
theorem hf : prog.funcs[71]? = some Try.f71 := by kernel_rfl
noncomputable def r0 : Code := findReg b 0
noncomputable def r1 : Code := findReg b 1
noncomputable def r2 : Code := findReg b 2
noncomputable def i0 : Code := findCond b 0
noncomputable def i0t : Code := thenOf i0
noncomputable def i0e : Code := elseOf i0
noncomputable def r3 : Code := findReg b 3
noncomputable def r4 : Code := findReg b 4
noncomputable def r5 : Code := findReg b 5
noncomputable def k0 : Code := findBlk b 0
noncomputable def l0 : Code := loopOf k0
noncomputable def L0 (x0 x4 x6 x20 x21 : AV) (m : Mem) (K : List Item) : Option Res := den prog ann 71 (.code l0 :: .inLoop l0 :: .inBlock 0 :: K) ⟨[(0, x0), (4, x4), (6, x6), (20, x20), (21, x21)], 40, m⟩
noncomputable def r6 : Code := findReg b 6
noncomputable def i1 : Code := findCond b 1
noncomputable def i1t : Code := thenOf i1
noncomputable def i1e : Code := elseOf i1
noncomputable def k1 : Code := findBlk b 1
noncomputable def r7 : Code := findReg b 7
noncomputable def r8 : Code := findReg b 8
noncomputable def i2 : Code := findCond b 2
noncomputable def i2t : Code := thenOf i2
noncomputable def i2e : Code := elseOf i2
noncomputable def r9 : Code := findReg b 9
noncomputable def r10 : Code := findReg b 10
noncomputable def r11 : Code := findReg b 11
theorem b_eq (K : List Item) (s : St) : den prog ann 71 (.code b :: K) s = den prog ann 71 (.code r0 :: .code r1 :: .code r2 :: .code i0 :: .code r4 :: .code r5 :: .code k0 :: .code r11 :: .code .ret :: K) s := den_flat hf (l := [r0, r1, r2, i0, r4, r5, k0, r11, .ret]) (by kernel_rfl) K s
theorem r0_eq (K : List Item) (s : St) : den prog ann 71 (.code r0 :: K) s = mreg prog ann 71 none [] none [] [
    ⟨some 4, none, .w false none fun s => newPtr s.m [.int .i64 0, .int .i64 0, .int .i64 0, .int .i64 0]⟩,
    ⟨some 5, none, .v fun s => some (.bool false)⟩] K s := (den_reg hf _ K s).trans (by kernel_rfl)
theorem r1_eq (K : List Item) (s : St) : den prog ann 71 (.code r1 :: K) s = mreg prog ann 71 none [] none [] [
    ⟨some 6, none, .w false none fun s => newPtr s.m [.int .i64 0, .int .i64 0, .int .i64 0, .int .i64 0]⟩] K s := (den_reg hf _ K s).trans (by kernel_rfl)
theorem r2_eq (K : List Item) (s : St) : den prog ann 71 (.code r2 :: K) s = mreg prog ann 71 none [] none [] [
    ⟨some 9, none, .v fun s => some (s.get 1)⟩,
    ⟨some 10, none, .v fun s => lenSl (s.get 9)⟩,
    ⟨some 11, none, .v fun s => some (s.get 0)⟩,
    ⟨some 12, none, .v fun s => nilA (s.get 11)⟩,
    ⟨some 13, none, .v fun s => fieldA 0 (s.get 12)⟩,
    ⟨some 14, none, .v fun s => loadF false 1 (s.get 13)⟩,
    ⟨some 15, none, .v fun s => binA prog .neq 3 (s.get 10) (s.get 14)⟩] K s := (den_reg hf _ K s).trans (by kernel_rfl)
theorem i0_eq (K : List Item) (s : St) : den prog ann 71 (.code i0 :: K) s = ifV prog ann 71 15 i0t i0e K s (s.get 15) := den_if hf (by kernel_rfl) K s
theorem i0t_eq (K : List Item) (s : St) : den prog ann 71 (.code i0t :: K) s = den prog ann 71 (.code r3 :: .code .ret :: K) s := den_flat hf (l := [r3, .ret]) (by kernel_rfl) K s
theorem r3_eq (K : List Item) (s : St) : den prog ann 71 (.code r3 :: K) s = mreg prog ann 71 none [] none [] [
    ⟨some 16, none, .v fun s => loadA true 4 s.m (s.get 6)⟩,
    ⟨none, none, .w false none fun s => stA true 4 s.m (s.get 4) (s.get 16)⟩,
    ⟨some 5, none, .v fun s => some (.bool false)⟩] K s := (den_reg hf _ K s).trans (by kernel_rfl)
theorem i0e_eq (K : List Item) (s : St) : den prog ann 71 (.code i0e :: K) s = den prog ann 71 (K) s := den_flat hf (l := []) (by kernel_rfl) K s
theorem r4_eq (K : List Item) (s : St) : den prog ann 71 (.code r4 :: K) s = mreg prog ann 71 none [] none [] [
    ⟨some 17, none, .v fun s => sliceArr 4 1 (s.get 6) none none⟩,
    ⟨some 18, none, .v fun s => some (s.get 1)⟩,
    ⟨some 19, none, .w false none fun s => copyA 1 s.m (s.get 17) (s.get 18)⟩] K s := (den_reg hf _ K s).trans (by kernel_rfl)
theorem r5_eq (K : List Item) (s : St) : den prog ann 71 (.code r5 :: K) s = mreg prog ann 71 none [] none [] [
    ⟨some 20, none, .v fun s => loadA true 4 s.m (s.get 6)⟩,
    ⟨some 21, none, .v fun s => some (.int .i64 0)⟩] K s := (den_reg hf _ K s).trans (by kernel_rfl)
theorem k0_eq (K : List Item) (t : List (Nat × AV)) (m : Mem) : den prog ann 71 (.code k0 :: K) ⟨t, 40, m⟩ = L0 (get t 0) (get t 4) (get t 6) (get t 20) (get t 21) m K := den_loop_enter hf (b := l0) (id := 6) (l := [0, 4, 6, 20, 21]) (by kernel_rfl) (by kernel_rfl) (by kernel_rfl) K _
theorem l0_eq (K : List Item) (t : List (Nat × AV)) (m : Mem) : den prog ann 71 (.inLoop l0 :: .inBlock 0 :: K) ⟨t, 40, m⟩ = L0 (get t 0) (get t 4) (get t 6) (get t 20) (get t 21) m K := den_loop_again hf (id := 6) (l := [0, 4, 6, 20, 21]) (by kernel_rfl) (by kernel_rfl) (.inBlock 0 :: K) _
theorem L0_eq (x0 x4 x6 x20 x21 : AV) (m : Mem) (K : List Item) : L0 x0 x4 x6 x20 x21 m K = den prog ann 71 (.code r6 :: .code i1 :: .code k1 :: .code r10 :: .inLoop l0 :: .inBlock 0 :: K) ⟨[(0, x0), (4, x4), (6, x6), (20, x20), (21, x21)], 40, m⟩ := den_flat hf (l := [r6, i1, k1, r10]) (by kernel_rfl) _ _
theorem r6_eq (K : List Item) (s : St) : den prog ann 71 (.code r6 :: K) s = mreg prog ann 71 (some [0, 4, 6, 20, 21]) [] none [] [
    ⟨some 22, none, .v fun s => binA prog .lss 3 (s.get 21) (.int .i64 4)⟩] K s := (den_reg hf _ K s).trans (by kernel_rfl)
theorem i1_eq (K : List Item) (s : St) : den prog ann 71 (.code i1 :: K) s = ifV prog ann 71 22 i1t i1e K s (s.get 22) := den_if hf (by kernel_rfl) K s
theorem i1t_eq (K : List Item) (s : St) : den prog ann 71 (.code i1t :: K) s = den prog ann 71 (K) s := den_flat hf (l := []) (by kernel_rfl) K s
theorem i1e_eq (K : List Item) (s : St) : den prog ann 71 (.code i1e :: K) s = den prog ann 71 (.code (.exit 0) :: K) s := den_flat hf (l := [(.exit 0)]) (by kernel_rfl) K s
theorem k1_eq (K : List Item) (s : St) : den prog ann 71 (.code k1 :: K) s = den prog ann 71 (.code r7 :: .code r8 :: .code i2 :: .inBlock 1 :: K) s := den_blk hf (b := blkOf k1) (l := [r7, r8, i2]) (by kernel_rfl) (by kernel_rfl) K s
theorem r7_eq (K : List Item) (s : St) : den prog ann 71 (.code r7 :: K) s = mreg prog ann 71 none [] none [] [
    ⟨some 23, none, .v fun s => some (s.get 21)⟩,
    ⟨some 24, none, .v fun s => idxAgg 4 1 false (s.get 20) (s.get 21)⟩,
    ⟨some 7, none, .v fun s => some (s.get 23)⟩,
    ⟨some 8, none, .v fun s => some (s.get 24)⟩] K s := (den_reg hf _ K s).trans (by kernel_rfl)
theorem r8_eq (K : List Item) (s : St) : den prog ann 71 (.code r8 :: K) s = mreg prog ann 71 none [] none [] [
    ⟨some 25, none, .v fun s => some (s.get 8)⟩,
    ⟨some 26, none, .v fun s => binA prog .lss 3 (s.get 25) (.int .i64 0)⟩,
    ⟨some 27, none, .v fun s => some (s.get 26)⟩,
    ⟨some 28, some (27, false), .v fun s => some (s.get 8)⟩,
    ⟨some 29, some (27, false), .v fun s => some (s.get 0)⟩,
    ⟨some 30, some (27, false), .v fun s => some (s.get 7)⟩,
    ⟨some 31, some (27, false), .v fun s => nilA (s.get 29)⟩,
    ⟨some 32, some (27, false), .v fun s => fieldA 1 (s.get 31)⟩,
    ⟨some 33, some (27, false), .v fun s => idxArr 4 1 (s.get 32) (s.get 30)⟩,
    ⟨some 34, some (27, false), .v fun s => loadF false 1 (s.get 33)⟩,
    ⟨some 35, some (27, false), .v fun s => binA prog .gtr 3 (s.get 28) (s.get 34)⟩,
    ⟨some 36, none, .v fun s => pickA (s.get 27) (.bool true) (s.get 35)⟩] K s := (den_reg hf _ K s).trans (by kernel_rfl)
theorem i2_eq (K : List Item) (s : St) : den prog ann 71 (.code i2 :: K) s = ifV prog ann 71 36 i2t i2e K s (s.get 36) := den_if hf (by kernel_rfl) K s
theorem i2t_eq (K : List Item) (s : St) : den prog ann 71 (.code i2t :: K) s = den prog ann 71 (.code r9 :: .code .ret :: K) s := den_flat hf (l := [r9, .ret]) (by kernel_rfl) K s
theorem r9_eq (K : List Item) (s : St) : den prog ann 71 (.code r9 :: K) s = mreg prog ann 71 none [] none [] [
    ⟨some 37, none, .v fun s => loadA true 4 s.m (s.get 6)⟩,
    ⟨none, none, .w false none fun s => stA true 4 s.m (s.get 4) (s.get 37)⟩,
    ⟨some 5, none, .v fun s => some (.bool false)⟩] K s := (den_reg hf _ K s).trans (by kernel_rfl)
theorem i2e_eq (K : List Item) (s : St) : den prog ann 71 (.code i2e :: K) s = den prog ann 71 (K) s := den_flat hf (l := []) (by kernel_rfl) K s
theorem r10_eq (K : List Item) (s : St) : den prog ann 71 (.code r10 :: K) s = mreg prog ann 71 (some [0, 4, 6, 20, 21]) [] none [] [
    ⟨some 38, none, .v fun s => binA prog .add 3 (s.get 21) (.int .i64 1)⟩,
    ⟨some 21, none, .v fun s => some (s.get 38)⟩] K s := (den_reg hf _ K s).trans (by kernel_rfl)
theorem r11_eq (K : List Item) (s : St) : den prog ann 71 (.code r11 :: K) s = mreg prog ann 71 (some [4, 6]) [] none [] [
    ⟨some 39, none, .v fun s => loadA true 4 s.m (s.get 6)⟩,
    ⟨none, none, .w false none fun s => stA true 4 s.m (s.get 4) (s.get 39)⟩,
    ⟨some 5, none, .v fun s => some (.bool true)⟩] K s := (den_reg hf _ K s).trans (by kernel_rfl)
theorem ret_eq (K : List Item) (s : St) : den prog ann 71 (.code .ret :: K) s = finM true [fun s => loadA true 4 s.m (s.get 4), fun s => some (s.get 5)] s := (den_ret hf K s).trans (by kernel_rfl)
theorem nil_eq (s : St) : den prog ann 71 [] s = finM true [fun s => loadA true 4 s.m (s.get 4), fun s => some (s.get 5)] s := (den_nil hf s).trans (by kernel_rfl)
theorem inBlock_eq (id : Nat) (K : List Item) (s : St) : den prog ann 71 (.inBlock id :: K) s = den prog ann 71 K s := den_inBlock hf id K s
theorem exit_eq (id : Nat) (K : List Item) (s : St) : den prog ann 71 (.code (.exit id) :: K) s = exitV prog ann 71 (exitTo id K) s := den_exitV hf id K s
theorem call_eq (v0 v1 : AV) (m : Mem) (h : closedL [v0, v1] = true) : denC prog ann 71 [v0, v1] m = (den prog ann 71 [.code b] ⟨[(0, v0), (1, v1)], 40, Mem.empty⟩).bind fun r => some (r.1, m) := (denC_pure hf (b := b) (by kernel_rfl) (by kernel_rfl) (by kernel_rfl) h m).trans (by kernel_rfl)
theorem pure_eq : (ann 71).pure = true := by kernel_rfl
attribute [simp] b_eq r0_eq r1_eq r2_eq i0_eq i0t_eq r3_eq i0e_eq r4_eq r5_eq k0_eq l0_eq r6_eq i1_eq i1t_eq i1e_eq k1_eq r7_eq r8_eq i2_eq i2t_eq r9_eq i2e_eq r10_eq r11_eq ret_eq nil_eq inBlock_eq exit_eq pure_eq
end watch_story_cutOf


end Go.Proofs.Ytdkmepjedjclkaa

/-
  BODIES OF FUNCTIONS OF THE PROGRAM AS SMALL OPERATIONS (written by gen.py; checked by the kernel against the program). Conditions: none.
-/
namespace Go.Proofs.Ytdkmepjedjclkaa
open Go.AM
open Go.Proofs.Try (prog)
set_option maxRecDepth 100000
set_option linter.all false





end Go.Proofs.Ytdkmepjedjclkaa
