/-
  BODIES OF FUNCTIONS OF THE PROGRAM AS SMALL OPERATIONS (written by gen.py; checked by the kernel against the program). Conditions: none.
-/
import Derived.Test.YtdkmepjedjclkaaKAmH
set_option linter.all false
namespace Go.Proofs.Ytdkmepjedjclkaa
open Go.AM
open Go.Proofs.Try (prog)
set_option maxRecDepth 100000
set_option linter.all false

namespace watch_Consistent
/-- pommel/watch.Consistent -/
noncomputable def b : Code := (Try.f30.body).getD .skip
theorem hf : prog.funcs[30]? = some Try.f30 := by kernel_rfl
noncomputable def r0 : Code := findReg b 0
noncomputable def r1 : Code := findReg b 1
noncomputable def r2 : Code := findReg b 2
noncomputable def i0 : Code := findCond b 0
noncomputable def i0t : Code := thenOf i0
noncomputable def i0e : Code := elseOf i0
noncomputable def r3 : Code := findReg b 3
noncomputable def r4 : Code := findReg b 4
noncomputable def r5 : Code := findReg b 5
noncomputable def i1 : Code := findCond b 1
noncomputable def i1t : Code := thenOf i1
noncomputable def i1e : Code := elseOf i1
noncomputable def r6 : Code := findReg b 6
noncomputable def r7 : Code := findReg b 7
theorem b_eq (K : List Item) (s : St) : den prog ann 30 (.code b :: K) s = den prog ann 30 (.code r0 :: .code r1 :: .code r2 :: .code i0 :: .code r4 :: .code r5 :: .code i1 :: .code r7 :: .code .ret :: K) s := den_flat hf (l := [r0, r1, r2, i0, r4, r5, i1, r7, .ret]) (by kernel_rfl) K s
theorem r0_eq (K : List Item) (s : St) : den prog ann 30 (.code r0 :: K) s = mreg prog ann 30 none [] none [] [
    ⟨some 2, none, .v fun s => frozenPtr (s.get 0)⟩,
    ⟨some 4, none, .v fun s => some (.bool false)⟩,
    ⟨some 5, none, .v fun s => some (.int .i64 0)⟩] K s := (den_reg hf _ K s).trans (by kernel_rfl)
theorem r1_eq (K : List Item) (s : St) : den prog ann 30 (.code r1 :: K) s = mreg prog ann 30 none [] none [] [
    ⟨some 10, none, .v fun s => loadF true 2 (s.get 2)⟩,
    ⟨some 11, none, .c 0 (fun s => (.fn 61 [] [])) fun s => [(s.get 10)]⟩,
    ⟨some 9, none, .v fun s => some (s.get 11)⟩,
    ⟨some 12, none, .v fun s => extA (s.get 9) 0⟩,
    ⟨some 13, none, .v fun s => extA (s.get 9) 1⟩,
    ⟨some 6, none, .v fun s => some (s.get 12)⟩,
    ⟨some 7, none, .v fun s => some (s.get 13)⟩] K s := (den_reg hf _ K s).trans (by kernel_rfl)
theorem r2_eq (K : List Item) (s : St) : den prog ann 30 (.code r2 :: K) s = mreg prog ann 30 none [] none [] [
    ⟨some 14, none, .v fun s => some (s.get 7)⟩,
    ⟨some 15, none, .v fun s => unA .not (s.get 14)⟩] K s := (den_reg hf _ K s).trans (by kernel_rfl)
theorem i0_eq (K : List Item) (s : St) : den prog ann 30 (.code i0 :: K) s = ifV prog ann 30 15 i0t i0e K s (s.get 15) := den_if hf (by kernel_rfl) K s
theorem i0t_eq (K : List Item) (s : St) : den prog ann 30 (.code i0t :: K) s = den prog ann 30 (.code r3 :: .code .ret :: K) s := den_flat hf (l := [r3, .ret]) (by kernel_rfl) K s
theorem r3_eq (K : List Item) (s : St) : den prog ann 30 (.code r3 :: K) s = mreg prog ann 30 none [] none [] [
    ⟨some 4, none, .v fun s => some (.bool false)⟩,
    ⟨some 5, none, .v fun s => some (.int .i64 1)⟩] K s := (den_reg hf _ K s).trans (by kernel_rfl)
theorem i0e_eq (K : List Item) (s : St) : den prog ann 30 (.code i0e :: K) s = den prog ann 30 (K) s := den_flat hf (l := []) (by kernel_rfl) K s
theorem r4_eq (K : List Item) (s : St) : den prog ann 30 (.code r4 :: K) s = mreg prog ann 30 none [] none [8] [
    ⟨some 17, none, .v fun s => some (s.get 6)⟩,
    ⟨some 18, none, .v fun s => some (s.get 1)⟩,
    ⟨some 19, none, .c 0 (fun s => (.fn 71 [] [])) fun s => [(s.get 17), (s.get 18)]⟩,
    ⟨some 16, none, .v fun s => some (s.get 19)⟩,
    ⟨some 20, none, .v fun s => extA (s.get 16) 0⟩,
    ⟨some 21, none, .v fun s => extA (s.get 16) 1⟩,
    ⟨some 8, none, .w false none fun s => newPtr s.m [.int .i64 0, .int .i64 0, .int .i64 0, .int .i64 0]⟩,
    ⟨none, none, .w false none fun s => stA true 4 s.m (s.get 8) (s.get 20)⟩,
    ⟨some 7, none, .v fun s => some (s.get 21)⟩] K s := (den_reg hf _ K s).trans (by kernel_rfl)
theorem r5_eq (K : List Item) (s : St) : den prog ann 30 (.code r5 :: K) s = mreg prog ann 30 none [] none [] [
    ⟨some 22, none, .v fun s => some (s.get 7)⟩,
    ⟨some 23, none, .v fun s => unA .not (s.get 22)⟩] K s := (den_reg hf _ K s).trans (by kernel_rfl)
theorem i1_eq (K : List Item) (s : St) : den prog ann 30 (.code i1 :: K) s = ifV prog ann 30 23 i1t i1e K s (s.get 23) := den_if hf (by kernel_rfl) K s
theorem i1t_eq (K : List Item) (s : St) : den prog ann 30 (.code i1t :: K) s = den prog ann 30 (.code r6 :: .code .ret :: K) s := den_flat hf (l := [r6, .ret]) (by kernel_rfl) K s
theorem r6_eq (K : List Item) (s : St) : den prog ann 30 (.code r6 :: K) s = mreg prog ann 30 none [] none [] [
    ⟨some 4, none, .v fun s => some (.bool false)⟩,
    ⟨some 5, none, .v fun s => some (.int .i64 2)⟩] K s := (den_reg hf _ K s).trans (by kernel_rfl)
theorem i1e_eq (K : List Item) (s : St) : den prog ann 30 (.code i1e :: K) s = den prog ann 30 (K) s := den_flat hf (l := []) (by kernel_rfl) K s
theorem r7_eq (K : List Item) (s : St) : den prog ann 30 (.code r7 :: K) s = mreg prog ann 30 none [] none [] [
    ⟨some 24, none, .v fun s => some (s.get 6)⟩,
    ⟨some 25, none, .v fun s => loadF true 4 (s.get 8)⟩,
    ⟨some 26, none, .c 0 (fun s => (.fn 72 [] [])) fun s => [(s.get 24), (s.get 25)]⟩,
    ⟨some 4, none, .v fun s => some (s.get 26)⟩,
    ⟨some 5, none, .v fun s => some (.int .i64 0)⟩] K s := (den_reg hf _ K s).trans (by kernel_rfl)
theorem ret_eq (K : List Item) (s : St) : den prog ann 30 (.code .ret :: K) s = finM true [fun s => some (s.get 4), fun s => some (s.get 5)] s := (den_ret hf K s).trans (by kernel_rfl)
theorem nil_eq (s : St) : den prog ann 30 [] s = finM true [fun s => some (s.get 4), fun s => some (s.get 5)] s := (den_nil hf s).trans (by kernel_rfl)
theorem inBlock_eq (id : Nat) (K : List Item) (s : St) : den prog ann 30 (.inBlock id :: K) s = den prog ann 30 K s := den_inBlock hf id K s
theorem exit_eq (id : Nat) (K : List Item) (s : St) : den prog ann 30 (.code (.exit id) :: K) s = exitV prog ann 30 (exitTo id K) s := den_exitV hf id K s
theorem call_eq (v0 v1 : AV) (m : Mem) (h : closedL [v0, v1] = true) : denC prog ann 30 [v0, v1] m = (den prog ann 30 [.code b] ⟨[(0, v0), (1, v1)], 27, Mem.empty⟩).bind fun r => some (r.1, m) := (denC_pure hf (b := b) (by kernel_rfl) (by kernel_rfl) (by kernel_rfl) h m).trans (by kernel_rfl)
theorem pure_eq : (ann 30).pure = true := by kernel_rfl
attribute [simp] b_eq r0_eq r1_eq r2_eq i0_eq i0t_eq r3_eq i0e_eq r4_eq r5_eq i1_eq i1t_eq r6_eq i1e_eq r7_eq ret_eq nil_eq inBlock_eq exit_eq pure_eq
end watch_Consistent

namespace watch_Rank
/-- pommel/watch.Rank -/
noncomputable def b : Code := (Try.f45.body).getD .skip
theorem hf : prog.funcs[45]? = some Try.f45 := by kernel_rfl
noncomputable def r0 : Code := findReg b 0
noncomputable def r1 : Code := findReg b 1
noncomputable def r2 : Code := findReg b 2
noncomputable def i0 : Code := findCond b 0
noncomputable def i0t : Code := thenOf i0
noncomputable def i0e : Code := elseOf i0
noncomputable def r3 : Code := findReg b 3
noncomputable def r4 : Code := findReg b 4
noncomputable def r5 : Code := findReg b 5
noncomputable def i1 : Code := findCond b 1
noncomputable def i1t : Code := thenOf i1
noncomputable def i1e : Code := elseOf i1
noncomputable def r6 : Code := findReg b 6
noncomputable def r7 : Code := findReg b 7
noncomputable def r8 : Code := findReg b 8
noncomputable def i2 : Code := findCond b 2
noncomputable def i2t : Code := thenOf i2
noncomputable def i2e : Code := elseOf i2
noncomputable def r9 : Code := findReg b 9
noncomputable def r10 : Code := findReg b 10
theorem b_eq (K : List Item) (s : St) : den prog ann 45 (.code b :: K) s = den prog ann 45 (.code r0 :: .code r1 :: .code r2 :: .code i0 :: .code r4 :: .code r5 :: .code i1 :: .code r7 :: .code r8 :: .code i2 :: .code r10 :: .code .ret :: K) s := den_flat hf (l := [r0, r1, r2, i0, r4, r5, i1, r7, r8, i2, r10, .ret]) (by kernel_rfl) K s
theorem r0_eq (K : List Item) (s : St) : den prog ann 45 (.code r0 :: K) s = mreg prog ann 45 none [] none [] [
    ⟨some 2, none, .v fun s => frozenPtr (s.get 0)⟩,
    ⟨some 4, none, .v fun s => some (.int .i64 0)⟩,
    ⟨some 5, none, .v fun s => some (.int .i64 0)⟩] K s := (den_reg hf _ K s).trans (by kernel_rfl)
theorem r1_eq (K : List Item) (s : St) : den prog ann 45 (.code r1 :: K) s = mreg prog ann 45 none [] none [] [
    ⟨some 11, none, .v fun s => loadF true 2 (s.get 2)⟩,
    ⟨some 12, none, .c 0 (fun s => (.fn 61 [] [])) fun s => [(s.get 11)]⟩,
    ⟨some 10, none, .v fun s => some (s.get 12)⟩,
    ⟨some 13, none, .v fun s => extA (s.get 10) 0⟩,
    ⟨some 14, none, .v fun s => extA (s.get 10) 1⟩,
    ⟨some 6, none, .v fun s => some (s.get 13)⟩,
    ⟨some 7, none, .v fun s => some (s.get 14)⟩] K s := (den_reg hf _ K s).trans (by kernel_rfl)
theorem r2_eq (K : List Item) (s : St) : den prog ann 45 (.code r2 :: K) s = mreg prog ann 45 none [] none [] [
    ⟨some 15, none, .v fun s => some (s.get 7)⟩,
    ⟨some 16, none, .v fun s => unA .not (s.get 15)⟩] K s := (den_reg hf _ K s).trans (by kernel_rfl)
theorem i0_eq (K : List Item) (s : St) : den prog ann 45 (.code i0 :: K) s = ifV prog ann 45 16 i0t i0e K s (s.get 16) := den_if hf (by kernel_rfl) K s
theorem i0t_eq (K : List Item) (s : St) : den prog ann 45 (.code i0t :: K) s = den prog ann 45 (.code r3 :: .code .ret :: K) s := den_flat hf (l := [r3, .ret]) (by kernel_rfl) K s
theorem r3_eq (K : List Item) (s : St) : den prog ann 45 (.code r3 :: K) s = mreg prog ann 45 none [] none [] [
    ⟨some 4, none, .v fun s => some (.int .i64 0)⟩,
    ⟨some 5, none, .v fun s => some (.int .i64 1)⟩] K s := (den_reg hf _ K s).trans (by kernel_rfl)
theorem i0e_eq (K : List Item) (s : St) : den prog ann 45 (.code i0e :: K) s = den prog ann 45 (K) s := den_flat hf (l := []) (by kernel_rfl) K s
theorem r4_eq (K : List Item) (s : St) : den prog ann 45 (.code r4 :: K) s = mreg prog ann 45 none [] none [8] [
    ⟨some 18, none, .v fun s => some (s.get 6)⟩,
    ⟨some 19, none, .v fun s => some (s.get 1)⟩,
    ⟨some 20, none, .c 0 (fun s => (.fn 71 [] [])) fun s => [(s.get 18), (s.get 19)]⟩,
    ⟨some 17, none, .v fun s => some (s.get 20)⟩,
    ⟨some 21, none, .v fun s => extA (s.get 17) 0⟩,
    ⟨some 22, none, .v fun s => extA (s.get 17) 1⟩,
    ⟨some 8, none, .w false none fun s => newPtr s.m [.int .i64 0, .int .i64 0, .int .i64 0, .int .i64 0]⟩,
    ⟨none, none, .w false none fun s => stA true 4 s.m (s.get 8) (s.get 21)⟩,
    ⟨some 7, none, .v fun s => some (s.get 22)⟩] K s := (den_reg hf _ K s).trans (by kernel_rfl)
theorem r5_eq (K : List Item) (s : St) : den prog ann 45 (.code r5 :: K) s = mreg prog ann 45 none [] none [] [
    ⟨some 23, none, .v fun s => some (s.get 7)⟩,
    ⟨some 24, none, .v fun s => unA .not (s.get 23)⟩] K s := (den_reg hf _ K s).trans (by kernel_rfl)
theorem i1_eq (K : List Item) (s : St) : den prog ann 45 (.code i1 :: K) s = ifV prog ann 45 24 i1t i1e K s (s.get 24) := den_if hf (by kernel_rfl) K s
theorem i1t_eq (K : List Item) (s : St) : den prog ann 45 (.code i1t :: K) s = den prog ann 45 (.code r6 :: .code .ret :: K) s := den_flat hf (l := [r6, .ret]) (by kernel_rfl) K s
theorem r6_eq (K : List Item) (s : St) : den prog ann 45 (.code r6 :: K) s = mreg prog ann 45 none [] none [] [
    ⟨some 4, none, .v fun s => some (.int .i64 0)⟩,
    ⟨some 5, none, .v fun s => some (.int .i64 2)⟩] K s := (den_reg hf _ K s).trans (by kernel_rfl)
theorem i1e_eq (K : List Item) (s : St) : den prog ann 45 (.code i1e :: K) s = den prog ann 45 (K) s := den_flat hf (l := []) (by kernel_rfl) K s
theorem r7_draw : drawOk (fun g => (ann g).pure) (modeOf (ann 45) (idOf r7)) (frzOf (ann 45) (idOf r7)) (opsOf r7) = true := drawOk_of (an := [0, 1, 0, 7, 15]) (by kernel_rfl) (by kernel_rfl)
theorem r7_eq (K : List Item) (s : St) : den prog ann 45 (.code r7 :: K) s = mreg prog ann 45 none [] (some 5) [] [
    ⟨some 25, none, .v fun s => some (s.get 6)⟩,
    ⟨some 26, none, .c 0 (fun s => (.fn 62 [] [])) fun s => [(s.get 25)]⟩,
    ⟨some 27, none, .v fun s => loadF true 4 (s.get 8)⟩,
    ⟨some 28, none, .c 0 (fun s => (.fn 81 [] [])) fun s => [(s.get 26), (s.get 27)]⟩,
    ⟨some 9, none, .v fun s => some (s.get 28)⟩] K s := (den_regD hf r7_draw K s).trans (by kernel_rfl)
theorem r8_eq (K : List Item) (s : St) : den prog ann 45 (.code r8 :: K) s = mreg prog ann 45 none [] none [] [
    ⟨some 29, none, .v fun s => some (s.get 9)⟩,
    ⟨some 30, none, .v fun s => binA prog .lss 3 (s.get 29) (.int .i64 0)⟩] K s := (den_reg hf _ K s).trans (by kernel_rfl)
theorem i2_eq (K : List Item) (s : St) : den prog ann 45 (.code i2 :: K) s = ifV prog ann 45 30 i2t i2e K s (s.get 30) := den_if hf (by kernel_rfl) K s
theorem i2t_eq (K : List Item) (s : St) : den prog ann 45 (.code i2t :: K) s = den prog ann 45 (.code r9 :: .code .ret :: K) s := den_flat hf (l := [r9, .ret]) (by kernel_rfl) K s
theorem r9_eq (K : List Item) (s : St) : den prog ann 45 (.code r9 :: K) s = mreg prog ann 45 none [] none [] [
    ⟨some 4, none, .v fun s => some (.int .i64 0)⟩,
    ⟨some 5, none, .v fun s => some (.int .i64 5)⟩] K s := (den_reg hf _ K s).trans (by kernel_rfl)
theorem i2e_eq (K : List Item) (s : St) : den prog ann 45 (.code i2e :: K) s = den prog ann 45 (K) s := den_flat hf (l := []) (by kernel_rfl) K s
theorem r10_eq (K : List Item) (s : St) : den prog ann 45 (.code r10 :: K) s = mreg prog ann 45 none [] none [] [
    ⟨some 31, none, .v fun s => some (s.get 9)⟩,
    ⟨some 4, none, .v fun s => some (s.get 31)⟩,
    ⟨some 5, none, .v fun s => some (.int .i64 0)⟩] K s := (den_reg hf _ K s).trans (by kernel_rfl)
theorem ret_eq (K : List Item) (s : St) : den prog ann 45 (.code .ret :: K) s = finM true [fun s => some (s.get 4), fun s => some (s.get 5)] s := (den_ret hf K s).trans (by kernel_rfl)
theorem nil_eq (s : St) : den prog ann 45 [] s = finM true [fun s => some (s.get 4), fun s => some (s.get 5)] s := (den_nil hf s).trans (by kernel_rfl)
theorem inBlock_eq (id : Nat) (K : List Item) (s : St) : den prog ann 45 (.inBlock id :: K) s = den prog ann 45 K s := den_inBlock hf id K s
theorem exit_eq (id : Nat) (K : List Item) (s : St) : den prog ann 45 (.code (.exit id) :: K) s = exitV prog ann 45 (exitTo id K) s := den_exitV hf id K s
theorem call_eq (v0 v1 : AV) (m : Mem) (h : closedL [v0, v1] = true) : denC prog ann 45 [v0, v1] m = (den prog ann 45 [.code b] ⟨[(0, v0), (1, v1)], 32, Mem.empty⟩).bind fun r => some (r.1, m) := (denC_pure hf (b := b) (by kernel_rfl) (by kernel_rfl) (by kernel_rfl) h m).trans (by kernel_rfl)
theorem pure_eq : (ann 45).pure = true := by kernel_rfl
attribute [simp] b_eq r0_eq r1_eq r2_eq i0_eq i0t_eq r3_eq i0e_eq r4_eq r5_eq i1_eq i1t_eq r6_eq i1e_eq r7_eq r8_eq i2_eq i2t_eq r9_eq i2e_eq r10_eq ret_eq nil_eq inBlock_eq exit_eq pure_eq
end watch_Rank

namespace watch_Back
/-- pommel/watch.Back -/
noncomputable def b : Code := (Try.f24.body).getD .skip
theorem hf : prog.funcs[24]? = some Try.f24 := by kernel_rfl
noncomputable def r0 : Code := findReg b 0
noncomputable def r1 : Code := findReg b 1
theorem b_eq (K : List Item) (s : St) : den prog ann 24 (.code b :: K) s = den prog ann 24 (.code r0 :: .code r1 :: .code .ret :: K) s := den_flat hf (l := [r0, r1, .ret]) (by kernel_rfl) K s
theorem r0_eq (K : List Item) (s : St) : den prog ann 24 (.code r0 :: K) s = mreg prog ann 24 none [] none [] [
    ⟨some 2, none, .v fun s => frozenPtr (s.get 0)⟩,
    ⟨some 4, none, .v fun s => some (.nils)⟩,
    ⟨some 5, none, .v fun s => some (.int .i64 0)⟩] K s := (den_reg hf _ K s).trans (by kernel_rfl)
theorem r1_eq (K : List Item) (s : St) : den prog ann 24 (.code r1 :: K) s = mreg prog ann 24 none [] none [] [
    ⟨some 6, none, .v fun s => loadF true 2 (s.get 2)⟩,
    ⟨some 7, none, .v fun s => some (s.get 1)⟩,
    ⟨some 8, none, .c 0 (fun s => (.fn 68 [] [])) fun s => [(s.get 6), (s.get 7), (.fn 69 [] [])]⟩,
    ⟨some 9, none, .v fun s => extA (s.get 8) 0⟩,
    ⟨some 10, none, .v fun s => extA (s.get 8) 1⟩,
    ⟨some 4, none, .v fun s => some (s.get 9)⟩,
    ⟨some 5, none, .v fun s => some (s.get 10)⟩] K s := (den_reg hf _ K s).trans (by kernel_rfl)
theorem ret_eq (K : List Item) (s : St) : den prog ann 24 (.code .ret :: K) s = finM true [fun s => some (s.get 4), fun s => some (s.get 5)] s := (den_ret hf K s).trans (by kernel_rfl)
theorem nil_eq (s : St) : den prog ann 24 [] s = finM true [fun s => some (s.get 4), fun s => some (s.get 5)] s := (den_nil hf s).trans (by kernel_rfl)
theorem inBlock_eq (id : Nat) (K : List Item) (s : St) : den prog ann 24 (.inBlock id :: K) s = den prog ann 24 K s := den_inBlock hf id K s
theorem exit_eq (id : Nat) (K : List Item) (s : St) : den prog ann 24 (.code (.exit id) :: K) s = exitV prog ann 24 (exitTo id K) s := den_exitV hf id K s
theorem call_eq (v0 v1 : AV) (m : Mem) (h : closedL [v0, v1] = true) : denC prog ann 24 [v0, v1] m = (den prog ann 24 [.code b] ⟨[(0, v0), (1, v1)], 11, Mem.empty⟩).bind fun r => some (r.1, m) := (denC_pure hf (b := b) (by kernel_rfl) (by kernel_rfl) (by kernel_rfl) h m).trans (by kernel_rfl)
theorem pure_eq : (ann 24).pure = true := by kernel_rfl
attribute [simp] b_eq r0_eq r1_eq ret_eq nil_eq inBlock_eq exit_eq pure_eq
end watch_Back

namespace watch_Forth
/-- pommel/watch.Forth -/
noncomputable def b : Code := (Try.f26.body).getD .skip
theorem hf : prog.funcs[26]? = some Try.f26 := by kernel_rfl
noncomputable def r0 : Code := findReg b 0
noncomputable def r1 : Code := findReg b 1
theorem b_eq (K : List Item) (s : St) : den prog ann 26 (.code b :: K) s = den prog ann 26 (.code r0 :: .code r1 :: .code .ret :: K) s := den_flat hf (l := [r0, r1, .ret]) (by kernel_rfl) K s
theorem r0_eq (K : List Item) (s : St) : den prog ann 26 (.code r0 :: K) s = mreg prog ann 26 none [] none [] [
    ⟨some 2, none, .v fun s => frozenPtr (s.get 0)⟩,
    ⟨some 4, none, .v fun s => some (.nils)⟩,
    ⟨some 5, none, .v fun s => some (.int .i64 0)⟩] K s := (den_reg hf _ K s).trans (by kernel_rfl)
theorem r1_eq (K : List Item) (s : St) : den prog ann 26 (.code r1 :: K) s = mreg prog ann 26 none [] none [] [
    ⟨some 6, none, .v fun s => loadF true 2 (s.get 2)⟩,
    ⟨some 7, none, .v fun s => some (s.get 1)⟩,
    ⟨some 8, none, .c 0 (fun s => (.fn 68 [] [])) fun s => [(s.get 6), (s.get 7), (.fn 70 [] [])]⟩,
    ⟨some 9, none, .v fun s => extA (s.get 8) 0⟩,
    ⟨some 10, none, .v fun s => extA (s.get 8) 1⟩,
    ⟨some 4, none, .v fun s => some (s.get 9)⟩,
    ⟨some 5, none, .v fun s => some (s.get 10)⟩] K s := (den_reg hf _ K s).trans (by kernel_rfl)
theorem ret_eq (K : List Item) (s : St) : den prog ann 26 (.code .ret :: K) s = finM true [fun s => some (s.get 4), fun s => some (s.get 5)] s := (den_ret hf K s).trans (by kernel_rfl)
theorem nil_eq (s : St) : den prog ann 26 [] s = finM true [fun s => some (s.get 4), fun s => some (s.get 5)] s := (den_nil hf s).trans (by kernel_rfl)
theorem inBlock_eq (id : Nat) (K : List Item) (s : St) : den prog ann 26 (.inBlock id :: K) s = den prog ann 26 K s := den_inBlock hf id K s
theorem exit_eq (id : Nat) (K : List Item) (s : St) : den prog ann 26 (.code (.exit id) :: K) s = exitV prog ann 26 (exitTo id K) s := den_exitV hf id K s
theorem call_eq (v0 v1 : AV) (m : Mem) (h : closedL [v0, v1] = true) : denC prog ann 26 [v0, v1] m = (den prog ann 26 [.code b] ⟨[(0, v0), (1, v1)], 11, Mem.empty⟩).bind fun r => some (r.1, m) := (denC_pure hf (b := b) (by kernel_rfl) (by kernel_rfl) (by kernel_rfl) h m).trans (by kernel_rfl)
theorem pure_eq : (ann 26).pure = true := by kernel_rfl
attribute [simp] b_eq r0_eq r1_eq ret_eq nil_eq inBlock_eq exit_eq pure_eq
end watch_Forth

namespace watch_story_cutOf
/-- (*pommel/watch.story).cutOf -/
noncomputable def b : Code := (Try.f71.body).getD .skip
theorem hf : prog.funcs[71]? = some Try.f71 := by kernel_rfl
noncomputable def r0 : Code := findReg b 0
noncomputable def r1 : Code := findReg b 1
noncomputable def r2 : Code := findReg b 2
noncomputable def i0 : Code := findCond b 0
noncomputable def i0t : Code := thenOf i0
noncomputable def i0e : Code := elseOf i0
noncomputable def r3 : Code := findReg b 3
noncomputable def r4 : Code := findReg b 4
noncomputable def r5 : Code := findReg b 5
noncomputable def k0 : Code := findBlk b 0
noncomputable def l0 : Code := loopOf k0
noncomputable def L0 (x0 x4 x6 x20 x21 : AV) (m : Mem) (K : List Item) : Option Res := den prog ann 71 (.code l0 :: .inLoop l0 :: .inBlock 0 :: K) ⟨[(0, x0), (4, x4), (6, x6), (20, x20), (21, x21)], 40, m⟩
noncomputable def r6 : Code := findReg b 6
noncomputable def i1 : Code := findCond b 1
noncomputable def i1t : Code := thenOf i1
noncomputable def i1e : Code := elseOf i1
noncomputable def k1 : Code := findBlk b 1
noncomputable def r7 : Code := findReg b 7
noncomputable def r8 : Code := findReg b 8
noncomputable def i2 : Code := findCond b 2
noncomputable def i2t : Code := thenOf i2
noncomputable def i2e : Code := elseOf i2
noncomputable def r9 : Code := findReg b 9
noncomputable def r10 : Code := findReg b 10
noncomputable def r11 : Code := findReg b 11
theorem b_eq (K : List Item) (s : St) : den prog ann 71 (.code b :: K) s = den prog ann 71 (.code r0 :: .code r1 :: .code r2 :: .code i0 :: .code r4 :: .code r5 :: .code k0 :: .code r11 :: .code .ret :: K) s := den_flat hf (l := [r0, r1, r2, i0, r4, r5, k0, r11, .ret]) (by kernel_rfl) K s
theorem r0_eq (K : List Item) (s : St) : den prog ann 71 (.code r0 :: K) s = mreg prog ann 71 none [] none [] [
    ⟨some 4, none, .w false none fun s => newPtr s.m [.int .i64 0, .int .i64 0, .int .i64 0, .int .i64 0]⟩,
    ⟨some 5, none, .v fun s => some (.bool false)⟩] K s := (den_reg hf _ K s).trans (by kernel_rfl)
theorem r1_eq (K : List Item) (s : St) : den prog ann 71 (.code r1 :: K) s = mreg prog ann 71 none [] none [] [
    ⟨some 6, none, .w false none fun s => newPtr s.m [.int .i64 0, .int .i64 0, .int .i64 0, .int .i64 0]⟩] K s := (den_reg hf _ K s).trans (by kernel_rfl)
theorem r2_eq (K : List Item) (s : St) : den prog ann 71 (.code r2 :: K) s = mreg prog ann 71 none [] none [] [
    ⟨some 9, none, .v fun s => some (s.get 1)⟩,
    ⟨some 10, none, .v fun s => lenSl (s.get 9)⟩,
    ⟨some 11, none, .v fun s => some (s.get 0)⟩,
    ⟨some 12, none, .v fun s => nilA (s.get 11)⟩,
    ⟨some 13, none, .v fun s => fieldA 0 (s.get 12)⟩,
    ⟨some 14, none, .v fun s => loadF false 1 (s.get 13)⟩,
    ⟨some 15, none, .v fun s => binA prog .neq 3 (s.get 10) (s.get 14)⟩] K s := (den_reg hf _ K s).trans (by kernel_rfl)
theorem i0_eq (K : List Item) (s : St) : den prog ann 71 (.code i0 :: K) s = ifV prog ann 71 15 i0t i0e K s (s.get 15) := den_if hf (by kernel_rfl) K s
theorem i0t_eq (K : List Item) (s : St) : den prog ann 71 (.code i0t :: K) s = den prog ann 71 (.code r3 :: .code .ret :: K) s := den_flat hf (l := [r3, .ret]) (by kernel_rfl) K s
theorem r3_eq (K : List Item) (s : St) : den prog ann 71 (.code r3 :: K) s = mreg prog ann 71 none [] none [] [
    ⟨some 16, none, .v fun s => loadA true 4 s.m (s.get 6)⟩,
    ⟨none, none, .w false none fun s => stA true 4 s.m (s.get 4) (s.get 16)⟩,
    ⟨some 5, none, .v fun s => some (.bool false)⟩] K s := (den_reg hf _ K s).trans (by kernel_rfl)
theorem i0e_eq (K : List Item) (s : St) : den prog ann 71 (.code i0e :: K) s = den prog ann 71 (K) s := den_flat hf (l := []) (by kernel_rfl) K s
theorem r4_eq (K : List Item) (s : St) : den prog ann 71 (.code r4 :: K) s = mreg prog ann 71 none [] none [] [
    ⟨some 17, none, .v fun s => sliceArr 4 1 (s.get 6) none none⟩,
    ⟨some 18, none, .v fun s => some (s.get 1)⟩,
    ⟨some 19, none, .w false none fun s => copyA 1 s.m (s.get 17) (s.get 18)⟩] K s := (den_reg hf _ K s).trans (by kernel_rfl)
theorem r5_eq (K : List Item) (s : St) : den prog ann 71 (.code r5 :: K) s = mreg prog ann 71 none [] none [] [
    ⟨some 20, none, .v fun s => loadA true 4 s.m (s.get 6)⟩,
    ⟨some 21, none, .v fun s => some (.int .i64 0)⟩] K s := (den_reg hf _ K s).trans (by kernel_rfl)
theorem k0_eq (K : List Item) (t : List (Nat × AV)) (m : Mem) : den prog ann 71 (.code k0 :: K) ⟨t, 40, m⟩ = L0 (get t 0) (get t 4) (get t 6) (get t 20) (get t 21) m K := den_loop_enter hf (b := l0) (id := 6) (l := [0, 4, 6, 20, 21]) (by kernel_rfl) (by kernel_rfl) (by kernel_rfl) K _
theorem l0_eq (K : List Item) (t : List (Nat × AV)) (m : Mem) : den prog ann 71 (.inLoop l0 :: .inBlock 0 :: K) ⟨t, 40, m⟩ = L0 (get t 0) (get t 4) (get t 6) (get t 20) (get t 21) m K := den_loop_again hf (id := 6) (l := [0, 4, 6, 20, 21]) (by kernel_rfl) (by kernel_rfl) (.inBlock 0 :: K) _
theorem L0_eq (x0 x4 x6 x20 x21 : AV) (m : Mem) (K : List Item) : L0 x0 x4 x6 x20 x21 m K = den prog ann 71 (.code r6 :: .code i1 :: .code k1 :: .code r10 :: .inLoop l0 :: .inBlock 0 :: K) ⟨[(0, x0), (4, x4), (6, x6), (20, x20), (21, x21)], 40, m⟩ := den_flat hf (l := [r6, i1, k1, r10]) (by kernel_rfl) _ _
theorem r6_eq (K : List Item) (s : St) : den prog ann 71 (.code r6 :: K) s = mreg prog ann 71 (some [0, 4, 6, 20, 21]) [] none [] [
    ⟨some 22, none, .v fun s => binA prog .lss 3 (s.get 21) (.int .i64 4)⟩] K s := (den_reg hf _ K s).trans (by kernel_rfl)
theorem i1_eq (K : List Item) (s : St) : den prog ann 71 (.code i1 :: K) s = ifV prog ann 71 22 i1t i1e K s (s.get 22) := den_if hf (by kernel_rfl) K s
theorem i1t_eq (K : List Item) (s : St) : den prog ann 71 (.code i1t :: K) s = den prog ann 71 (K) s := den_flat hf (l := []) (by kernel_rfl) K s
theorem i1e_eq (K : List Item) (s : St) : den prog ann 71 (.code i1e :: K) s = den prog ann 71 (.code (.exit 0) :: K) s := den_flat hf (l := [(.exit 0)]) (by kernel_rfl) K s
theorem k1_eq (K : List Item) (s : St) : den prog ann 71 (.code k1 :: K) s = den prog ann 71 (.code r7 :: .code r8 :: .code i2 :: .inBlock 1 :: K) s := den_blk hf (b := blkOf k1) (l := [r7, r8, i2]) (by kernel_rfl) (by kernel_rfl) K s
theorem r7_eq (K : List Item) (s : St) : den prog ann 71 (.code r7 :: K) s = mreg prog ann 71 none [] none [] [
    ⟨some 23, none, .v fun s => some (s.get 21)⟩,
    ⟨some 24, none, .v fun s => idxAgg 4 1 false (s.get 20) (s.get 21)⟩,
    ⟨some 7, none, .v fun s => some (s.get 23)⟩,
    ⟨some 8, none, .v fun s => some (s.get 24)⟩] K s := (den_reg hf _ K s).trans (by kernel_rfl)
theorem r8_eq (K : List Item) (s : St) : den prog ann 71 (.code r8 :: K) s = mreg prog ann 71 none [] none [] [
    ⟨some 25, none, .v fun s => some (s.get 8)⟩,
    ⟨some 26, none, .v fun s => binA prog .lss 3 (s.get 25) (.int .i64 0)⟩,
    ⟨some 27, none, .v fun s => some (s.get 26)⟩,
    ⟨some 28, some (27, false), .v fun s => some (s.get 8)⟩,
    ⟨some 29, some (27, false), .v fun s => some (s.get 0)⟩,
    ⟨some 30, some (27, false), .v fun s => some (s.get 7)⟩,
    ⟨some 31, some (27, false), .v fun s => nilA (s.get 29)⟩,
    ⟨some 32, some (27, false), .v fun s => fieldA 1 (s.get 31)⟩,
    ⟨some 33, some (27, false), .v fun s => idxArr 4 1 (s.get 32) (s.get 30)⟩,
    ⟨some 34, some (27, false), .v fun s => loadF false 1 (s.get 33)⟩,
    ⟨some 35, some (27, false), .v fun s => binA prog .gtr 3 (s.get 28) (s.get 34)⟩,
    ⟨some 36, none, .v fun s => pickA (s.get 27) (.bool true) (s.get 35)⟩] K s := (den_reg hf _ K s).trans (by kernel_rfl)
theorem i2_eq (K : List Item) (s : St) : den prog ann 71 (.code i2 :: K) s = ifV prog ann 71 36 i2t i2e K s (s.get 36) := den_if hf (by kernel_rfl) K s
theorem i2t_eq (K : List Item) (s : St) : den prog ann 71 (.code i2t :: K) s = den prog ann 71 (.code r9 :: .code .ret :: K) s := den_flat hf (l := [r9, .ret]) (by kernel_rfl) K s
theorem r9_eq (K : List Item) (s : St) : den prog ann 71 (.code r9 :: K) s = mreg prog ann 71 none [] none [] [
    ⟨some 37, none, .v fun s => loadA true 4 s.m (s.get 6)⟩,
    ⟨none, none, .w false none fun s => stA true 4 s.m (s.get 4) (s.get 37)⟩,
    ⟨some 5, none, .v fun s => some (.bool false)⟩] K s := (den_reg hf _ K s).trans (by kernel_rfl)
theorem i2e_eq (K : List Item) (s : St) : den prog ann 71 (.code i2e :: K) s = den prog ann 71 (K) s := den_flat hf (l := []) (by kernel_rfl) K s
theorem r10_eq (K : List Item) (s : St) : den prog ann 71 (.code r10 :: K) s = mreg prog ann 71 (some [0, 4, 6, 20, 21]) [] none [] [
    ⟨some 38, none, .v fun s => binA prog .add 3 (s.get 21) (.int .i64 1)⟩,
    ⟨some 21, none, .v fun s => some (s.get 38)⟩] K s := (den_reg hf _ K s).trans (by kernel_rfl)
theorem r11_eq (K : List Item) (s : St) : den prog ann 71 (.code r11 :: K) s = mreg prog ann 71 (some [4, 6]) [] none [] [
    ⟨some 39, none, .v fun s => loadA true 4 s.m (s.get 6)⟩,
    ⟨none, none, .w false none fun s => stA true 4 s.m (s.get 4) (s.get 39)⟩,
    ⟨some 5, none, .v fun s => some (.bool true)⟩] K s := (den_reg hf _ K s).trans (by kernel_rfl)
theorem ret_eq (K : List Item) (s : St) : den prog ann 71 (.code .ret :: K) s = finM true [fun s => loadA true 4 s.m (s.get 4), fun s => some (s.get 5)] s := (den_ret hf K s).trans (by kernel_rfl)
theorem nil_eq (s : St) : den prog ann 71 [] s = finM true [fun s => loadA true 4 s.m (s.get 4), fun s => some (s.get 5)] s := (den_nil hf s).trans (by kernel_rfl)
theorem inBlock_eq (id : Nat) (K : List Item) (s : St) : den prog ann 71 (.inBlock id :: K) s = den prog ann 71 K s := den_inBlock hf id K s
theorem exit_eq (id : Nat) (K : List Item) (s : St) : den prog ann 71 (.code (.exit id) :: K) s = exitV prog ann 71 (exitTo id K) s := den_exitV hf id K s
theorem call_eq (v0 v1 : AV) (m : Mem) (h : closedL [v0, v1] = true) : denC prog ann 71 [v0, v1] m = (den prog ann 71 [.code b] ⟨[(0, v0), (1, v1)], 40, Mem.empty⟩).bind fun r => some (r.1, m) := (denC_pure hf (b := b) (by kernel_rfl) (by kernel_rfl) (by kernel_rfl) h m).trans (by kernel_rfl)
theorem pure_eq : (ann 71).pure = true := by kernel_rfl
attribute [simp] b_eq r0_eq r1_eq r2_eq i0_eq i0t_eq r3_eq i0e_eq r4_eq r5_eq k0_eq l0_eq r6_eq i1_eq i1t_eq i1e_eq k1_eq r7_eq r8_eq i2_eq i2t_eq r9_eq i2e_eq r10_eq r11_eq ret_eq nil_eq inBlock_eq exit_eq pure_eq
end watch_story_cutOf

namespace watch_story_back
/-- (*pommel/watch.story).back -/
noncomputable def b : Code := (Try.f69.body).getD .skip
theorem hf : prog.funcs[69]? = some Try.f69 := by kernel_rfl
noncomputable def r0 : Code := findReg b 0
noncomputable def r1 : Code := findReg b 1
noncomputable def r2 : Code := findReg b 2
noncomputable def k0 : Code := findBlk b 0
noncomputable def l0 : Code := loopOf k0
noncomputable def L0 (x0 x3 x4 x5 x11 x12 : AV) (m : Mem) (K : List Item) : Option Res := den prog ann 69 (.code l0 :: .inLoop l0 :: .inBlock 0 :: K) ⟨[(0, x0), (3, x3), (4, x4), (5, x5), (11, x11), (12, x12)], 44, m⟩
noncomputable def r3 : Code := findReg b 3
noncomputable def i0 : Code := findCond b 0
noncomputable def i0t : Code := thenOf i0
noncomputable def i0e : Code := elseOf i0
noncomputable def k1 : Code := findBlk b 1
noncomputable def r4 : Code := findReg b 4
noncomputable def k2 : Code := findBlk b 2
noncomputable def l2 : Code := loopOf k2
noncomputable def L2 (x0 x3 x4 x5 x6 x11 x12 : AV) (m : Mem) (K : List Item) : Option Res := den prog ann 69 (.code l2 :: .inLoop l2 :: .inBlock 2 :: K) ⟨[(0, x0), (3, x3), (4, x4), (5, x5), (6, x6), (11, x11), (12, x12)], 44, m⟩
noncomputable def r5 : Code := findReg b 5
noncomputable def i1 : Code := findCond b 1
noncomputable def i1t : Code := thenOf i1
noncomputable def i1e : Code := elseOf i1
noncomputable def k3 : Code := findBlk b 3
noncomputable def r6 : Code := findReg b 6
noncomputable def r7 : Code := findReg b 7
noncomputable def r8 : Code := findReg b 8
theorem b_eq (K : List Item) (s : St) : den prog ann 69 (.code b :: K) s = den prog ann 69 (.code r0 :: .code r1 :: .code r2 :: .code k0 :: .code r8 :: .code .ret :: K) s := den_flat hf (l := [r0, r1, r2, k0, r8, .ret]) (by kernel_rfl) K s
theorem r0_eq (K : List Item) (s : St) : den prog ann 69 (.code r0 :: K) s = mreg prog ann 69 none [] none [] [
    ⟨some 3, none, .v fun s => frozenPtr (s.get 1)⟩,
    ⟨some 4, none, .w false none fun s => newPtr s.m [.int .i64 0, .int .i64 0, .int .i64 0, .int .i64 0]⟩] K s := (den_reg hf _ K s).trans (by kernel_rfl)
theorem r1_eq (K : List Item) (s : St) : den prog ann 69 (.code r1 :: K) s = mreg prog ann 69 none [] none [] [
    ⟨some 7, none, .v fun s => loadF true 4 (s.get 3)⟩,
    ⟨some 5, none, .w false none fun s => newPtr s.m [.int .i64 0, .int .i64 0, .int .i64 0, .int .i64 0]⟩,
    ⟨none, none, .w false none fun s => stA true 4 s.m (s.get 5) (s.get 7)⟩] K s := (den_reg hf _ K s).trans (by kernel_rfl)
theorem r2_eq (K : List Item) (s : St) : den prog ann 69 (.code r2 :: K) s = mreg prog ann 69 none [] none [] [
    ⟨some 8, none, .v fun s => some (s.get 0)⟩,
    ⟨some 9, none, .v fun s => nilA (s.get 8)⟩,
    ⟨some 10, none, .v fun s => fieldA 0 (s.get 9)⟩,
    ⟨some 11, none, .v fun s => loadF false 1 (s.get 10)⟩,
    ⟨some 12, none, .v fun s => some (.int .i64 0)⟩] K s := (den_reg hf _ K s).trans (by kernel_rfl)
theorem k0_eq (K : List Item) (t : List (Nat × AV)) (m : Mem) : den prog ann 69 (.code k0 :: K) ⟨t, 44, m⟩ = L0 (get t 0) (get t 3) (get t 4) (get t 5) (get t 11) (get t 12) m K := den_loop_enter hf (b := l0) (id := 3) (l := [0, 3, 4, 5, 11, 12]) (by kernel_rfl) (by kernel_rfl) (by kernel_rfl) K _
theorem l0_eq (K : List Item) (t : List (Nat × AV)) (m : Mem) : den prog ann 69 (.inLoop l0 :: .inBlock 0 :: K) ⟨t, 44, m⟩ = L0 (get t 0) (get t 3) (get t 4) (get t 5) (get t 11) (get t 12) m K := den_loop_again hf (id := 3) (l := [0, 3, 4, 5, 11, 12]) (by kernel_rfl) (by kernel_rfl) (.inBlock 0 :: K) _
theorem L0_eq (x0 x3 x4 x5 x11 x12 : AV) (m : Mem) (K : List Item) : L0 x0 x3 x4 x5 x11 x12 m K = den prog ann 69 (.code r3 :: .code i0 :: .code k1 :: .code r7 :: .inLoop l0 :: .inBlock 0 :: K) ⟨[(0, x0), (3, x3), (4, x4), (5, x5), (11, x11), (12, x12)], 44, m⟩ := den_flat hf (l := [r3, i0, k1, r7]) (by kernel_rfl) _ _
theorem r3_eq (K : List Item) (s : St) : den prog ann 69 (.code r3 :: K) s = mreg prog ann 69 (some [0, 3, 4, 5, 11, 12]) [] none [] [
    ⟨some 13, none, .v fun s => binA prog .lss 3 (s.get 12) (s.get 11)⟩] K s := (den_reg hf _ K s).trans (by kernel_rfl)
theorem i0_eq (K : List Item) (s : St) : den prog ann 69 (.code i0 :: K) s = ifV prog ann 69 13 i0t i0e K s (s.get 13) := den_if hf (by kernel_rfl) K s
theorem i0t_eq (K : List Item) (s : St) : den prog ann 69 (.code i0t :: K) s = den prog ann 69 (K) s := den_flat hf (l := []) (by kernel_rfl) K s
theorem i0e_eq (K : List Item) (s : St) : den prog ann 69 (.code i0e :: K) s = den prog ann 69 (.code (.exit 0) :: K) s := den_flat hf (l := [(.exit 0)]) (by kernel_rfl) K s
theorem k1_eq (K : List Item) (s : St) : den prog ann 69 (.code k1 :: K) s = den prog ann 69 (.code r4 :: .code k2 :: .inBlock 1 :: K) s := den_blk hf (b := blkOf k1) (l := [r4, k2]) (by kernel_rfl) (by kernel_rfl) K s
theorem r4_eq (K : List Item) (s : St) : den prog ann 69 (.code r4 :: K) s = mreg prog ann 69 none [] none [] [
    ⟨some 14, none, .v fun s => some (s.get 12)⟩,
    ⟨some 6, none, .v fun s => some (s.get 14)⟩] K s := (den_reg hf _ K s).trans (by kernel_rfl)
theorem k2_eq (K : List Item) (t : List (Nat × AV)) (m : Mem) : den prog ann 69 (.code k2 :: K) ⟨t, 44, m⟩ = L2 (get t 0) (get t 3) (get t 4) (get t 5) (get t 6) (get t 11) (get t 12) m K := den_loop_enter hf (b := l2) (id := 5) (l := [0, 3, 4, 5, 6, 11, 12]) (by kernel_rfl) (by kernel_rfl) (by kernel_rfl) K _
theorem l2_eq (K : List Item) (t : List (Nat × AV)) (m : Mem) : den prog ann 69 (.inLoop l2 :: .inBlock 2 :: K) ⟨t, 44, m⟩ = L2 (get t 0) (get t 3) (get t 4) (get t 5) (get t 6) (get t 11) (get t 12) m K := den_loop_again hf (id := 5) (l := [0, 3, 4, 5, 6, 11, 12]) (by kernel_rfl) (by kernel_rfl) (.inBlock 2 :: K) _
theorem L2_eq (x0 x3 x4 x5 x6 x11 x12 : AV) (m : Mem) (K : List Item) : L2 x0 x3 x4 x5 x6 x11 x12 m K = den prog ann 69 (.code r5 :: .code i1 :: .code k3 :: .inLoop l2 :: .inBlock 2 :: K) ⟨[(0, x0), (3, x3), (4, x4), (5, x5), (6, x6), (11, x11), (12, x12)], 44, m⟩ := den_flat hf (l := [r5, i1, k3]) (by kernel_rfl) _ _
theorem r5_draw : drawOk (fun g => (ann g).pure) (modeOf (ann 69) (idOf r5)) (frzOf (ann 69) (idOf r5)) (opsOf r5) = true := drawOk_of (an := [0, 1, 3, 7, 15, 31, 31, 63, 191, 511, 1023, 31, 2079, 6175, 14367, 32767, 65535, 31, 262143, 31, 1048575, 2097151]) (by kernel_rfl) (by kernel_rfl)
theorem r5_eq (K : List Item) (s : St) : den prog ann 69 (.code r5 :: K) s = mreg prog ann 69 (some [0, 3, 4, 5, 6, 11, 12]) [] (some 22) [] [
    ⟨some 15, none, .v fun s => some (s.get 6)⟩,
    ⟨some 16, none, .v fun s => idxArr 4 1 (s.get 5) (s.get 15)⟩,
    ⟨some 17, none, .v fun s => loadA false 1 s.m (s.get 16)⟩,
    ⟨some 18, none, .v fun s => binA prog .gtr 3 (s.get 17) (.int .i64 0)⟩,
    ⟨some 19, none, .v fun s => some (s.get 18)⟩,
    ⟨some 20, some (19, true), .v fun s => some (s.get 0)⟩,
    ⟨some 21, some (19, true), .v fun s => some (s.get 6)⟩,
    ⟨some 22, some (19, true), .v fun s => nilA (s.get 20)⟩,
    ⟨some 23, some (19, true), .v fun s => fieldA 5 (s.get 22)⟩,
    ⟨some 24, some (19, true), .v fun s => idxArr 4 1 (s.get 23) (s.get 21)⟩,
    ⟨some 25, some (19, true), .v fun s => loadF false 1 (s.get 24)⟩,
    ⟨some 26, some (19, true), .v fun s => some (s.get 6)⟩,
    ⟨some 27, some (19, true), .v fun s => idxArr 4 1 (s.get 5) (s.get 26)⟩,
    ⟨some 28, some (19, true), .v fun s => loadA false 1 s.m (s.get 27)⟩,
    ⟨some 29, some (19, true), .v fun s => binA prog .sub 3 (s.get 28) (.int .i64 1)⟩,
    ⟨some 30, some (19, true), .v fun s => idxSl 4 (s.get 25) (s.get 29)⟩,
    ⟨some 31, some (19, true), .v fun s => loadF true 4 (s.get 30)⟩,
    ⟨some 32, some (19, true), .v fun s => loadF true 4 (s.get 3)⟩,
    ⟨some 33, some (19, true), .c 0 (fun s => (.fn 91 [] [])) fun s => [(s.get 31), (s.get 32)]⟩,
    ⟨some 34, some (19, true), .v fun s => loadF true 4 (s.get 3)⟩,
    ⟨some 35, some (19, true), .v fun s => binA prog .neq 99 (s.get 33) (s.get 34)⟩,
    ⟨some 36, none, .v fun s => pickA (s.get 19) (s.get 35) (.bool false)⟩] K s := (den_regD hf r5_draw K s).trans (by kernel_rfl)
theorem i1_eq (K : List Item) (s : St) : den prog ann 69 (.code i1 :: K) s = ifV prog ann 69 36 i1t i1e K s (s.get 36) := den_if hf (by kernel_rfl) K s
theorem i1t_eq (K : List Item) (s : St) : den prog ann 69 (.code i1t :: K) s = den prog ann 69 (K) s := den_flat hf (l := []) (by kernel_rfl) K s
theorem i1e_eq (K : List Item) (s : St) : den prog ann 69 (.code i1e :: K) s = den prog ann 69 (.code (.exit 2) :: K) s := den_flat hf (l := [(.exit 2)]) (by kernel_rfl) K s
theorem k3_eq (K : List Item) (s : St) : den prog ann 69 (.code k3 :: K) s = den prog ann 69 (.code r6 :: .inBlock 3 :: K) s := den_blk hf (b := blkOf k3) (l := [r6]) (by kernel_rfl) (by kernel_rfl) K s
theorem r6_eq (K : List Item) (s : St) : den prog ann 69 (.code r6 :: K) s = mreg prog ann 69 none [] none [] [
    ⟨some 37, none, .v fun s => some (s.get 6)⟩,
    ⟨some 38, none, .v fun s => idxArr 4 1 (s.get 5) (s.get 37)⟩,
    ⟨some 39, none, .v fun s => loadA false 1 s.m (s.get 38)⟩,
    ⟨some 40, none, .v fun s => binA prog .sub 3 (s.get 39) (.int .i64 1)⟩,
    ⟨some 41, none, .v fun s => idxArr 4 1 (s.get 5) (s.get 37)⟩,
    ⟨none, none, .w false none fun s => stA false 1 s.m (s.get 41) (s.get 40)⟩] K s := (den_reg hf _ K s).trans (by kernel_rfl)
theorem r7_eq (K : List Item) (s : St) : den prog ann 69 (.code r7 :: K) s = mreg prog ann 69 (some [0, 3, 4, 5, 11, 12]) [] none [] [
    ⟨some 42, none, .v fun s => binA prog .add 3 (s.get 12) (.int .i64 1)⟩,
    ⟨some 12, none, .v fun s => some (s.get 42)⟩] K s := (den_reg hf _ K s).trans (by kernel_rfl)
theorem r8_eq (K : List Item) (s : St) : den prog ann 69 (.code r8 :: K) s = mreg prog ann 69 (some [4, 5]) [] none [] [
    ⟨some 43, none, .v fun s => loadA true 4 s.m (s.get 5)⟩,
    ⟨none, none, .w false none fun s => stA true 4 s.m (s.get 4) (s.get 43)⟩] K s := (den_reg hf _ K s).trans (by kernel_rfl)
theorem ret_eq (K : List Item) (s : St) : den prog ann 69 (.code .ret :: K) s = finM true [fun s => loadA true 4 s.m (s.get 4)] s := (den_ret hf K s).trans (by kernel_rfl)
theorem nil_eq (s : St) : den prog ann 69 [] s = finM true [fun s => loadA true 4 s.m (s.get 4)] s := (den_nil hf s).trans (by kernel_rfl)
theorem inBlock_eq (id : Nat) (K : List Item) (s : St) : den prog ann 69 (.inBlock id :: K) s = den prog ann 69 K s := den_inBlock hf id K s
theorem exit_eq (id : Nat) (K : List Item) (s : St) : den prog ann 69 (.code (.exit id) :: K) s = exitV prog ann 69 (exitTo id K) s := den_exitV hf id K s
theorem call_eq (v0 v1 : AV) (m : Mem) (h : closedL [v0, v1] = true) : denC prog ann 69 [v0, v1] m = (den prog ann 69 [.code b] ⟨[(0, v0), (1, v1)], 44, Mem.empty⟩).bind fun r => some (r.1, m) := (denC_pure hf (b := b) (by kernel_rfl) (by kernel_rfl) (by kernel_rfl) h m).trans (by kernel_rfl)
theorem pure_eq : (ann 69).pure = true := by kernel_rfl
attribute [simp] b_eq r0_eq r1_eq r2_eq k0_eq l0_eq r3_eq i0_eq i0t_eq i0e_eq k1_eq r4_eq k2_eq l2_eq r5_eq i1_eq i1t_eq i1e_eq k3_eq r6_eq r7_eq r8_eq ret_eq nil_eq inBlock_eq exit_eq pure_eq
end watch_story_back

namespace watch_moved
/-- pommel/watch.moved -/
noncomputable def b : Code := (Try.f68.body).getD .skip
theorem hf : prog.funcs[68]? = some Try.f68 := by kernel_rfl
noncomputable def r0 : Code := findReg b 0
noncomputable def r1 : Code := findReg b 1
noncomputable def r2 : Code := findReg b 2
noncomputable def i0 : Code := findCond b 0
noncomputable def i0t : Code := thenOf i0
noncomputable def i0e : Code := elseOf i0
noncomputable def r3 : Code := findReg b 3
noncomputable def r4 : Code := findReg b 4
noncomputable def r5 : Code := findReg b 5
noncomputable def i1 : Code := findCond b 1
noncomputable def i1t : Code := thenOf i1
noncomputable def i1e : Code := elseOf i1
noncomputable def r6 : Code := findReg b 6
noncomputable def r7 : Code := findReg b 7
theorem b_eq (K : List Item) (s : St) : den prog ann 68 (.code b :: K) s = den prog ann 68 (.code r0 :: .code r1 :: .code r2 :: .code i0 :: .code r4 :: .code r5 :: .code i1 :: .code r7 :: .code .ret :: K) s := den_flat hf (l := [r0, r1, r2, i0, r4, r5, i1, r7, .ret]) (by kernel_rfl) K s
theorem r0_eq (K : List Item) (s : St) : den prog ann 68 (.code r0 :: K) s = mreg prog ann 68 none [] none [] [
    ⟨some 3, none, .v fun s => frozenPtr (s.get 0)⟩,
    ⟨some 6, none, .v fun s => some (.nils)⟩,
    ⟨some 7, none, .v fun s => some (.int .i64 0)⟩] K s := (den_reg hf _ K s).trans (by kernel_rfl)
theorem r1_eq (K : List Item) (s : St) : den prog ann 68 (.code r1 :: K) s = mreg prog ann 68 none [] none [] [
    ⟨some 12, none, .v fun s => loadF true 2 (s.get 3)⟩,
    ⟨some 13, none, .c 0 (fun s => (.fn 61 [] [])) fun s => [(s.get 12)]⟩,
    ⟨some 11, none, .v fun s => some (s.get 13)⟩,
    ⟨some 14, none, .v fun s => extA (s.get 11) 0⟩,
    ⟨some 15, none, .v fun s => extA (s.get 11) 1⟩,
    ⟨some 8, none, .v fun s => some (s.get 14)⟩,
    ⟨some 9, none, .v fun s => some (s.get 15)⟩] K s := (den_reg hf _ K s).trans (by kernel_rfl)
theorem r2_eq (K : List Item) (s : St) : den prog ann 68 (.code r2 :: K) s = mreg prog ann 68 none [] none [] [
    ⟨some 16, none, .v fun s => some (s.get 9)⟩,
    ⟨some 17, none, .v fun s => unA .not (s.get 16)⟩] K s := (den_reg hf _ K s).trans (by kernel_rfl)
theorem i0_eq (K : List Item) (s : St) : den prog ann 68 (.code i0 :: K) s = ifV prog ann 68 17 i0t i0e K s (s.get 17) := den_if hf (by kernel_rfl) K s
theorem i0t_eq (K : List Item) (s : St) : den prog ann 68 (.code i0t :: K) s = den prog ann 68 (.code r3 :: .code .ret :: K) s := den_flat hf (l := [r3, .ret]) (by kernel_rfl) K s
theorem r3_eq (K : List Item) (s : St) : den prog ann 68 (.code r3 :: K) s = mreg prog ann 68 none [] none [] [
    ⟨some 6, none, .v fun s => some (.nils)⟩,
    ⟨some 7, none, .v fun s => some (.int .i64 1)⟩] K s := (den_reg hf _ K s).trans (by kernel_rfl)
theorem i0e_eq (K : List Item) (s : St) : den prog ann 68 (.code i0e :: K) s = den prog ann 68 (K) s := den_flat hf (l := []) (by kernel_rfl) K s
theorem r4_eq (K : List Item) (s : St) : den prog ann 68 (.code r4 :: K) s = mreg prog ann 68 none [] none [10] [
    ⟨some 19, none, .v fun s => some (s.get 8)⟩,
    ⟨some 20, none, .v fun s => some (s.get 1)⟩,
    ⟨some 21, none, .c 0 (fun s => (.fn 71 [] [])) fun s => [(s.get 19), (s.get 20)]⟩,
    ⟨some 18, none, .v fun s => some (s.get 21)⟩,
    ⟨some 22, none, .v fun s => extA (s.get 18) 0⟩,
    ⟨some 23, none, .v fun s => extA (s.get 18) 1⟩,
    ⟨some 10, none, .w false none fun s => newPtr s.m [.int .i64 0, .int .i64 0, .int .i64 0, .int .i64 0]⟩,
    ⟨none, none, .w false none fun s => stA true 4 s.m (s.get 10) (s.get 22)⟩,
    ⟨some 9, none, .v fun s => some (s.get 23)⟩] K s := (den_reg hf _ K s).trans (by kernel_rfl)
theorem r5_eq (K : List Item) (s : St) : den prog ann 68 (.code r5 :: K) s = mreg prog ann 68 none [] none [] [
    ⟨some 24, none, .v fun s => some (s.get 9)⟩,
    ⟨some 25, none, .v fun s => unA .not (s.get 24)⟩] K s := (den_reg hf _ K s).trans (by kernel_rfl)
theorem i1_eq (K : List Item) (s : St) : den prog ann 68 (.code i1 :: K) s = ifV prog ann 68 25 i1t i1e K s (s.get 25) := den_if hf (by kernel_rfl) K s
theorem i1t_eq (K : List Item) (s : St) : den prog ann 68 (.code i1t :: K) s = den prog ann 68 (.code r6 :: .code .ret :: K) s := den_flat hf (l := [r6, .ret]) (by kernel_rfl) K s
theorem r6_eq (K : List Item) (s : St) : den prog ann 68 (.code r6 :: K) s = mreg prog ann 68 none [] none [] [
    ⟨some 6, none, .v fun s => some (.nils)⟩,
    ⟨some 7, none, .v fun s => some (.int .i64 2)⟩] K s := (den_reg hf _ K s).trans (by kernel_rfl)
theorem i1e_eq (K : List Item) (s : St) : den prog ann 68 (.code i1e :: K) s = den prog ann 68 (K) s := den_flat hf (l := []) (by kernel_rfl) K s
theorem r7_eq (K : List Item) (s : St) : den prog ann 68 (.code r7 :: K) s = mreg prog ann 68 none [] none [] [
    ⟨some 26, none, .v fun s => some (s.get 8)⟩,
    ⟨some 27, none, .v fun s => some (s.get 2)⟩,
    ⟨some 28, none, .v fun s => some (s.get 8)⟩,
    ⟨some 29, none, .v fun s => loadF true 4 (s.get 10)⟩,
    ⟨some 30, none, .c 0 (fun s => (s.get 27)) fun s => [(s.get 28), (s.get 29)]⟩,
    ⟨some 31, none, .c 0 (fun s => (.fn 63 [] [])) fun s => [(s.get 26), (s.get 30)]⟩,
    ⟨some 6, none, .v fun s => some (s.get 31)⟩,
    ⟨some 7, none, .v fun s => some (.int .i64 0)⟩] K s := (den_reg hf _ K s).trans (by kernel_rfl)
theorem ret_eq (K : List Item) (s : St) : den prog ann 68 (.code .ret :: K) s = finM true [fun s => some (s.get 6), fun s => some (s.get 7)] s := (den_ret hf K s).trans (by kernel_rfl)
theorem nil_eq (s : St) : den prog ann 68 [] s = finM true [fun s => some (s.get 6), fun s => some (s.get 7)] s := (den_nil hf s).trans (by kernel_rfl)
theorem inBlock_eq (id : Nat) (K : List Item) (s : St) : den prog ann 68 (.inBlock id :: K) s = den prog ann 68 K s := den_inBlock hf id K s
theorem exit_eq (id : Nat) (K : List Item) (s : St) : den prog ann 68 (.code (.exit id) :: K) s = exitV prog ann 68 (exitTo id K) s := den_exitV hf id K s
theorem call_eq (v0 v1 v2 : AV) (m : Mem) (h : closedL [v0, v1, v2] = true) : denC prog ann 68 [v0, v1, v2] m = (den prog ann 68 [.code b] ⟨[(0, v0), (1, v1), (2, v2)], 32, Mem.empty⟩).bind fun r => some (r.1, m) := (denC_pure hf (b := b) (by kernel_rfl) (by kernel_rfl) (by kernel_rfl) h m).trans (by kernel_rfl)
theorem pure_eq : (ann 68).pure = true := by kernel_rfl
attribute [simp] b_eq r0_eq r1_eq r2_eq i0_eq i0t_eq r3_eq i0e_eq r4_eq r5_eq i1_eq i1t_eq r6_eq i1e_eq r7_eq ret_eq nil_eq inBlock_eq exit_eq pure_eq
end watch_moved
end Go.Proofs.Ytdkmepjedjclkaa

/-
  BODIES OF FUNCTIONS OF THE PROGRAM AS SMALL OPERATIONS (written by gen.py; checked by the kernel against the program). Conditions: none.
-/
namespace Go.Proofs.Ytdkmepjedjclkaa
open Go.AM
open Go.Proofs.Try (prog)
set_option maxRecDepth 100000
set_option linter.all false

namespace r09_First
/-- pommel/pommelref09.First -/
noncomputable def b : Code := (Try.f59.body).getD .skip
theorem hf : prog.funcs[59]? = some Try.f59 := by kernel_rfl
noncomputable def r0 : Code := findReg b 0
noncomputable def r1 : Code := findReg b 1
noncomputable def i0 : Code := findCond b 0
noncomputable def i0t : Code := thenOf i0
noncomputable def i0e : Code := elseOf i0
noncomputable def r2 : Code := findReg b 2
noncomputable def r3 : Code := findReg b 3
noncomputable def r4 : Code := findReg b 4
noncomputable def k0 : Code := findBlk b 0
noncomputable def l0 : Code := loopOf k0
noncomputable def L0 (x0 x3 x4 : AV) (m : Mem) (K : List Item) : Option Res := den prog ann 59 (.code l0 :: .inLoop l0 :: .inBlock 0 :: K) ⟨[(0, x0), (3, x3), (4, x4)], 24, m⟩
noncomputable def r5 : Code := findReg b 5
noncomputable def i1 : Code := findCond b 1
noncomputable def i1t : Code := thenOf i1
noncomputable def i1e : Code := elseOf i1
noncomputable def k1 : Code := findBlk b 1
noncomputable def r7 : Code := findReg b 7
noncomputable def r6 : Code := findReg b 6
noncomputable def r8 : Code := findReg b 8
theorem b_eq (K : List Item) (s : St) : den prog ann 59 (.code b :: K) s = den prog ann 59 (.code r0 :: .code r1 :: .code i0 :: .code r3 :: .code r4 :: .code k0 :: .code r8 :: .code .ret :: K) s := den_flat hf (l := [r0, r1, i0, r3, r4, k0, r8, .ret]) (by kernel_rfl) K s
theorem r0_eq (K : List Item) (s : St) : den prog ann 59 (.code r0 :: K) s = mreg prog ann 59 none [] none [] [
    ⟨some 2, none, .v fun s => some (.nils)⟩] K s := (den_reg hf _ K s).trans (by kernel_rfl)
theorem r1_eq (K : List Item) (s : St) : den prog ann 59 (.code r1 :: K) s = mreg prog ann 59 none [] none [] [
    ⟨some 5, none, .v fun s => some (s.get 0)⟩,
    ⟨some 6, none, .v fun s => lenSl (s.get 5)⟩,
    ⟨some 7, none, .v fun s => binA prog .eql 3 (s.get 6) (.int .i64 0)⟩] K s := (den_reg hf _ K s).trans (by kernel_rfl)
theorem i0_eq (K : List Item) (s : St) : den prog ann 59 (.code i0 :: K) s = ifV prog ann 59 7 i0t i0e K s (s.get 7) := den_if hf (by kernel_rfl) K s
theorem i0t_eq (K : List Item) (s : St) : den prog ann 59 (.code i0t :: K) s = den prog ann 59 (.code r2 :: .code .ret :: K) s := den_flat hf (l := [r2, .ret]) (by kernel_rfl) K s
theorem r2_eq (K : List Item) (s : St) : den prog ann 59 (.code r2 :: K) s = mreg prog ann 59 none [] none [] [
    ⟨some 2, none, .v fun s => some (.nils)⟩] K s := (den_reg hf _ K s).trans (by kernel_rfl)
theorem i0e_eq (K : List Item) (s : St) : den prog ann 59 (.code i0e :: K) s = den prog ann 59 (K) s := den_flat hf (l := []) (by kernel_rfl) K s
theorem r3_eq (K : List Item) (s : St) : den prog ann 59 (.code r3 :: K) s = mreg prog ann 59 none [] none [] [
    ⟨some 8, none, .v fun s => some (s.get 0)⟩,
    ⟨some 9, none, .v fun s => idxSl 1 (s.get 8) (.int .i64 0)⟩,
    ⟨some 10, none, .v fun s => loadF false 1 (s.get 9)⟩,
    ⟨some 3, none, .v fun s => some (s.get 10)⟩] K s := (den_reg hf _ K s).trans (by kernel_rfl)
theorem r4_eq (K : List Item) (s : St) : den prog ann 59 (.code r4 :: K) s = mreg prog ann 59 none [] none [] [
    ⟨some 4, none, .v fun s => some (.int .i64 1)⟩] K s := (den_reg hf _ K s).trans (by kernel_rfl)
theorem k0_eq (K : List Item) (t : List (Nat × AV)) (m : Mem) : den prog ann 59 (.code k0 :: K) ⟨t, 24, m⟩ = L0 (get t 0) (get t 3) (get t 4) m K := den_loop_enter hf (b := l0) (id := 5) (l := [0, 3, 4]) (by kernel_rfl) (by kernel_rfl) (by kernel_rfl) K _
theorem l0_eq (K : List Item) (t : List (Nat × AV)) (m : Mem) : den prog ann 59 (.inLoop l0 :: .inBlock 0 :: K) ⟨t, 24, m⟩ = L0 (get t 0) (get t 3) (get t 4) m K := den_loop_again hf (id := 5) (l := [0, 3, 4]) (by kernel_rfl) (by kernel_rfl) (.inBlock 0 :: K) _
theorem L0_eq (x0 x3 x4 : AV) (m : Mem) (K : List Item) : L0 x0 x3 x4 m K = den prog ann 59 (.code r5 :: .code i1 :: .code k1 :: .code r6 :: .inLoop l0 :: .inBlock 0 :: K) ⟨[(0, x0), (3, x3), (4, x4)], 24, m⟩ := den_flat hf (l := [r5, i1, k1, r6]) (by kernel_rfl) _ _
theorem r5_eq (K : List Item) (s : St) : den prog ann 59 (.code r5 :: K) s = mreg prog ann 59 (some [0, 3, 4]) [] none [] [
    ⟨some 11, none, .v fun s => some (s.get 4)⟩,
    ⟨some 12, none, .v fun s => some (s.get 0)⟩,
    ⟨some 13, none, .v fun s => lenSl (s.get 12)⟩,
    ⟨some 14, none, .v fun s => binA prog .lss 3 (s.get 11) (s.get 13)⟩] K s := (den_reg hf _ K s).trans (by kernel_rfl)
theorem i1_eq (K : List Item) (s : St) : den prog ann 59 (.code i1 :: K) s = ifV prog ann 59 14 i1t i1e K s (s.get 14) := den_if hf (by kernel_rfl) K s
theorem i1t_eq (K : List Item) (s : St) : den prog ann 59 (.code i1t :: K) s = den prog ann 59 (K) s := den_flat hf (l := []) (by kernel_rfl) K s
theorem i1e_eq (K : List Item) (s : St) : den prog ann 59 (.code i1e :: K) s = den prog ann 59 (.code (.exit 0) :: K) s := den_flat hf (l := [(.exit 0)]) (by kernel_rfl) K s
theorem k1_eq (K : List Item) (s : St) : den prog ann 59 (.code k1 :: K) s = den prog ann 59 (.code r7 :: .inBlock 1 :: K) s := den_blk hf (b := blkOf k1) (l := [r7]) (by kernel_rfl) (by kernel_rfl) K s
theorem r7_eq (K : List Item) (s : St) : den prog ann 59 (.code r7 :: K) s = mreg prog ann 59 none [] none [] [
    ⟨some 17, none, .v fun s => some (s.get 3)⟩,
    ⟨some 18, none, .v fun s => some (s.get 0)⟩,
    ⟨some 19, none, .v fun s => some (s.get 4)⟩,
    ⟨some 20, none, .v fun s => idxSl 1 (s.get 18) (s.get 19)⟩,
    ⟨some 21, none, .v fun s => loadF false 1 (s.get 20)⟩,
    ⟨some 22, none, .c 0 (fun s => (.fn 28 [] [])) fun s => [(s.get 17), (s.get 21)]⟩,
    ⟨some 3, none, .v fun s => some (s.get 22)⟩] K s := (den_reg hf _ K s).trans (by kernel_rfl)
theorem r6_eq (K : List Item) (s : St) : den prog ann 59 (.code r6 :: K) s = mreg prog ann 59 (some [0, 3, 4]) [] none [] [
    ⟨some 15, none, .v fun s => some (s.get 4)⟩,
    ⟨some 16, none, .v fun s => binA prog .add 3 (s.get 15) (.int .i64 1)⟩,
    ⟨some 4, none, .v fun s => some (s.get 16)⟩] K s := (den_reg hf _ K s).trans (by kernel_rfl)
theorem r8_eq (K : List Item) (s : St) : den prog ann 59 (.code r8 :: K) s = mreg prog ann 59 (some [3]) [] none [] [
    ⟨some 23, none, .v fun s => some (s.get 3)⟩,
    ⟨some 2, none, .v fun s => some (s.get 23)⟩] K s := (den_reg hf _ K s).trans (by kernel_rfl)
theorem ret_eq (K : List Item) (s : St) : den prog ann 59 (.code .ret :: K) s = finM true [fun s => some (s.get 2)] s := (den_ret hf K s).trans (by kernel_rfl)
theorem nil_eq (s : St) : den prog ann 59 [] s = finM true [fun s => some (s.get 2)] s := (den_nil hf s).trans (by kernel_rfl)
theorem inBlock_eq (id : Nat) (K : List Item) (s : St) : den prog ann 59 (.inBlock id :: K) s = den prog ann 59 K s := den_inBlock hf id K s
theorem exit_eq (id : Nat) (K : List Item) (s : St) : den prog ann 59 (.code (.exit id) :: K) s = exitV prog ann 59 (exitTo id K) s := den_exitV hf id K s
theorem call_eq (v0 : AV) (m : Mem) (h : closedL [v0] = true) : denC prog ann 59 [v0] m = (den prog ann 59 [.code b] ⟨[(0, v0)], 24, Mem.empty⟩).bind fun r => some (r.1, m) := (denC_pure hf (b := b) (by kernel_rfl) (by kernel_rfl) (by kernel_rfl) h m).trans (by kernel_rfl)
theorem pure_eq : (ann 59).pure = true := by kernel_rfl
attribute [simp] b_eq r0_eq r1_eq i0_eq i0t_eq r2_eq i0e_eq r3_eq r4_eq k0_eq l0_eq r5_eq i1_eq i1t_eq i1e_eq k1_eq r7_eq r6_eq r8_eq ret_eq nil_eq inBlock_eq exit_eq pure_eq
end r09_First

namespace r09_Last
/-- pommel/pommelref09.Last -/
noncomputable def b : Code := (Try.f60.body).getD .skip
theorem hf : prog.funcs[60]? = some Try.f60 := by kernel_rfl
noncomputable def r0 : Code := findReg b 0
noncomputable def r1 : Code := findReg b 1
noncomputable def i0 : Code := findCond b 0
noncomputable def i0t : Code := thenOf i0
noncomputable def i0e : Code := elseOf i0
noncomputable def r2 : Code := findReg b 2
noncomputable def r3 : Code := findReg b 3
noncomputable def r4 : Code := findReg b 4
noncomputable def k0 : Code := findBlk b 0
noncomputable def l0 : Code := loopOf k0
noncomputable def L0 (x0 x3 x4 : AV) (m : Mem) (K : List Item) : Option Res := den prog ann 60 (.code l0 :: .inLoop l0 :: .inBlock 0 :: K) ⟨[(0, x0), (3, x3), (4, x4)], 24, m⟩
noncomputable def r5 : Code := findReg b 5
noncomputable def i1 : Code := findCond b 1
noncomputable def i1t : Code := thenOf i1
noncomputable def i1e : Code := elseOf i1
noncomputable def k1 : Code := findBlk b 1
noncomputable def r7 : Code := findReg b 7
noncomputable def r6 : Code := findReg b 6
noncomputable def r8 : Code := findReg b 8
theorem b_eq (K : List Item) (s : St) : den prog ann 60 (.code b :: K) s = den prog ann 60 (.code r0 :: .code r1 :: .code i0 :: .code r3 :: .code r4 :: .code k0 :: .code r8 :: .code .ret :: K) s := den_flat hf (l := [r0, r1, i0, r3, r4, k0, r8, .ret]) (by kernel_rfl) K s
theorem r0_eq (K : List Item) (s : St) : den prog ann 60 (.code r0 :: K) s = mreg prog ann 60 none [] none [] [
    ⟨some 2, none, .v fun s => some (.nils)⟩] K s := (den_reg hf _ K s).trans (by kernel_rfl)
theorem r1_eq (K : List Item) (s : St) : den prog ann 60 (.code r1 :: K) s = mreg prog ann 60 none [] none [] [
    ⟨some 5, none, .v fun s => some (s.get 0)⟩,
    ⟨some 6, none, .v fun s => lenSl (s.get 5)⟩,
    ⟨some 7, none, .v fun s => binA prog .eql 3 (s.get 6) (.int .i64 0)⟩] K s := (den_reg hf _ K s).trans (by kernel_rfl)
theorem i0_eq (K : List Item) (s : St) : den prog ann 60 (.code i0 :: K) s = ifV prog ann 60 7 i0t i0e K s (s.get 7) := den_if hf (by kernel_rfl) K s
theorem i0t_eq (K : List Item) (s : St) : den prog ann 60 (.code i0t :: K) s = den prog ann 60 (.code r2 :: .code .ret :: K) s := den_flat hf (l := [r2, .ret]) (by kernel_rfl) K s
theorem r2_eq (K : List Item) (s : St) : den prog ann 60 (.code r2 :: K) s = mreg prog ann 60 none [] none [] [
    ⟨some 2, none, .v fun s => some (.nils)⟩] K s := (den_reg hf _ K s).trans (by kernel_rfl)
theorem i0e_eq (K : List Item) (s : St) : den prog ann 60 (.code i0e :: K) s = den prog ann 60 (K) s := den_flat hf (l := []) (by kernel_rfl) K s
theorem r3_eq (K : List Item) (s : St) : den prog ann 60 (.code r3 :: K) s = mreg prog ann 60 none [] none [] [
    ⟨some 8, none, .v fun s => some (s.get 0)⟩,
    ⟨some 9, none, .v fun s => idxSl 1 (s.get 8) (.int .i64 0)⟩,
    ⟨some 10, none, .v fun s => loadF false 1 (s.get 9)⟩,
    ⟨some 3, none, .v fun s => some (s.get 10)⟩] K s := (den_reg hf _ K s).trans (by kernel_rfl)
theorem r4_eq (K : List Item) (s : St) : den prog ann 60 (.code r4 :: K) s = mreg prog ann 60 none [] none [] [
    ⟨some 4, none, .v fun s => some (.int .i64 1)⟩] K s := (den_reg hf _ K s).trans (by kernel_rfl)
theorem k0_eq (K : List Item) (t : List (Nat × AV)) (m : Mem) : den prog ann 60 (.code k0 :: K) ⟨t, 24, m⟩ = L0 (get t 0) (get t 3) (get t 4) m K := den_loop_enter hf (b := l0) (id := 5) (l := [0, 3, 4]) (by kernel_rfl) (by kernel_rfl) (by kernel_rfl) K _
theorem l0_eq (K : List Item) (t : List (Nat × AV)) (m : Mem) : den prog ann 60 (.inLoop l0 :: .inBlock 0 :: K) ⟨t, 24, m⟩ = L0 (get t 0) (get t 3) (get t 4) m K := den_loop_again hf (id := 5) (l := [0, 3, 4]) (by kernel_rfl) (by kernel_rfl) (.inBlock 0 :: K) _
theorem L0_eq (x0 x3 x4 : AV) (m : Mem) (K : List Item) : L0 x0 x3 x4 m K = den prog ann 60 (.code r5 :: .code i1 :: .code k1 :: .code r6 :: .inLoop l0 :: .inBlock 0 :: K) ⟨[(0, x0), (3, x3), (4, x4)], 24, m⟩ := den_flat hf (l := [r5, i1, k1, r6]) (by kernel_rfl) _ _
theorem r5_eq (K : List Item) (s : St) : den prog ann 60 (.code r5 :: K) s = mreg prog ann 60 (some [0, 3, 4]) [] none [] [
    ⟨some 11, none, .v fun s => some (s.get 4)⟩,
    ⟨some 12, none, .v fun s => some (s.get 0)⟩,
    ⟨some 13, none, .v fun s => lenSl (s.get 12)⟩,
    ⟨some 14, none, .v fun s => binA prog .lss 3 (s.get 11) (s.get 13)⟩] K s := (den_reg hf _ K s).trans (by kernel_rfl)
theorem i1_eq (K : List Item) (s : St) : den prog ann 60 (.code i1 :: K) s = ifV prog ann 60 14 i1t i1e K s (s.get 14) := den_if hf (by kernel_rfl) K s
theorem i1t_eq (K : List Item) (s : St) : den prog ann 60 (.code i1t :: K) s = den prog ann 60 (K) s := den_flat hf (l := []) (by kernel_rfl) K s
theorem i1e_eq (K : List Item) (s : St) : den prog ann 60 (.code i1e :: K) s = den prog ann 60 (.code (.exit 0) :: K) s := den_flat hf (l := [(.exit 0)]) (by kernel_rfl) K s
theorem k1_eq (K : List Item) (s : St) : den prog ann 60 (.code k1 :: K) s = den prog ann 60 (.code r7 :: .inBlock 1 :: K) s := den_blk hf (b := blkOf k1) (l := [r7]) (by kernel_rfl) (by kernel_rfl) K s
theorem r7_eq (K : List Item) (s : St) : den prog ann 60 (.code r7 :: K) s = mreg prog ann 60 none [] none [] [
    ⟨some 17, none, .v fun s => some (s.get 3)⟩,
    ⟨some 18, none, .v fun s => some (s.get 0)⟩,
    ⟨some 19, none, .v fun s => some (s.get 4)⟩,
    ⟨some 20, none, .v fun s => idxSl 1 (s.get 18) (s.get 19)⟩,
    ⟨some 21, none, .v fun s => loadF false 1 (s.get 20)⟩,
    ⟨some 22, none, .c 0 (fun s => (.fn 29 [] [])) fun s => [(s.get 17), (s.get 21)]⟩,
    ⟨some 3, none, .v fun s => some (s.get 22)⟩] K s := (den_reg hf _ K s).trans (by kernel_rfl)
theorem r6_eq (K : List Item) (s : St) : den prog ann 60 (.code r6 :: K) s = mreg prog ann 60 (some [0, 3, 4]) [] none [] [
    ⟨some 15, none, .v fun s => some (s.get 4)⟩,
    ⟨some 16, none, .v fun s => binA prog .add 3 (s.get 15) (.int .i64 1)⟩,
    ⟨some 4, none, .v fun s => some (s.get 16)⟩] K s := (den_reg hf _ K s).trans (by kernel_rfl)
theorem r8_eq (K : List Item) (s : St) : den prog ann 60 (.code r8 :: K) s = mreg prog ann 60 (some [3]) [] none [] [
    ⟨some 23, none, .v fun s => some (s.get 3)⟩,
    ⟨some 2, none, .v fun s => some (s.get 23)⟩] K s := (den_reg hf _ K s).trans (by kernel_rfl)
theorem ret_eq (K : List Item) (s : St) : den prog ann 60 (.code .ret :: K) s = finM true [fun s => some (s.get 2)] s := (den_ret hf K s).trans (by kernel_rfl)
theorem nil_eq (s : St) : den prog ann 60 [] s = finM true [fun s => some (s.get 2)] s := (den_nil hf s).trans (by kernel_rfl)
theorem inBlock_eq (id : Nat) (K : List Item) (s : St) : den prog ann 60 (.inBlock id :: K) s = den prog ann 60 K s := den_inBlock hf id K s
theorem exit_eq (id : Nat) (K : List Item) (s : St) : den prog ann 60 (.code (.exit id) :: K) s = exitV prog ann 60 (exitTo id K) s := den_exitV hf id K s
theorem call_eq (v0 : AV) (m : Mem) (h : closedL [v0] = true) : denC prog ann 60 [v0] m = (den prog ann 60 [.code b] ⟨[(0, v0)], 24, Mem.empty⟩).bind fun r => some (r.1, m) := (denC_pure hf (b := b) (by kernel_rfl) (by kernel_rfl) (by kernel_rfl) h m).trans (by kernel_rfl)
theorem pure_eq : (ann 60).pure = true := by kernel_rfl
attribute [simp] b_eq r0_eq r1_eq i0_eq i0t_eq r2_eq i0e_eq r3_eq r4_eq k0_eq l0_eq r5_eq i1_eq i1t_eq i1e_eq k1_eq r7_eq r6_eq r8_eq ret_eq nil_eq inBlock_eq exit_eq pure_eq
end r09_Last

namespace r09_Back
/-- pommel/pommelref09.Back -/
noncomputable def b : Code := (Try.f46.body).getD .skip
theorem hf : prog.funcs[46]? = some Try.f46 := by kernel_rfl
noncomputable def r0 : Code := findReg b 0
noncomputable def r1 : Code := findReg b 1
noncomputable def r2 : Code := findReg b 2
noncomputable def k0 : Code := findBlk b 0
noncomputable def l0 : Code := loopOf k0
noncomputable def L0 (x1 x5 x6 x7 : AV) (m : Mem) (K : List Item) : Option Res := den prog ann 46 (.code l0 :: .inLoop l0 :: .inBlock 0 :: K) ⟨[(1, x1), (5, x5), (6, x6), (7, x7)], 32, m⟩
noncomputable def r3 : Code := findReg b 3
noncomputable def i0 : Code := findCond b 0
noncomputable def i0t : Code := thenOf i0
noncomputable def i0e : Code := elseOf i0
noncomputable def k1 : Code := findBlk b 1
noncomputable def r5 : Code := findReg b 5
noncomputable def i1 : Code := findCond b 1
noncomputable def i1t : Code := thenOf i1
noncomputable def i1e : Code := elseOf i1
noncomputable def r6 : Code := findReg b 6
noncomputable def r4 : Code := findReg b 4
noncomputable def r7 : Code := findReg b 7
theorem b_eq (K : List Item) (s : St) : den prog ann 46 (.code b :: K) s = den prog ann 46 (.code r0 :: .code r1 :: .code r2 :: .code k0 :: .code r7 :: .code .ret :: K) s := den_flat hf (l := [r0, r1, r2, k0, r7, .ret]) (by kernel_rfl) K s
theorem r0_eq (K : List Item) (s : St) : den prog ann 46 (.code r0 :: K) s = mreg prog ann 46 none [] none [] [
    ⟨some 2, none, .v fun s => frozenPtr (s.get 0)⟩,
    ⟨some 4, none, .v fun s => some (.nils)⟩] K s := (den_reg hf _ K s).trans (by kernel_rfl)
theorem r1_eq (K : List Item) (s : St) : den prog ann 46 (.code r1 :: K) s = mreg prog ann 46 none [] none [] [
    ⟨some 8, none, .v fun s => loadF true 2 (s.get 2)⟩,
    ⟨some 9, none, .c 0 (fun s => (.fn 20 [] [])) fun s => [(s.get 8)]⟩,
    ⟨some 10, none, .w false none fun s => bslM s.m 0 (bslA 1 0 [.nils] [])⟩,
    ⟨some 5, none, .v fun s => some (s.get 9)⟩,
    ⟨some 6, none, .v fun s => some (s.get 10)⟩] K s := (den_reg hf _ K s).trans (by kernel_rfl)
theorem r2_eq (K : List Item) (s : St) : den prog ann 46 (.code r2 :: K) s = mreg prog ann 46 none [] none [] [
    ⟨some 7, none, .v fun s => some (.int .i64 0)⟩] K s := (den_reg hf _ K s).trans (by kernel_rfl)
theorem k0_eq (K : List Item) (t : List (Nat × AV)) (m : Mem) : den prog ann 46 (.code k0 :: K) ⟨t, 32, m⟩ = L0 (get t 1) (get t 5) (get t 6) (get t 7) m K := den_loop_enter hf (b := l0) (id := 3) (l := [1, 5, 6, 7]) (by kernel_rfl) (by kernel_rfl) (by kernel_rfl) K _
theorem l0_eq (K : List Item) (t : List (Nat × AV)) (m : Mem) : den prog ann 46 (.inLoop l0 :: .inBlock 0 :: K) ⟨t, 32, m⟩ = L0 (get t 1) (get t 5) (get t 6) (get t 7) m K := den_loop_again hf (id := 3) (l := [1, 5, 6, 7]) (by kernel_rfl) (by kernel_rfl) (.inBlock 0 :: K) _
theorem L0_eq (x1 x5 x6 x7 : AV) (m : Mem) (K : List Item) : L0 x1 x5 x6 x7 m K = den prog ann 46 (.code r3 :: .code i0 :: .code k1 :: .code r4 :: .inLoop l0 :: .inBlock 0 :: K) ⟨[(1, x1), (5, x5), (6, x6), (7, x7)], 32, m⟩ := den_flat hf (l := [r3, i0, k1, r4]) (by kernel_rfl) _ _
theorem r3_eq (K : List Item) (s : St) : den prog ann 46 (.code r3 :: K) s = mreg prog ann 46 (some [1, 5, 6, 7]) [] none [] [
    ⟨some 11, none, .v fun s => some (s.get 7)⟩,
    ⟨some 12, none, .v fun s => some (s.get 5)⟩,
    ⟨some 13, none, .v fun s => lenSl (s.get 12)⟩,
    ⟨some 14, none, .v fun s => binA prog .lss 3 (s.get 11) (s.get 13)⟩] K s := (den_reg hf _ K s).trans (by kernel_rfl)
theorem i0_eq (K : List Item) (s : St) : den prog ann 46 (.code i0 :: K) s = ifV prog ann 46 14 i0t i0e K s (s.get 14) := den_if hf (by kernel_rfl) K s
theorem i0t_eq (K : List Item) (s : St) : den prog ann 46 (.code i0t :: K) s = den prog ann 46 (K) s := den_flat hf (l := []) (by kernel_rfl) K s
theorem i0e_eq (K : List Item) (s : St) : den prog ann 46 (.code i0e :: K) s = den prog ann 46 (.code (.exit 0) :: K) s := den_flat hf (l := [(.exit 0)]) (by kernel_rfl) K s
theorem k1_eq (K : List Item) (s : St) : den prog ann 46 (.code k1 :: K) s = den prog ann 46 (.code r5 :: .code i1 :: .inBlock 1 :: K) s := den_blk hf (b := blkOf k1) (l := [r5, i1]) (by kernel_rfl) (by kernel_rfl) K s
theorem r5_eq (K : List Item) (s : St) : den prog ann 46 (.code r5 :: K) s = mreg prog ann 46 none [] none [] [
    ⟨some 17, none, .v fun s => some (s.get 5)⟩,
    ⟨some 18, none, .v fun s => some (s.get 7)⟩,
    ⟨some 19, none, .v fun s => idxSl 1 (s.get 17) (s.get 18)⟩,
    ⟨some 20, none, .v fun s => loadF false 1 (s.get 19)⟩,
    ⟨some 21, none, .v fun s => some (s.get 1)⟩,
    ⟨some 22, none, .c 0 (fun s => (.fn 31 [] [])) fun s => [(s.get 20), (s.get 21)]⟩] K s := (den_reg hf _ K s).trans (by kernel_rfl)
theorem i1_eq (K : List Item) (s : St) : den prog ann 46 (.code i1 :: K) s = ifV prog ann 46 22 i1t i1e K s (s.get 22) := den_if hf (by kernel_rfl) K s
theorem i1t_eq (K : List Item) (s : St) : den prog ann 46 (.code i1t :: K) s = den prog ann 46 (.code r6 :: K) s := den_flat hf (l := [r6]) (by kernel_rfl) K s
theorem r6_eq (K : List Item) (s : St) : den prog ann 46 (.code r6 :: K) s = mreg prog ann 46 none [] none [] [
    ⟨some 23, none, .v fun s => some (s.get 6)⟩,
    ⟨some 24, none, .v fun s => some (s.get 5)⟩,
    ⟨some 25, none, .v fun s => some (s.get 7)⟩,
    ⟨some 26, none, .v fun s => idxSl 1 (s.get 24) (s.get 25)⟩,
    ⟨some 27, none, .v fun s => loadF false 1 (s.get 26)⟩,
    ⟨some 28, none, .v fun s => bslF 1 (bslA 1 1 [.nils] [(0, (s.get 27))])⟩,
    ⟨some 29, none, .w false none fun s => appendA 1 24 s.m (s.get 23) (s.get 28)⟩,
    ⟨some 6, none, .v fun s => some (s.get 29)⟩] K s := (den_reg hf _ K s).trans (by kernel_rfl)
theorem i1e_eq (K : List Item) (s : St) : den prog ann 46 (.code i1e :: K) s = den prog ann 46 (K) s := den_flat hf (l := []) (by kernel_rfl) K s
theorem r4_eq (K : List Item) (s : St) : den prog ann 46 (.code r4 :: K) s = mreg prog ann 46 (some [1, 5, 6, 7]) [] none [] [
    ⟨some 15, none, .v fun s => some (s.get 7)⟩,
    ⟨some 16, none, .v fun s => binA prog .add 3 (s.get 15) (.int .i64 1)⟩,
    ⟨some 7, none, .v fun s => some (s.get 16)⟩] K s := (den_reg hf _ K s).trans (by kernel_rfl)
theorem r7_eq (K : List Item) (s : St) : den prog ann 46 (.code r7 :: K) s = mreg prog ann 46 (some [6]) [] none [] [
    ⟨some 30, none, .v fun s => some (s.get 6)⟩,
    ⟨some 31, none, .c 2 (fun s => (.fn 60 [] [])) fun s => [(s.get 30)]⟩,
    ⟨some 4, none, .v fun s => some (s.get 31)⟩] K s := (den_reg hf _ K s).trans (by kernel_rfl)
theorem ret_eq (K : List Item) (s : St) : den prog ann 46 (.code .ret :: K) s = finM true [fun s => some (s.get 4)] s := (den_ret hf K s).trans (by kernel_rfl)
theorem nil_eq (s : St) : den prog ann 46 [] s = finM true [fun s => some (s.get 4)] s := (den_nil hf s).trans (by kernel_rfl)
theorem inBlock_eq (id : Nat) (K : List Item) (s : St) : den prog ann 46 (.inBlock id :: K) s = den prog ann 46 K s := den_inBlock hf id K s
theorem exit_eq (id : Nat) (K : List Item) (s : St) : den prog ann 46 (.code (.exit id) :: K) s = exitV prog ann 46 (exitTo id K) s := den_exitV hf id K s
theorem call_eq (v0 v1 : AV) (m : Mem) (h : closedL [v0, v1] = true) : denC prog ann 46 [v0, v1] m = (den prog ann 46 [.code b] ⟨[(0, v0), (1, v1)], 32, Mem.empty⟩).bind fun r => some (r.1, m) := (denC_pure hf (b := b) (by kernel_rfl) (by kernel_rfl) (by kernel_rfl) h m).trans (by kernel_rfl)
theorem pure_eq : (ann 46).pure = true := by kernel_rfl
attribute [simp] b_eq r0_eq r1_eq r2_eq k0_eq l0_eq r3_eq i0_eq i0t_eq i0e_eq k1_eq r5_eq i1_eq i1t_eq r6_eq i1e_eq r4_eq r7_eq ret_eq nil_eq inBlock_eq exit_eq pure_eq
end r09_Back

namespace r09_Forth
/-- pommel/pommelref09.Forth -/
noncomputable def b : Code := (Try.f47.body).getD .skip
theorem hf : prog.funcs[47]? = some Try.f47 := by kernel_rfl
noncomputable def r0 : Code := findReg b 0
noncomputable def r1 : Code := findReg b 1
noncomputable def r2 : Code := findReg b 2
noncomputable def k0 : Code := findBlk b 0
noncomputable def l0 : Code := loopOf k0
noncomputable def L0 (x1 x5 x6 x7 : AV) (m : Mem) (K : List Item) : Option Res := den prog ann 47 (.code l0 :: .inLoop l0 :: .inBlock 0 :: K) ⟨[(1, x1), (5, x5), (6, x6), (7, x7)], 32, m⟩
noncomputable def r3 : Code := findReg b 3
noncomputable def i0 : Code := findCond b 0
noncomputable def i0t : Code := thenOf i0
noncomputable def i0e : Code := elseOf i0
noncomputable def k1 : Code := findBlk b 1
noncomputable def r5 : Code := findReg b 5
noncomputable def i1 : Code := findCond b 1
noncomputable def i1t : Code := thenOf i1
noncomputable def i1e : Code := elseOf i1
noncomputable def r6 : Code := findReg b 6
noncomputable def r4 : Code := findReg b 4
noncomputable def r7 : Code := findReg b 7
theorem b_eq (K : List Item) (s : St) : den prog ann 47 (.code b :: K) s = den prog ann 47 (.code r0 :: .code r1 :: .code r2 :: .code k0 :: .code r7 :: .code .ret :: K) s := den_flat hf (l := [r0, r1, r2, k0, r7, .ret]) (by kernel_rfl) K s
theorem r0_eq (K : List Item) (s : St) : den prog ann 47 (.code r0 :: K) s = mreg prog ann 47 none [] none [] [
    ⟨some 2, none, .v fun s => frozenPtr (s.get 0)⟩,
    ⟨some 4, none, .v fun s => some (.nils)⟩] K s := (den_reg hf _ K s).trans (by kernel_rfl)
theorem r1_eq (K : List Item) (s : St) : den prog ann 47 (.code r1 :: K) s = mreg prog ann 47 none [] none [] [
    ⟨some 8, none, .v fun s => loadF true 2 (s.get 2)⟩,
    ⟨some 9, none, .c 0 (fun s => (.fn 20 [] [])) fun s => [(s.get 8)]⟩,
    ⟨some 10, none, .w false none fun s => bslM s.m 0 (bslA 1 0 [.nils] [])⟩,
    ⟨some 5, none, .v fun s => some (s.get 9)⟩,
    ⟨some 6, none, .v fun s => some (s.get 10)⟩] K s := (den_reg hf _ K s).trans (by kernel_rfl)
theorem r2_eq (K : List Item) (s : St) : den prog ann 47 (.code r2 :: K) s = mreg prog ann 47 none [] none [] [
    ⟨some 7, none, .v fun s => some (.int .i64 0)⟩] K s := (den_reg hf _ K s).trans (by kernel_rfl)
theorem k0_eq (K : List Item) (t : List (Nat × AV)) (m : Mem) : den prog ann 47 (.code k0 :: K) ⟨t, 32, m⟩ = L0 (get t 1) (get t 5) (get t 6) (get t 7) m K := den_loop_enter hf (b := l0) (id := 3) (l := [1, 5, 6, 7]) (by kernel_rfl) (by kernel_rfl) (by kernel_rfl) K _
theorem l0_eq (K : List Item) (t : List (Nat × AV)) (m : Mem) : den prog ann 47 (.inLoop l0 :: .inBlock 0 :: K) ⟨t, 32, m⟩ = L0 (get t 1) (get t 5) (get t 6) (get t 7) m K := den_loop_again hf (id := 3) (l := [1, 5, 6, 7]) (by kernel_rfl) (by kernel_rfl) (.inBlock 0 :: K) _
theorem L0_eq (x1 x5 x6 x7 : AV) (m : Mem) (K : List Item) : L0 x1 x5 x6 x7 m K = den prog ann 47 (.code r3 :: .code i0 :: .code k1 :: .code r4 :: .inLoop l0 :: .inBlock 0 :: K) ⟨[(1, x1), (5, x5), (6, x6), (7, x7)], 32, m⟩ := den_flat hf (l := [r3, i0, k1, r4]) (by kernel_rfl) _ _
theorem r3_eq (K : List Item) (s : St) : den prog ann 47 (.code r3 :: K) s = mreg prog ann 47 (some [1, 5, 6, 7]) [] none [] [
    ⟨some 11, none, .v fun s => some (s.get 7)⟩,
    ⟨some 12, none, .v fun s => some (s.get 5)⟩,
    ⟨some 13, none, .v fun s => lenSl (s.get 12)⟩,
    ⟨some 14, none, .v fun s => binA prog .lss 3 (s.get 11) (s.get 13)⟩] K s := (den_reg hf _ K s).trans (by kernel_rfl)
theorem i0_eq (K : List Item) (s : St) : den prog ann 47 (.code i0 :: K) s = ifV prog ann 47 14 i0t i0e K s (s.get 14) := den_if hf (by kernel_rfl) K s
theorem i0t_eq (K : List Item) (s : St) : den prog ann 47 (.code i0t :: K) s = den prog ann 47 (K) s := den_flat hf (l := []) (by kernel_rfl) K s
theorem i0e_eq (K : List Item) (s : St) : den prog ann 47 (.code i0e :: K) s = den prog ann 47 (.code (.exit 0) :: K) s := den_flat hf (l := [(.exit 0)]) (by kernel_rfl) K s
theorem k1_eq (K : List Item) (s : St) : den prog ann 47 (.code k1 :: K) s = den prog ann 47 (.code r5 :: .code i1 :: .inBlock 1 :: K) s := den_blk hf (b := blkOf k1) (l := [r5, i1]) (by kernel_rfl) (by kernel_rfl) K s
theorem r5_eq (K : List Item) (s : St) : den prog ann 47 (.code r5 :: K) s = mreg prog ann 47 none [] none [] [
    ⟨some 17, none, .v fun s => some (s.get 1)⟩,
    ⟨some 18, none, .v fun s => some (s.get 5)⟩,
    ⟨some 19, none, .v fun s => some (s.get 7)⟩,
    ⟨some 20, none, .v fun s => idxSl 1 (s.get 18) (s.get 19)⟩,
    ⟨some 21, none, .v fun s => loadF false 1 (s.get 20)⟩,
    ⟨some 22, none, .c 0 (fun s => (.fn 31 [] [])) fun s => [(s.get 17), (s.get 21)]⟩] K s := (den_reg hf _ K s).trans (by kernel_rfl)
theorem i1_eq (K : List Item) (s : St) : den prog ann 47 (.code i1 :: K) s = ifV prog ann 47 22 i1t i1e K s (s.get 22) := den_if hf (by kernel_rfl) K s
theorem i1t_eq (K : List Item) (s : St) : den prog ann 47 (.code i1t :: K) s = den prog ann 47 (.code r6 :: K) s := den_flat hf (l := [r6]) (by kernel_rfl) K s
theorem r6_eq (K : List Item) (s : St) : den prog ann 47 (.code r6 :: K) s = mreg prog ann 47 none [] none [] [
    ⟨some 23, none, .v fun s => some (s.get 6)⟩,
    ⟨some 24, none, .v fun s => some (s.get 5)⟩,
    ⟨some 25, none, .v fun s => some (s.get 7)⟩,
    ⟨some 26, none, .v fun s => idxSl 1 (s.get 24) (s.get 25)⟩,
    ⟨some 27, none, .v fun s => loadF false 1 (s.get 26)⟩,
    ⟨some 28, none, .v fun s => bslF 1 (bslA 1 1 [.nils] [(0, (s.get 27))])⟩,
    ⟨some 29, none, .w false none fun s => appendA 1 24 s.m (s.get 23) (s.get 28)⟩,
    ⟨some 6, none, .v fun s => some (s.get 29)⟩] K s := (den_reg hf _ K s).trans (by kernel_rfl)
theorem i1e_eq (K : List Item) (s : St) : den prog ann 47 (.code i1e :: K) s = den prog ann 47 (K) s := den_flat hf (l := []) (by kernel_rfl) K s
theorem r4_eq (K : List Item) (s : St) : den prog ann 47 (.code r4 :: K) s = mreg prog ann 47 (some [1, 5, 6, 7]) [] none [] [
    ⟨some 15, none, .v fun s => some (s.get 7)⟩,
    ⟨some 16, none, .v fun s => binA prog .add 3 (s.get 15) (.int .i64 1)⟩,
    ⟨some 7, none, .v fun s => some (s.get 16)⟩] K s := (den_reg hf _ K s).trans (by kernel_rfl)
theorem r7_eq (K : List Item) (s : St) : den prog ann 47 (.code r7 :: K) s = mreg prog ann 47 (some [6]) [] none [] [
    ⟨some 30, none, .v fun s => some (s.get 6)⟩,
    ⟨some 31, none, .c 2 (fun s => (.fn 59 [] [])) fun s => [(s.get 30)]⟩,
    ⟨some 4, none, .v fun s => some (s.get 31)⟩] K s := (den_reg hf _ K s).trans (by kernel_rfl)
theorem ret_eq (K : List Item) (s : St) : den prog ann 47 (.code .ret :: K) s = finM true [fun s => some (s.get 4)] s := (den_ret hf K s).trans (by kernel_rfl)
theorem nil_eq (s : St) : den prog ann 47 [] s = finM true [fun s => some (s.get 4)] s := (den_nil hf s).trans (by kernel_rfl)
theorem inBlock_eq (id : Nat) (K : List Item) (s : St) : den prog ann 47 (.inBlock id :: K) s = den prog ann 47 K s := den_inBlock hf id K s
theorem exit_eq (id : Nat) (K : List Item) (s : St) : den prog ann 47 (.code (.exit id) :: K) s = exitV prog ann 47 (exitTo id K) s := den_exitV hf id K s
theorem call_eq (v0 v1 : AV) (m : Mem) (h : closedL [v0, v1] = true) : denC prog ann 47 [v0, v1] m = (den prog ann 47 [.code b] ⟨[(0, v0), (1, v1)], 32, Mem.empty⟩).bind fun r => some (r.1, m) := (denC_pure hf (b := b) (by kernel_rfl) (by kernel_rfl) (by kernel_rfl) h m).trans (by kernel_rfl)
theorem pure_eq : (ann 47).pure = true := by kernel_rfl
attribute [simp] b_eq r0_eq r1_eq r2_eq k0_eq l0_eq r3_eq i0_eq i0t_eq i0e_eq k1_eq r5_eq i1_eq i1t_eq r6_eq i1e_eq r4_eq r7_eq ret_eq nil_eq inBlock_eq exit_eq pure_eq
end r09_Forth

namespace l09_WatchCuts
/-- pommel/pommellaw09.WatchCuts -/
noncomputable def b : Code := (Try.f10.body).getD .skip
theorem hf : prog.funcs[10]? = some Try.f10 := by kernel_rfl
noncomputable def r0 : Code := findReg b 0
noncomputable def r1 : Code := findReg b 1
noncomputable def r2 : Code := findReg b 2
noncomputable def r3 : Code := findReg b 3
noncomputable def r4 : Code := findReg b 4
noncomputable def r5 : Code := findReg b 5
noncomputable def r6 : Code := findReg b 6
noncomputable def r7 : Code := findReg b 7
noncomputable def i0 : Code := findCond b 0
noncomputable def i0t : Code := thenOf i0
noncomputable def i0e : Code := elseOf i0
noncomputable def r8 : Code := findReg b 8
noncomputable def r9 : Code := findReg b 9
noncomputable def i1 : Code := findCond b 1
noncomputable def i1t : Code := thenOf i1
noncomputable def i1e : Code := elseOf i1
noncomputable def r10 : Code := findReg b 10
noncomputable def r11 : Code := findReg b 11
noncomputable def i2 : Code := findCond b 2
noncomputable def i2t : Code := thenOf i2
noncomputable def i2e : Code := elseOf i2
noncomputable def r12 : Code := findReg b 12
noncomputable def r13 : Code := findReg b 13
noncomputable def r14 : Code := findReg b 14
noncomputable def k0 : Code := findBlk b 0
noncomputable def l0 : Code := loopOf k0
noncomputable def L0 (x5 x6 x7 x8 x9 x10 x11 x12 x13 x14 x16 x17 x18 : AV) (m : Mem) (K : List Item) : Option Res := den prog ann 10 (.code l0 :: .inLoop l0 :: .inBlock 0 :: K) ⟨[(5, x5), (6, x6), (7, x7), (8, x8), (9, x9), (10, x10), (11, x11), (12, x12), (13, x13), (14, x14), (16, x16), (17, x17), (18, x18)], 160, m⟩
noncomputable def r15 : Code := findReg b 15
noncomputable def i3 : Code := findCond b 3
noncomputable def i3t : Code := thenOf i3
noncomputable def i3e : Code := elseOf i3
noncomputable def k1 : Code := findBlk b 1
noncomputable def r17 : Code := findReg b 17
noncomputable def r18 : Code := findReg b 18
noncomputable def i4 : Code := findCond b 4
noncomputable def i4t : Code := thenOf i4
noncomputable def i4e : Code := elseOf i4
noncomputable def r16 : Code := findReg b 16
noncomputable def r19 : Code := findReg b 19
noncomputable def i5 : Code := findCond b 5
noncomputable def i5t : Code := thenOf i5
noncomputable def i5e : Code := elseOf i5
noncomputable def r20 : Code := findReg b 20
noncomputable def r21 : Code := findReg b 21
theorem b_eq (K : List Item) (s : St) : den prog ann 10 (.code b :: K) s = den prog ann 10 (.code r0 :: .code r1 :: .code r2 :: .code r3 :: .code r4 :: .code r5 :: .code r6 :: .code r7 :: .code i0 :: .code r11 :: .code i2 :: .code r13 :: .code r14 :: .code k0 :: .code r19 :: .code i5 :: .code r21 :: .code .ret :: K) s := den_flat hf (l := [r0, r1, r2, r3, r4, r5, r6, r7, i0, r11, i2, r13, r14, k0, r19, i5, r21, .ret]) (by kernel_rfl) K s
theorem r0_eq (K : List Item) (s : St) : den prog ann 10 (.code r0 :: K) s = mreg prog ann 10 none [] none [] [
    ⟨some 2, none, .v fun s => frozenPtr (s.get 0)⟩,
    ⟨some 4, none, .v fun s => some (.bool false)⟩] K s := (den_reg hf _ K s).trans (by kernel_rfl)
theorem r1_eq (K : List Item) (s : St) : den prog ann 10 (.code r1 :: K) s = mreg prog ann 10 none [] none [5] [
    ⟨some 19, none, .v fun s => loadF true 2 (s.get 2)⟩,
    ⟨some 20, none, .c 0 (fun s => (.fn 17 [] [])) fun s => [(s.get 19)]⟩,
    ⟨some 21, none, .v fun s => some (s.get 1)⟩,
    ⟨some 22, none, .c 0 (fun s => (.fn 44 [] [])) fun s => [(s.get 21)]⟩,
    ⟨some 5, none, .w false none fun s => newPtr s.m [.nils, .nils]⟩,
    ⟨none, none, .w false none fun s => stA true 2 s.m (s.get 5) (s.get 20)⟩,
    ⟨some 6, none, .v fun s => some (s.get 22)⟩] K s := (den_reg hf _ K s).trans (by kernel_rfl)
theorem r2_eq (K : List Item) (s : St) : den prog ann 10 (.code r2 :: K) s = mreg prog ann 10 none [] none [] [
    ⟨some 24, none, .v fun s => loadF true 2 (s.get 5)⟩,
    ⟨some 25, none, .v fun s => some (s.get 6)⟩,
    ⟨some 26, none, .c 0 (fun s => (.fn 30 [] [])) fun s => [(s.get 24), (s.get 25)]⟩,
    ⟨some 23, none, .v fun s => some (s.get 26)⟩,
    ⟨some 27, none, .v fun s => extA (s.get 23) 0⟩,
    ⟨some 28, none, .v fun s => extA (s.get 23) 1⟩,
    ⟨some 7, none, .v fun s => some (s.get 27)⟩,
    ⟨some 8, none, .v fun s => some (s.get 28)⟩] K s := (den_reg hf _ K s).trans (by kernel_rfl)
theorem r3_eq (K : List Item) (s : St) : den prog ann 10 (.code r3 :: K) s = mreg prog ann 10 none [] none [] [
    ⟨some 30, none, .v fun s => loadF true 2 (s.get 5)⟩,
    ⟨some 31, none, .v fun s => some (s.get 6)⟩,
    ⟨some 32, none, .c 0 (fun s => (.fn 45 [] [])) fun s => [(s.get 30), (s.get 31)]⟩,
    ⟨some 29, none, .v fun s => some (s.get 32)⟩,
    ⟨some 33, none, .v fun s => extA (s.get 29) 0⟩,
    ⟨some 34, none, .v fun s => extA (s.get 29) 1⟩,
    ⟨some 9, none, .v fun s => some (s.get 33)⟩,
    ⟨some 10, none, .v fun s => some (s.get 34)⟩] K s := (den_reg hf _ K s).trans (by kernel_rfl)
theorem r4_eq (K : List Item) (s : St) : den prog ann 10 (.code r4 :: K) s = mreg prog ann 10 none [] none [] [
    ⟨some 36, none, .v fun s => loadF true 2 (s.get 5)⟩,
    ⟨some 37, none, .v fun s => some (s.get 6)⟩,
    ⟨some 38, none, .c 2 (fun s => (.fn 24 [] [])) fun s => [(s.get 36), (s.get 37)]⟩,
    ⟨some 35, none, .v fun s => some (s.get 38)⟩,
    ⟨some 39, none, .v fun s => extA (s.get 35) 0⟩,
    ⟨some 40, none, .v fun s => extA (s.get 35) 1⟩,
    ⟨some 11, none, .v fun s => some (s.get 39)⟩,
    ⟨some 12, none, .v fun s => some (s.get 40)⟩] K s := (den_reg hf _ K s).trans (by kernel_rfl)
theorem r5_eq (K : List Item) (s : St) : den prog ann 10 (.code r5 :: K) s = mreg prog ann 10 none [] none [] [
    ⟨some 42, none, .v fun s => loadF true 2 (s.get 5)⟩,
    ⟨some 43, none, .v fun s => some (s.get 6)⟩,
    ⟨some 44, none, .c 2 (fun s => (.fn 26 [] [])) fun s => [(s.get 42), (s.get 43)]⟩,
    ⟨some 41, none, .v fun s => some (s.get 44)⟩,
    ⟨some 45, none, .v fun s => extA (s.get 41) 0⟩,
    ⟨some 46, none, .v fun s => extA (s.get 41) 1⟩,
    ⟨some 13, none, .v fun s => some (s.get 45)⟩,
    ⟨some 14, none, .v fun s => some (s.get 46)⟩] K s := (den_reg hf _ K s).trans (by kernel_rfl)
theorem r6_eq (K : List Item) (s : St) : den prog ann 10 (.code r6 :: K) s = mreg prog ann 10 none [] none [] [
    ⟨some 15, none, .v fun s => some (.int .i64 0)⟩] K s := (den_reg hf _ K s).trans (by kernel_rfl)
theorem r7_eq (K : List Item) (s : St) : den prog ann 10 (.code r7 :: K) s = mreg prog ann 10 none [] none [] [
    ⟨some 47, none, .v fun s => loadF true 2 (s.get 5)⟩,
    ⟨some 48, none, .c 0 (fun s => (.fn 19 [] [])) fun s => [(s.get 47)]⟩,
    ⟨some 49, none, .v fun s => unA .not (s.get 48)⟩] K s := (den_reg hf _ K s).trans (by kernel_rfl)
theorem i0_eq (K : List Item) (s : St) : den prog ann 10 (.code i0 :: K) s = ifV prog ann 10 49 i0t i0e K s (s.get 49) := den_if hf (by kernel_rfl) K s
theorem i0t_eq (K : List Item) (s : St) : den prog ann 10 (.code i0t :: K) s = den prog ann 10 (.code r8 :: K) s := den_flat hf (l := [r8]) (by kernel_rfl) K s
theorem r8_eq (K : List Item) (s : St) : den prog ann 10 (.code r8 :: K) s = mreg prog ann 10 none [] none [] [
    ⟨some 15, none, .v fun s => some (.int .i64 1)⟩] K s := (den_reg hf _ K s).trans (by kernel_rfl)
theorem i0e_eq (K : List Item) (s : St) : den prog ann 10 (.code i0e :: K) s = den prog ann 10 (.code r9 :: .code i1 :: K) s := den_flat hf (l := [r9, i1]) (by kernel_rfl) K s
theorem r9_eq (K : List Item) (s : St) : den prog ann 10 (.code r9 :: K) s = mreg prog ann 10 none [] none [] [
    ⟨some 50, none, .v fun s => loadF true 2 (s.get 5)⟩,
    ⟨some 51, none, .v fun s => some (s.get 6)⟩,
    ⟨some 52, none, .c 0 (fun s => (.fn 27 [] [])) fun s => [(s.get 50), (s.get 51)]⟩,
    ⟨some 53, none, .v fun s => unA .not (s.get 52)⟩] K s := (den_reg hf _ K s).trans (by kernel_rfl)
theorem i1_eq (K : List Item) (s : St) : den prog ann 10 (.code i1 :: K) s = ifV prog ann 10 53 i1t i1e K s (s.get 53) := den_if hf (by kernel_rfl) K s
theorem i1t_eq (K : List Item) (s : St) : den prog ann 10 (.code i1t :: K) s = den prog ann 10 (.code r10 :: K) s := den_flat hf (l := [r10]) (by kernel_rfl) K s
theorem r10_eq (K : List Item) (s : St) : den prog ann 10 (.code r10 :: K) s = mreg prog ann 10 none [] none [] [
    ⟨some 15, none, .v fun s => some (.int .i64 2)⟩] K s := (den_reg hf _ K s).trans (by kernel_rfl)
theorem i1e_eq (K : List Item) (s : St) : den prog ann 10 (.code i1e :: K) s = den prog ann 10 (K) s := den_flat hf (l := []) (by kernel_rfl) K s
theorem r11_eq (K : List Item) (s : St) : den prog ann 10 (.code r11 :: K) s = mreg prog ann 10 (some [5, 6, 7, 8, 9, 10, 11, 12, 13, 14, 15]) [] none [] [
    ⟨some 54, none, .v fun s => some (s.get 15)⟩,
    ⟨some 55, none, .v fun s => binA prog .neq 27 (s.get 54) (.int .i64 0)⟩] K s := (den_reg hf _ K s).trans (by kernel_rfl)
theorem i2_eq (K : List Item) (s : St) : den prog ann 10 (.code i2 :: K) s = ifV prog ann 10 55 i2t i2e K s (s.get 55) := den_if hf (by kernel_rfl) K s
theorem i2t_eq (K : List Item) (s : St) : den prog ann 10 (.code i2t :: K) s = den prog ann 10 (.code r12 :: .code .ret :: K) s := den_flat hf (l := [r12, .ret]) (by kernel_rfl) K s
theorem r12_eq (K : List Item) (s : St) : den prog ann 10 (.code r12 :: K) s = mreg prog ann 10 none [] none [] [
    ⟨some 56, none, .v fun s => some (s.get 7)⟩,
    ⟨some 57, none, .v fun s => unA .not (s.get 56)⟩,
    ⟨some 58, none, .v fun s => some (s.get 57)⟩,
    ⟨some 59, some (58, true), .v fun s => some (s.get 8)⟩,
    ⟨some 60, some (58, true), .v fun s => some (s.get 15)⟩,
    ⟨some 61, some (58, true), .v fun s => binA prog .eql 27 (s.get 59) (s.get 60)⟩,
    ⟨some 62, none, .v fun s => pickA (s.get 58) (s.get 61) (.bool false)⟩,
    ⟨some 63, none, .v fun s => some (s.get 62)⟩,
    ⟨some 64, some (63, true), .v fun s => some (s.get 9)⟩,
    ⟨some 65, some (63, true), .v fun s => binA prog .eql 3 (s.get 64) (.int .i64 0)⟩,
    ⟨some 66, none, .v fun s => pickA (s.get 63) (s.get 65) (.bool false)⟩,
    ⟨some 67, none, .v fun s => some (s.get 66)⟩,
    ⟨some 68, some (67, true), .v fun s => some (s.get 10)⟩,
    ⟨some 69, some (67, true), .v fun s => some (s.get 15)⟩,
    ⟨some 70, some (67, true), .v fun s => binA prog .eql 27 (s.get 68) (s.get 69)⟩,
    ⟨some 71, none, .v fun s => pickA (s.get 67) (s.get 70) (.bool false)⟩,
    ⟨some 72, none, .v fun s => some (s.get 71)⟩,
    ⟨some 73, some (72, true), .v fun s => some (s.get 11)⟩,
    ⟨some 74, some (72, true), .v fun s => lenSl (s.get 73)⟩,
    ⟨some 75, some (72, true), .v fun s => some (s.get 13)⟩,
    ⟨some 76, some (72, true), .v fun s => lenSl (s.get 75)⟩,
    ⟨some 77, some (72, true), .v fun s => binA prog .add 3 (s.get 74) (s.get 76)⟩,
    ⟨some 78, some (72, true), .v fun s => binA prog .eql 3 (s.get 77) (.int .i64 0)⟩,
    ⟨some 79, none, .v fun s => pickA (s.get 72) (s.get 78) (.bool false)⟩,
    ⟨some 80, none, .v fun s => some (s.get 79)⟩,
    ⟨some 81, some (80, true), .v fun s => some (s.get 12)⟩,
    ⟨some 82, some (80, true), .v fun s => some (s.get 15)⟩,
    ⟨some 83, some (80, true), .v fun s => binA prog .eql 27 (s.get 81) (s.get 82)⟩,
    ⟨some 84, none, .v fun s => pickA (s.get 80) (s.get 83) (.bool false)⟩,
    ⟨some 85, none, .v fun s => some (s.get 84)⟩,
    ⟨some 86, some (85, true), .v fun s => some (s.get 14)⟩,
    ⟨some 87, some (85, true), .v fun s => some (s.get 15)⟩,
    ⟨some 88, some (85, true), .v fun s => binA prog .eql 27 (s.get 86) (s.get 87)⟩,
    ⟨some 89, none, .v fun s => pickA (s.get 85) (s.get 88) (.bool false)⟩,
    ⟨some 90, none, .v fun s => some (s.get 89)⟩,
    ⟨some 91, some (90, true), .c 0 (fun s => (.fn 22 [] [])) fun s => []⟩,
    ⟨some 92, none, .v fun s => pickA (s.get 90) (s.get 91) (.bool false)⟩,
    ⟨some 4, none, .v fun s => some (s.get 92)⟩] K s := (den_reg hf _ K s).trans (by kernel_rfl)
theorem i2e_eq (K : List Item) (s : St) : den prog ann 10 (.code i2e :: K) s = den prog ann 10 (K) s := den_flat hf (l := []) (by kernel_rfl) K s
theorem r13_eq (K : List Item) (s : St) : den prog ann 10 (.code r13 :: K) s = mreg prog ann 10 none [] none [] [
    ⟨some 16, none, .v fun s => some (.int .i64 0)⟩,
    ⟨some 17, none, .v fun s => some (.bool false)⟩] K s := (den_reg hf _ K s).trans (by kernel_rfl)
theorem r14_eq (K : List Item) (s : St) : den prog ann 10 (.code r14 :: K) s = mreg prog ann 10 none [] none [] [
    ⟨some 93, none, .v fun s => loadF true 2 (s.get 5)⟩,
    ⟨some 94, none, .c 2 (fun s => (.fn 20 [] [])) fun s => [(s.get 93)]⟩,
    ⟨some 18, none, .v fun s => some (s.get 94)⟩] K s := (den_reg hf _ K s).trans (by kernel_rfl)
theorem k0_eq (K : List Item) (t : List (Nat × AV)) (m : Mem) : den prog ann 10 (.code k0 :: K) ⟨t, 160, m⟩ = L0 (get t 5) (get t 6) (get t 7) (get t 8) (get t 9) (get t 10) (get t 11) (get t 12) (get t 13) (get t 14) (get t 16) (get t 17) (get t 18) m K := den_loop_enter hf (b := l0) (id := 15) (l := [5, 6, 7, 8, 9, 10, 11, 12, 13, 14, 16, 17, 18]) (by kernel_rfl) (by kernel_rfl) (by kernel_rfl) K _
theorem l0_eq (K : List Item) (t : List (Nat × AV)) (m : Mem) : den prog ann 10 (.inLoop l0 :: .inBlock 0 :: K) ⟨t, 160, m⟩ = L0 (get t 5) (get t 6) (get t 7) (get t 8) (get t 9) (get t 10) (get t 11) (get t 12) (get t 13) (get t 14) (get t 16) (get t 17) (get t 18) m K := den_loop_again hf (id := 15) (l := [5, 6, 7, 8, 9, 10, 11, 12, 13, 14, 16, 17, 18]) (by kernel_rfl) (by kernel_rfl) (.inBlock 0 :: K) _
theorem L0_eq (x5 x6 x7 x8 x9 x10 x11 x12 x13 x14 x16 x17 x18 : AV) (m : Mem) (K : List Item) : L0 x5 x6 x7 x8 x9 x10 x11 x12 x13 x14 x16 x17 x18 m K = den prog ann 10 (.code r15 :: .code i3 :: .code k1 :: .code r16 :: .inLoop l0 :: .inBlock 0 :: K) ⟨[(5, x5), (6, x6), (7, x7), (8, x8), (9, x9), (10, x10), (11, x11), (12, x12), (13, x13), (14, x14), (16, x16), (17, x17), (18, x18)], 160, m⟩ := den_flat hf (l := [r15, i3, k1, r16]) (by kernel_rfl) _ _
theorem r15_eq (K : List Item) (s : St) : den prog ann 10 (.code r15 :: K) s = mreg prog ann 10 (some [5, 6, 7, 8, 9, 10, 11, 12, 13, 14, 16, 17, 18]) [] none [] [
    ⟨some 95, none, .v fun s => some (s.get 16)⟩,
    ⟨some 96, none, .v fun s => some (s.get 18)⟩,
    ⟨some 97, none, .v fun s => lenSl (s.get 96)⟩,
    ⟨some 98, none, .v fun s => binA prog .lss 3 (s.get 95) (s.get 97)⟩] K s := (den_reg hf _ K s).trans (by kernel_rfl)
theorem i3_eq (K : List Item) (s : St) : den prog ann 10 (.code i3 :: K) s = ifV prog ann 10 98 i3t i3e K s (s.get 98) := den_if hf (by kernel_rfl) K s
theorem i3t_eq (K : List Item) (s : St) : den prog ann 10 (.code i3t :: K) s = den prog ann 10 (K) s := den_flat hf (l := []) (by kernel_rfl) K s
theorem i3e_eq (K : List Item) (s : St) : den prog ann 10 (.code i3e :: K) s = den prog ann 10 (.code (.exit 0) :: K) s := den_flat hf (l := [(.exit 0)]) (by kernel_rfl) K s
theorem k1_eq (K : List Item) (s : St) : den prog ann 10 (.code k1 :: K) s = den prog ann 10 (.code r17 :: .code r18 :: .code i4 :: .inBlock 1 :: K) s := den_blk hf (b := blkOf k1) (l := [r17, r18, i4]) (by kernel_rfl) (by kernel_rfl) K s
theorem r17_eq (K : List Item) (s : St) : den prog ann 10 (.code r17 :: K) s = mreg prog ann 10 none [] none [] [
    ⟨some 101, none, .v fun s => some (s.get 18)⟩,
    ⟨some 102, none, .v fun s => some (s.get 16)⟩,
    ⟨some 103, none, .v fun s => idxSl 1 (s.get 101) (s.get 102)⟩,
    ⟨some 104, none, .v fun s => loadF false 1 (s.get 103)⟩,
    ⟨some 105, none, .v fun s => some (s.get 6)⟩,
    ⟨some 106, none, .c 0 (fun s => (.fn 21 [] [])) fun s => [(s.get 104), (s.get 105)]⟩,
    ⟨some 17, none, .v fun s => some (s.get 106)⟩] K s := (den_reg hf _ K s).trans (by kernel_rfl)
theorem r18_eq (K : List Item) (s : St) : den prog ann 10 (.code r18 :: K) s = mreg prog ann 10 none [] none [] [
    ⟨some 107, none, .v fun s => some (s.get 17)⟩] K s := (den_reg hf _ K s).trans (by kernel_rfl)
theorem i4_eq (K : List Item) (s : St) : den prog ann 10 (.code i4 :: K) s = ifV prog ann 10 107 i4t i4e K s (s.get 107) := den_if hf (by kernel_rfl) K s
theorem i4t_eq (K : List Item) (s : St) : den prog ann 10 (.code i4t :: K) s = den prog ann 10 (.code (.exit 0) :: K) s := den_flat hf (l := [(.exit 0)]) (by kernel_rfl) K s
theorem i4e_eq (K : List Item) (s : St) : den prog ann 10 (.code i4e :: K) s = den prog ann 10 (K) s := den_flat hf (l := []) (by kernel_rfl) K s
theorem r16_eq (K : List Item) (s : St) : den prog ann 10 (.code r16 :: K) s = mreg prog ann 10 (some [5, 6, 7, 8, 9, 10, 11, 12, 13, 14, 16, 17, 18]) [] none [] [
    ⟨some 99, none, .v fun s => some (s.get 16)⟩,
    ⟨some 100, none, .v fun s => binA prog .add 3 (s.get 99) (.int .i64 1)⟩,
    ⟨some 16, none, .v fun s => some (s.get 100)⟩] K s := (den_reg hf _ K s).trans (by kernel_rfl)
theorem r19_eq (K : List Item) (s : St) : den prog ann 10 (.code r19 :: K) s = mreg prog ann 10 (some [5, 6, 7, 8, 9, 10, 11, 12, 13, 14, 16, 17]) [] none [] [
    ⟨some 108, none, .v fun s => some (s.get 17)⟩,
    ⟨some 109, none, .v fun s => unA .not (s.get 108)⟩] K s := (den_reg hf _ K s).trans (by kernel_rfl)
theorem i5_eq (K : List Item) (s : St) : den prog ann 10 (.code i5 :: K) s = ifV prog ann 10 109 i5t i5e K s (s.get 109) := den_if hf (by kernel_rfl) K s
theorem i5t_eq (K : List Item) (s : St) : den prog ann 10 (.code i5t :: K) s = den prog ann 10 (.code r20 :: K) s := den_flat hf (l := [r20]) (by kernel_rfl) K s
theorem r20_eq (K : List Item) (s : St) : den prog ann 10 (.code r20 :: K) s = mreg prog ann 10 none [] none [] [
    ⟨some 16, none, .v fun s => some (.int .i64 0)⟩] K s := (den_reg hf _ K s).trans (by kernel_rfl)
theorem i5e_eq (K : List Item) (s : St) : den prog ann 10 (.code i5e :: K) s = den prog ann 10 (K) s := den_flat hf (l := []) (by kernel_rfl) K s
theorem r21_eq (K : List Item) (s : St) : den prog ann 10 (.code r21 :: K) s = mreg prog ann 10 (some [5, 6, 7, 8, 9, 10, 11, 12, 13, 14, 16, 17]) [] none [] [
    ⟨some 110, none, .v fun s => some (s.get 7)⟩,
    ⟨some 111, none, .v fun s => some (s.get 17)⟩,
    ⟨some 112, none, .v fun s => binA prog .eql 4 (s.get 110) (s.get 111)⟩,
    ⟨some 113, none, .v fun s => some (s.get 112)⟩,
    ⟨some 114, some (113, true), .v fun s => some (s.get 8)⟩,
    ⟨some 115, some (113, true), .v fun s => binA prog .eql 27 (s.get 114) (.int .i64 0)⟩,
    ⟨some 116, none, .v fun s => pickA (s.get 113) (s.get 115) (.bool false)⟩,
    ⟨some 117, none, .v fun s => some (s.get 116)⟩,
    ⟨some 118, some (117, true), .v fun s => some (s.get 9)⟩,
    ⟨some 119, some (117, true), .v fun s => some (s.get 16)⟩,
    ⟨some 120, some (117, true), .v fun s => binA prog .eql 3 (s.get 118) (s.get 119)⟩,
    ⟨some 121, none, .v fun s => pickA (s.get 117) (s.get 120) (.bool false)⟩,
    ⟨some 122, none, .v fun s => some (s.get 121)⟩,
    ⟨some 123, some (122, true), .v fun s => some (s.get 10)⟩,
    ⟨some 124, some (122, true), .v fun s => binA prog .eql 27 (s.get 123) (.int .i64 0)⟩,
    ⟨some 125, some (122, true), .v fun s => some (s.get 17)⟩,
    ⟨some 126, some (122, true), .v fun s => binA prog .eql 4 (s.get 124) (s.get 125)⟩,
    ⟨some 127, none, .v fun s => pickA (s.get 122) (s.get 126) (.bool false)⟩,
    ⟨some 128, none, .v fun s => some (s.get 127)⟩,
    ⟨some 129, some (128, true), .v fun s => some (s.get 17)⟩,
    ⟨some 130, some (128, true), .v fun s => some (s.get 129)⟩,
    ⟨some 131, some (130, false), .v fun s => some (s.get 10)⟩,
    ⟨some 132, some (130, false), .v fun s => binA prog .eql 27 (s.get 131) (.int .i64 5)⟩,
    ⟨some 133, some (128, true), .v fun s => pickA (s.get 130) (.bool true) (s.get 132)⟩,
    ⟨some 134, none, .v fun s => pickA (s.get 128) (s.get 133) (.bool false)⟩,
    ⟨some 135, none, .v fun s => some (s.get 134)⟩,
    ⟨some 136, some (135, true), .v fun s => some (s.get 11)⟩,
    ⟨some 137, some (135, true), .v fun s => loadF true 2 (s.get 5)⟩,
    ⟨some 138, some (135, true), .v fun s => some (s.get 6)⟩,
    ⟨some 139, some (135, true), .c 2 (fun s => (.fn 46 [] [])) fun s => [(s.get 137), (s.get 138)]⟩,
    ⟨some 140, some (135, true), .c 0 (fun s => (.fn 21 [] [])) fun s => [(s.get 136), (s.get 139)]⟩,
    ⟨some 141, none, .v fun s => pickA (s.get 135) (s.get 140) (.bool false)⟩,
    ⟨some 142, none, .v fun s => some (s.get 141)⟩,
    ⟨some 143, some (142, true), .v fun s => some (s.get 12)⟩,
    ⟨some 144, some (142, true), .v fun s => binA prog .eql 27 (s.get 143) (.int .i64 0)⟩,
    ⟨some 145, none, .v fun s => pickA (s.get 142) (s.get 144) (.bool false)⟩,
    ⟨some 146, none, .v fun s => some (s.get 145)⟩,
    ⟨some 147, some (146, true), .v fun s => some (s.get 13)⟩,
    ⟨some 148, some (146, true), .v fun s => loadF true 2 (s.get 5)⟩,
    ⟨some 149, some (146, true), .v fun s => some (s.get 6)⟩,
    ⟨some 150, some (146, true), .c 2 (fun s => (.fn 47 [] [])) fun s => [(s.get 148), (s.get 149)]⟩,
    ⟨some 151, some (146, true), .c 0 (fun s => (.fn 21 [] [])) fun s => [(s.get 147), (s.get 150)]⟩,
    ⟨some 152, none, .v fun s => pickA (s.get 146) (s.get 151) (.bool false)⟩,
    ⟨some 153, none, .v fun s => some (s.get 152)⟩,
    ⟨some 154, some (153, true), .v fun s => some (s.get 14)⟩,
    ⟨some 155, some (153, true), .v fun s => binA prog .eql 27 (s.get 154) (.int .i64 0)⟩,
    ⟨some 156, none, .v fun s => pickA (s.get 153) (s.get 155) (.bool false)⟩,
    ⟨some 157, none, .v fun s => some (s.get 156)⟩,
    ⟨some 158, some (157, true), .c 0 (fun s => (.fn 22 [] [])) fun s => []⟩,
    ⟨some 159, none, .v fun s => pickA (s.get 157) (s.get 158) (.bool false)⟩,
    ⟨some 4, none, .v fun s => some (s.get 159)⟩] K s := (den_reg hf _ K s).trans (by kernel_rfl)
theorem ret_eq (K : List Item) (s : St) : den prog ann 10 (.code .ret :: K) s = finM true [fun s => some (s.get 4)] s := (den_ret hf K s).trans (by kernel_rfl)
theorem nil_eq (s : St) : den prog ann 10 [] s = finM true [fun s => some (s.get 4)] s := (den_nil hf s).trans (by kernel_rfl)
theorem inBlock_eq (id : Nat) (K : List Item) (s : St) : den prog ann 10 (.inBlock id :: K) s = den prog ann 10 K s := den_inBlock hf id K s
theorem exit_eq (id : Nat) (K : List Item) (s : St) : den prog ann 10 (.code (.exit id) :: K) s = exitV prog ann 10 (exitTo id K) s := den_exitV hf id K s
theorem call_eq (v0 v1 : AV) (m : Mem) (h : closedL [v0, v1] = true) : denC prog ann 10 [v0, v1] m = (den prog ann 10 [.code b] ⟨[(0, v0), (1, v1)], 160, Mem.empty⟩).bind fun r => some (r.1, m) := (denC_pure hf (b := b) (by kernel_rfl) (by kernel_rfl) (by kernel_rfl) h m).trans (by kernel_rfl)
theorem pure_eq : (ann 10).pure = true := by kernel_rfl
attribute [simp] b_eq r0_eq r1_eq r2_eq r3_eq r4_eq r5_eq r6_eq r7_eq i0_eq i0t_eq r8_eq i0e_eq r9_eq i1_eq i1t_eq r10_eq i1e_eq r11_eq i2_eq i2t_eq r12_eq i2e_eq r13_eq r14_eq k0_eq l0_eq r15_eq i3_eq i3t_eq i3e_eq k1_eq r17_eq r18_eq i4_eq i4t_eq i4e_eq r16_eq r19_eq i5_eq i5t_eq r20_eq i5e_eq r21_eq ret_eq nil_eq inBlock_eq exit_eq pure_eq
end l09_WatchCuts
end Go.Proofs.Ytdkmepjedjclkaa
