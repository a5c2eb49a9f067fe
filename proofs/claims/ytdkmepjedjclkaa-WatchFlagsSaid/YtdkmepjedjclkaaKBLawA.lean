/-
  BODIES OF FUNCTIONS OF THE PROGRAM AS SMALL OPERATIONS (written by gen.py; checked by the kernel against the program). Conditions: none.
-/
import Derived.Test.YtdkmepjedjclkaaKAmH
set_option linter.all false
namespace Go.Proofs.Ytdkmepjedjclkaa
open Go.AM
open Go.Proofs.Try (prog)
set_option maxRecDepth 100000
set_option linter.all false

namespace l09_cut
/-- pommel/pommellaw09.cut -/
noncomputable def b : Code := (Try.f17.body).getD .skip
theorem hf : prog.funcs[17]? = some Try.f17 := by kernel_rfl
noncomputable def r0 : Code := findReg b 0
noncomputable def r1 : Code := findReg b 1
theorem b_eq (K : List Item) (s : St) : den prog ann 17 (.code b :: K) s = den prog ann 17 (.code r0 :: .code r1 :: .code .ret :: K) s := den_flat hf (l := [r0, r1, .ret]) (by kernel_rfl) K s
theorem r0_eq (K : List Item) (s : St) : den prog ann 17 (.code r0 :: K) s = mreg prog ann 17 none [] none [] [
    ⟨some 1, none, .v fun s => frozenPtr (s.get 0)⟩,
    ⟨some 2, none, .w false none fun s => newPtr s.m [.nils, .nils]⟩] K s := (den_reg hf _ K s).trans (by kernel_rfl)
theorem r1_draw : drawOk (fun g => (ann g).pure) (modeOf (ann 17) (idOf r1)) (frzOf (ann 17) (idOf r1)) (opsOf r1) = true := drawOk_of (an := [0, 0, 2, 0, 8, 24, 56, 126, 255, 0, 0, 1024, 0, 4096, 12288, 28672, 64512, 131071, 262143, 524287]) (by kernel_rfl) (by kernel_rfl)
theorem r1_eq (K : List Item) (s : St) : den prog ann 17 (.code r1 :: K) s = mreg prog ann 17 none [] (some 20) [] [
    ⟨some 3, none, .v fun s => bslF 0 (bslA 1 0 [.int .i64 0] [])⟩,
    ⟨some 4, none, .v fun s => fieldA 0 (s.get 1)⟩,
    ⟨some 5, none, .v fun s => loadF false 1 (s.get 4)⟩,
    ⟨some 6, none, .v fun s => fieldA 0 (s.get 1)⟩,
    ⟨some 7, none, .v fun s => loadF false 1 (s.get 6)⟩,
    ⟨some 8, none, .v fun s => lenSl (s.get 7)⟩,
    ⟨some 9, none, .v fun s => foldA min2A (s.get 8) [(.int .i64 5)]⟩,
    ⟨some 10, none, .v fun s => sliceSl 1 (s.get 5) none (some (s.get 9))⟩,
    ⟨some 11, none, .v fun s => appV 1 8 (s.get 3) (s.get 10)⟩,
    ⟨some 12, none, .v fun s => bslF 0 (bslA 4 0 [.int .i64 0, .int .i64 0, .int .i64 0, .int .i64 0] [])⟩,
    ⟨some 13, none, .v fun s => fieldA 1 (s.get 1)⟩,
    ⟨some 14, none, .v fun s => loadF false 1 (s.get 13)⟩,
    ⟨some 15, none, .v fun s => fieldA 1 (s.get 1)⟩,
    ⟨some 16, none, .v fun s => loadF false 1 (s.get 15)⟩,
    ⟨some 17, none, .v fun s => lenSl (s.get 16)⟩,
    ⟨some 18, none, .v fun s => foldA min2A (s.get 17) [(.int .i64 25)]⟩,
    ⟨some 19, none, .v fun s => sliceSl 4 (s.get 14) none (some (s.get 18))⟩,
    ⟨some 20, none, .v fun s => appV 4 32 (s.get 12) (s.get 19)⟩,
    ⟨some 21, none, .v fun s => bldA (plc [(0, 1), (1, 1)]) [.nils, .nils] [(0, (s.get 11)), (1, (s.get 20))]⟩,
    ⟨none, none, .w false (some 19) fun s => stA true 2 s.m (s.get 2) (s.get 21)⟩] K s := (den_regD hf r1_draw K s).trans (by kernel_rfl)
theorem ret_eq (K : List Item) (s : St) : den prog ann 17 (.code .ret :: K) s = finM true [fun s => loadA true 2 s.m (s.get 2)] s := (den_ret hf K s).trans (by kernel_rfl)
theorem nil_eq (s : St) : den prog ann 17 [] s = finM true [fun s => loadA true 2 s.m (s.get 2)] s := (den_nil hf s).trans (by kernel_rfl)
theorem inBlock_eq (id : Nat) (K : List Item) (s : St) : den prog ann 17 (.inBlock id :: K) s = den prog ann 17 K s := den_inBlock hf id K s
theorem exit_eq (id : Nat) (K : List Item) (s : St) : den prog ann 17 (.code (.exit id) :: K) s = exitV prog ann 17 (exitTo id K) s := den_exitV hf id K s
theorem call_eq (v0 : AV) (m : Mem) (h : closedL [v0] = true) : denC prog ann 17 [v0] m = (den prog ann 17 [.code b] ⟨[(0, v0)], 22, Mem.empty⟩).bind fun r => some (r.1, m) := (denC_pure hf (b := b) (by kernel_rfl) (by kernel_rfl) (by kernel_rfl) h m).trans (by kernel_rfl)
theorem pure_eq : (ann 17).pure = true := by kernel_rfl
attribute [simp] b_eq r0_eq r1_eq ret_eq nil_eq inBlock_eq exit_eq pure_eq
end l09_cut


end Go.Proofs.Ytdkmepjedjclkaa
