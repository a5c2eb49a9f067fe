/-
  THE LIBRARY'S COMPARISON OF STRINGS, AS A THEOREM OF THIS PROGRAM (the shelf's contract). Conditions: none.
-/
import Derived.Shelf.Small.Strs
import Derived.Test.YthnpflkpjimkfaaKAmH
import Derived.Test.YthnpflkpjimkfaaKAmC
import Derived.Test.YthnpflkpjimkfaaKAmG
import Derived.Test.YthnpflkpjimkfaaKAmF
import Derived.Test.YthnpflkpjimkfaaKAmE
set_option linter.all false
namespace Go.Proofs.Ythnpflkpjimkfaa
open Go.Shelf Go.Proofs Go.AM
open Go.Proofs.Try (prog)
set_option maxRecDepth 100000
def cmpRen : Go.Shelf.Ren := ⟨fun | 106 => 86 | 213 => 94 | 265 => 108 | n => n, fun n => n, fun n => n⟩
theorem cmpLays : Lays.n106 Try.prog cmpRen where
  mixed := by kernel_rfl
  f106 := Try.func86.trans (congrArg some (by kernel_rfl))
  f213 := Try.func94.trans (congrArg some (by kernel_rfl))
  f265 := Try.func108.trans (congrArg some (by kernel_rfl))
  t3 := Try.underlying3
  a3 := Try.isAgg3
  z3 := Try.sizeOf3
  v3 := Try.zeroValue3
  t9 := Try.underlying9
  a9 := Try.isAgg9
  z9 := Try.sizeOf9
  v9 := Try.zeroValue9
theorem cmp_same : ∀ a b : List UInt8, Lib.compareBytes a b = cmpL a b
  | [], [] => rfl
  | [], _ :: _ => rfl
  | _ :: _, [] => rfl
  | a :: x, b :: y => by rw [Lib.compareBytes, cmpL, cmp_same x y]
theorem libS : ∀ g, (ann g).srt = true → LibCalls prog ann g := fun g h => by
  have := srt_only (l := annL) (d := ⟨false, [], [], [], []⟩) rfl (fun g => g == 86) (by kernel_rfl) g h
  have e : g = 86 := by simpa using this
  subst e
  refine ⟨fun _ a b w => ?_, fun h => ?_⟩
  · refine (Any.strings_Compare cmpLays a b w).mono ?_
    rintro e w' ⟨rfl, rfl⟩
    exact ⟨by rw [cmp_same], rfl⟩
  · have : (ann 86).cmp = true := by kernel_rfl
    rw [this] at h; cases h
end Go.Proofs.Ythnpflkpjimkfaa

/-
  SLICES WHOSE ELEMENTS ARE THEMSELVES SLICES, AS VALUES. Conditions: none.
-/
namespace Go.AM
set_option linter.all false
def cAt (cs : List AV) (i : Nat) : AV := cs.getD i .undef
theorem cAt_eq {cs : List AV} {i : Nat} (h : i < cs.length) : cs[i]? = some (cAt cs i) := by
  rw [List.getElem?_eq_getElem h]; simp [cAt, List.getD, List.getElem?_eq_getElem h]
theorem cAt_load {cs : List AV} {i : Nat} (h : i < cs.length) : loadF false 1 (.fptr (cs.drop i)) = some (cAt cs i) := by
  simp [List.head?_drop, cAt_eq h]
def gth {α : Type} [Inhabited α] (l : List α) (i : Nat) : α := l.getD i default
structure IsVec {α : Type} [Inhabited α] (R : AV → α → Prop) (v : AV) (cs : List AV) (l : List α) : Prop where
  n : cs.length = l.length
  rel : ∀ i, i < l.length → R (cAt cs i) (gth l i)
  cl : closedL cs = true
  v : (v = .nils ∧ l = []) ∨ ∃ ex, v = .fsl ex l.length cs
section
variable {α : Type} [Inhabited α] {R : AV → α → Prop} {v : AV} {cs : List AV} {l : List α}
theorem IsVec.closed (h : IsVec R v cs l) : v.closed = true := by rcases h.v with ⟨rfl, _⟩ | ⟨_, rfl⟩ <;> rfl
theorem IsVec.one (h : IsVec R v cs l) : v.one = true := by rcases h.v with ⟨rfl, _⟩ | ⟨_, rfl⟩ <;> rfl
theorem IsVec.cells (h : IsVec R v cs l) : v.cells = [v] := by rcases h.v with ⟨rfl, _⟩ | ⟨_, rfl⟩ <;> rfl
theorem IsVec.len (h : IsVec R v cs l) : lenSl v = some (.int .i64 l.length) := by rcases h.v with ⟨rfl, rfl⟩ | ⟨_, rfl⟩ <;> simp
theorem IsVec.deep (h : IsVec R v cs l) (hp : Nat → Option AObj) (d : Nat) : AM.deep hp (d + 1) v = some v := by rcases h.v with ⟨rfl, _⟩ | ⟨_, rfl⟩ <;> rfl
theorem IsVec.frz (h : IsVec R v cs l) (m : Mem) : frzV v m = some (v, m) := by rcases h.v with ⟨rfl, _⟩ | ⟨_, rfl⟩ <;> rfl
theorem IsVec.idx (h : IsVec R v cs l) {i : Nat} (hi : i < l.length) (k : IntKind) : idxSl 1 v (.int k (i : Int)) = some (.fptr (cs.drop i)) := by
  rcases h.v with ⟨rfl, rfl⟩ | ⟨_, rfl⟩
  · simp at hi
  · simp [hi]
theorem IsVec.load (h : IsVec R v cs l) {i : Nat} (hi : i < l.length) : loadF false 1 (.fptr (cs.drop i)) = some (cAt cs i) := cAt_load (by rw [h.n]; exact hi)
theorem IsVec.at (h : IsVec R v cs l) {i : Nat} (hi : i < l.length) : R (cAt cs i) (gth l i) := h.rel i hi
end
def bnth (l : List Bool) (i : Nat) : Bool := l.getD i false
end Go.AM

/-
  LISTS OF NUMBERS: what all laws share. Conditions: none.
-/
namespace Go.AM
set_option linter.all false
theorem updNe {h : Nat → Option AObj} {i j : Nat} {o : Option AObj} (e : j ≠ i) : upd h i o j = h j := by simp [upd, show (j == i) = false from beq_eq_false_iff_ne.2 e]
end Go.AM

/-
  BODIES OF FUNCTIONS OF THE PROGRAM AS SMALL OPERATIONS (written by gen.py; checked by the kernel against the program). Conditions: none.
-/
namespace Go.Proofs.Ythnpflkpjimkfaa
open Go.AM
open Go.Proofs.Try (prog)
set_option maxRecDepth 100000
set_option linter.all false
namespace brand_valid
noncomputable section
variable (K : List Item) (s : St)
def b : Code := (Try.f55.body).getD .skip
theorem hf : prog.funcs[55]? = some Try.f55 := by kernel_rfl
def r0 := findReg b 0
def r1 := findReg b 1
def r2 := findReg b 2
def i0 := findCond b 0
def i0t := thenOf i0
def i0e := elseOf i0
def r3 := findReg b 3
def r4 := findReg b 4
def r5 := findReg b 5
def i1 := findCond b 1
def i1t := thenOf i1
def i1e := elseOf i1
def r6 := findReg b 6
def r7 := findReg b 7
def k0 := findBlk b 0
def l0 := loopOf k0
def L0 (x3 x4 x35 x36 x37 : AV) (m : Mem) (K : List Item) : Option Res := den prog ann 55 (.code l0 :: .inLoop l0 :: .inBlock 0 :: K) ⟨[(3, x3), (4, x4), (35, x35), (36, x36), (37, x37)], 57, m⟩
def r8 := findReg b 8
def i2 := findCond b 2
def i2t := thenOf i2
def i2e := elseOf i2
def k1 := findBlk b 1
def r9 := findReg b 9
def r10 := findReg b 10
def i3 := findCond b 3
def i3t := thenOf i3
def i3e := elseOf i3
def r11 := findReg b 11
def r12 := findReg b 12
def r13 := findReg b 13
theorem b_eq : den prog ann 55 (.code b :: K) s = den prog ann 55 (.code r0 :: .code r1 :: .code r2 :: .code i0 :: .code r4 :: .code r5 :: .code i1 :: .code r7 :: .code k0 :: .code r13 :: .code .ret :: K) s := den_flat hf (l := [r0, r1, r2, i0, r4, r5, i1, r7, k0, r13, .ret]) (by kernel_rfl) K s
theorem r0_eq : den prog ann 55 (.code r0 :: K) s = mreg prog ann 55 none [] none [] [qA 1 frozenPtr 0,qF 2 fun s => some (.bool false)] K s := (den_reg hf _ K s).trans (by kernel_rfl)
theorem r1_eq : den prog ann 55 (.code r1 :: K) s = mreg prog ann 55 none [] none [] [qA 7 (fieldA 0) 1,qA 8 (loadF false 1) 7,qA 9 lenSl 8,qC 3 9] K s := (den_reg hf _ K s).trans (by kernel_rfl)
theorem r2_eq : den prog ann 55 (.code r2 :: K) s = mreg prog ann 55 none [] none [] [qC 10 3,qF 11 fun s => binA prog .lss 3 (s.get 10) (.int .i64 1),qC 12 11,⟨some 13, some (12, false), .v fun s => some (s.get 3)⟩,⟨some 14, some (12, false), .v fun s => binA prog .gtr 3 (s.get 13) (.int .i64 6)⟩,qF 15 fun s => pickA (s.get 12) (.bool true) (s.get 14),qC 16 15,⟨some 17, some (16, false), .v fun s => fieldA 1 (s.get 1)⟩,⟨some 18, some (16, false), .v fun s => loadF false 1 (s.get 17)⟩,⟨some 19, some (16, false), .v fun s => lenSl (s.get 18)⟩,⟨some 20, some (16, false), .v fun s => some (s.get 3)⟩,⟨some 21, some (16, false), .v fun s => binA prog .neq 3 (s.get 19) (s.get 20)⟩,qF 22 fun s => pickA (s.get 16) (.bool true) (s.get 21)] K s := (den_reg hf _ K s).trans (by kernel_rfl)
theorem i0_eq : den prog ann 55 (.code i0 :: K) s = ifV prog ann 55 22 i0t i0e K s (s.get 22) := den_if hf (by kernel_rfl) K s
theorem i0t_eq : den prog ann 55 (.code i0t :: K) s = den prog ann 55 (.code r3 :: .code .ret :: K) s := den_flat hf (l := [r3, .ret]) (by kernel_rfl) K s
theorem r3_eq : den prog ann 55 (.code r3 :: K) s = mreg prog ann 55 none [] none [] [qF 2 fun s => some (.bool false)] K s := (den_reg hf _ K s).trans (by kernel_rfl)
theorem i0e_eq : den prog ann 55 (.code i0e :: K) s = den prog ann 55 (K) s := den_flat hf (l := []) (by kernel_rfl) K s
theorem r4_eq : den prog ann 55 (.code r4 :: K) s = mreg prog ann 55 none [] none [] [qA 23 (fieldA 0) 1,qA 24 (loadF false 1) 23,qF 25 fun s => idxSl 1 (s.get 24) (.int .i64 0),qA 26 (loadF false 1) 25,qA 27 lenSl 26,qC 4 27] K s := (den_reg hf _ K s).trans (by kernel_rfl)
theorem r5_eq : den prog ann 55 (.code r5 :: K) s = mreg prog ann 55 none [] none [] [qC 28 4,qF 29 fun s => binA prog .lss 3 (s.get 28) (.int .i64 1),qC 30 29,⟨some 31, some (30, false), .v fun s => some (s.get 4)⟩,⟨some 32, some (30, false), .v fun s => binA prog .gtr 3 (s.get 31) (.int .i64 3)⟩,qF 33 fun s => pickA (s.get 30) (.bool true) (s.get 32)] K s := (den_reg hf _ K s).trans (by kernel_rfl)
theorem i1_eq : den prog ann 55 (.code i1 :: K) s = ifV prog ann 55 33 i1t i1e K s (s.get 33) := den_if hf (by kernel_rfl) K s
theorem i1t_eq : den prog ann 55 (.code i1t :: K) s = den prog ann 55 (.code r6 :: .code .ret :: K) s := den_flat hf (l := [r6, .ret]) (by kernel_rfl) K s
theorem r6_eq : den prog ann 55 (.code r6 :: K) s = mreg prog ann 55 none [] none [] [qF 2 fun s => some (.bool false)] K s := (den_reg hf _ K s).trans (by kernel_rfl)
theorem i1e_eq : den prog ann 55 (.code i1e :: K) s = den prog ann 55 (K) s := den_flat hf (l := []) (by kernel_rfl) K s
theorem r7_eq : den prog ann 55 (.code r7 :: K) s = mreg prog ann 55 none [] none [] [qA 34 (fieldA 0) 1,qA 35 (loadF false 1) 34,qA 36 lenSl 35,qF 37 fun s => some (.int .i64 0)] K s := (den_reg hf _ K s).trans (by kernel_rfl)
theorem k0_eq (K : List Item) (t : List (Nat × AV)) (m : Mem) : den prog ann 55 (.code k0 :: K) ⟨t, 57, m⟩ = L0 (get t 3) (get t 4) (get t 35) (get t 36) (get t 37) m K := den_loop_enter hf (b := l0) (id := 8) (l := [3, 4, 35, 36, 37]) (by kernel_rfl) (by kernel_rfl) (by kernel_rfl) K _
theorem l0_eq (K : List Item) (t : List (Nat × AV)) (m : Mem) : den prog ann 55 (.inLoop l0 :: .inBlock 0 :: K) ⟨t, 57, m⟩ = L0 (get t 3) (get t 4) (get t 35) (get t 36) (get t 37) m K := den_loop_again hf (id := 8) (l := [3, 4, 35, 36, 37]) (by kernel_rfl) (by kernel_rfl) (.inBlock 0 :: K) _
theorem L0_eq (x3 x4 x35 x36 x37 : AV) (m : Mem) (K : List Item) : L0 x3 x4 x35 x36 x37 m K = den prog ann 55 (.code r8 :: .code i2 :: .code k1 :: .code r12 :: .inLoop l0 :: .inBlock 0 :: K) ⟨[(3, x3), (4, x4), (35, x35), (36, x36), (37, x37)], 57, m⟩ := den_flat hf (l := [r8, i2, k1, r12]) (by kernel_rfl) _ _
theorem r8_eq : den prog ann 55 (.code r8 :: K) s = mreg prog ann 55 (some [3, 4, 35, 36, 37]) [] none [] [qB 38 (binA prog .lss 3) 37 36] K s := (den_reg hf _ K s).trans (by kernel_rfl)
theorem i2_eq : den prog ann 55 (.code i2 :: K) s = ifV prog ann 55 38 i2t i2e K s (s.get 38) := den_if hf (by kernel_rfl) K s
theorem i2t_eq : den prog ann 55 (.code i2t :: K) s = den prog ann 55 (K) s := den_flat hf (l := []) (by kernel_rfl) K s
theorem i2e_eq : den prog ann 55 (.code i2e :: K) s = den prog ann 55 (.code (.exit 0) :: K) s := den_flat hf (l := [(.exit 0)]) (by kernel_rfl) K s
theorem k1_eq : den prog ann 55 (.code k1 :: K) s = den prog ann 55 (.code r9 :: .code r10 :: .code i3 :: .inBlock 1 :: K) s := den_blk hf (b := blkOf k1) (l := [r9, r10, i3]) (by kernel_rfl) (by kernel_rfl) K s
theorem r9_eq : den prog ann 55 (.code r9 :: K) s = mreg prog ann 55 none [] none [] [qB 39 (idxSl 1) 35 37,qA 40 (loadF false 1) 39,qC 6 40] K s := (den_reg hf _ K s).trans (by kernel_rfl)
theorem r10_eq : den prog ann 55 (.code r10 :: K) s = mreg prog ann 55 none [] none [] [qC 41 6,qA 42 lenSl 41,qC 43 4,qB 44 (binA prog .neq 3) 42 43,qC 45 44,⟨some 46, some (45, false), .v fun s => some (s.get 6)⟩,⟨some 47, some (45, false), .c 0 (fun s => (.fn 78 [] [])) fun s => [(s.get 46)]⟩,⟨some 48, some (45, false), .v fun s => binA prog .lss 3 (s.get 47) (.int .i64 0)⟩,qF 49 fun s => pickA (s.get 45) (.bool true) (s.get 48),qC 50 49,⟨some 51, some (50, false), .v fun s => some (s.get 6)⟩,⟨some 52, some (50, false), .c 0 (fun s => (.fn 79 [] [])) fun s => [(s.get 51)]⟩,⟨some 53, some (50, false), .v fun s => some (s.get 3)⟩,⟨some 54, some (50, false), .v fun s => binA prog .geq 3 (s.get 52) (s.get 53)⟩,qF 55 fun s => pickA (s.get 50) (.bool true) (s.get 54)] K s := (den_reg hf _ K s).trans (by kernel_rfl)
theorem i3_eq : den prog ann 55 (.code i3 :: K) s = ifV prog ann 55 55 i3t i3e K s (s.get 55) := den_if hf (by kernel_rfl) K s
theorem i3t_eq : den prog ann 55 (.code i3t :: K) s = den prog ann 55 (.code r11 :: .code .ret :: K) s := den_flat hf (l := [r11, .ret]) (by kernel_rfl) K s
theorem r11_eq : den prog ann 55 (.code r11 :: K) s = mreg prog ann 55 none [] none [] [qF 2 fun s => some (.bool false)] K s := (den_reg hf _ K s).trans (by kernel_rfl)
theorem i3e_eq : den prog ann 55 (.code i3e :: K) s = den prog ann 55 (K) s := den_flat hf (l := []) (by kernel_rfl) K s
theorem r12_eq : den prog ann 55 (.code r12 :: K) s = mreg prog ann 55 (some [3, 4, 35, 36, 37]) [] none [] [qF 56 fun s => binA prog .add 3 (s.get 37) (.int .i64 1),qC 37 56] K s := (den_reg hf _ K s).trans (by kernel_rfl)
theorem r13_eq : den prog ann 55 (.code r13 :: K) s = mreg prog ann 55 (some []) [] none [] [qF 2 fun s => some (.bool true)] K s := (den_reg hf _ K s).trans (by kernel_rfl)
theorem ret_eq : den prog ann 55 (.code .ret :: K) s = finM true [fun s => some (s.get 2)] s := (den_ret hf K s).trans (by kernel_rfl)
theorem nil_eq (s : St) : den prog ann 55 [] s = finM true [fun s => some (s.get 2)] s := (den_nil hf s).trans (by kernel_rfl)
theorem inBlock_eq (id : Nat) (K : List Item) (s : St) : den prog ann 55 (.inBlock id :: K) s = den prog ann 55 K s := den_inBlock hf id K s
theorem exit_eq (id : Nat) (K : List Item) (s : St) : den prog ann 55 (.code (.exit id) :: K) s = exitV prog ann 55 (exitTo id K) s := den_exitV hf id K s
theorem call_eq (v0 : AV) (m : Mem) (h : closedL [v0] = true) : denC prog ann 55 [v0] m = (den prog ann 55 [.code b] ⟨[(0, v0)], 57, Mem.empty⟩).bind fun r => some (r.1, m) := (denC_pure hf (b := b) (by kernel_rfl) (by kernel_rfl) (by kernel_rfl) h m).trans (by kernel_rfl)
theorem pure_eq : (ann 55).pure = true := by kernel_rfl
attribute [simp] b_eq r0_eq r1_eq r2_eq i0_eq i0t_eq r3_eq i0e_eq r4_eq r5_eq i1_eq i1t_eq r6_eq i1e_eq r7_eq k0_eq l0_eq r8_eq i2_eq i2t_eq i2e_eq k1_eq r9_eq r10_eq i3_eq i3t_eq r11_eq i3e_eq r12_eq r13_eq ret_eq nil_eq inBlock_eq exit_eq pure_eq
end
end brand_valid
namespace brand_after
noncomputable section
variable (K : List Item) (s : St)
def b : Code := (Try.f69.body).getD .skip
theorem hf : prog.funcs[69]? = some Try.f69 := by kernel_rfl
def r0 := findReg b 0
def r1 := findReg b 1
def k0 := findBlk b 0
def l0 := loopOf k0
def L0 (x1 x2 x3 x9 x10 : AV) (m : Mem) (K : List Item) : Option Res := den prog ann 69 (.code l0 :: .inLoop l0 :: .inBlock 0 :: K) ⟨[(1, x1), (2, x2), (3, x3), (9, x9), (10, x10)], 26, m⟩
def r2 := findReg b 2
def i0 := findCond b 0
def i0t := thenOf i0
def i0e := elseOf i0
def k1 := findBlk b 1
def r3 := findReg b 3
def r4 := findReg b 4
def r5 := findReg b 5
def r6 := findReg b 6
theorem b_eq : den prog ann 69 (.code b :: K) s = den prog ann 69 (.code r0 :: .code r1 :: .code k0 :: .code r6 :: .code .ret :: K) s := den_flat hf (l := [r0, r1, k0, r6, .ret]) (by kernel_rfl) K s
theorem r0_eq : den prog ann 69 (.code r0 :: K) s = mreg prog ann 69 none [] none [] [qA 3 frozenPtr 0,qF 6 fun s => some (.int .i64 0)] K s := (den_reg hf _ K s).trans (by kernel_rfl)
theorem r1_eq : den prog ann 69 (.code r1 :: K) s = mreg prog ann 69 none [] none [] [qC 8 2,qA 9 lenStr 8,qF 10 fun s => some (.int .i64 0)] K s := (den_reg hf _ K s).trans (by kernel_rfl)
theorem k0_eq (K : List Item) (t : List (Nat × AV)) (m : Mem) : den prog ann 69 (.code k0 :: K) ⟨t, 26, m⟩ = L0 (get t 1) (get t 2) (get t 3) (get t 9) (get t 10) m K := den_loop_enter hf (b := l0) (id := 2) (l := [1, 2, 3, 9, 10]) (by kernel_rfl) (by kernel_rfl) (by kernel_rfl) K _
theorem l0_eq (K : List Item) (t : List (Nat × AV)) (m : Mem) : den prog ann 69 (.inLoop l0 :: .inBlock 0 :: K) ⟨t, 26, m⟩ = L0 (get t 1) (get t 2) (get t 3) (get t 9) (get t 10) m K := den_loop_again hf (id := 2) (l := [1, 2, 3, 9, 10]) (by kernel_rfl) (by kernel_rfl) (.inBlock 0 :: K) _
theorem L0_eq (x1 x2 x3 x9 x10 : AV) (m : Mem) (K : List Item) : L0 x1 x2 x3 x9 x10 m K = den prog ann 69 (.code r2 :: .code i0 :: .code k1 :: .code r5 :: .inLoop l0 :: .inBlock 0 :: K) ⟨[(1, x1), (2, x2), (3, x3), (9, x9), (10, x10)], 26, m⟩ := den_flat hf (l := [r2, i0, k1, r5]) (by kernel_rfl) _ _
theorem r2_eq : den prog ann 69 (.code r2 :: K) s = mreg prog ann 69 (some [1, 2, 3, 9, 10]) [] none [] [qB 11 (binA prog .lss 3) 10 9] K s := (den_reg hf _ K s).trans (by kernel_rfl)
theorem i0_eq : den prog ann 69 (.code i0 :: K) s = ifV prog ann 69 11 i0t i0e K s (s.get 11) := den_if hf (by kernel_rfl) K s
theorem i0t_eq : den prog ann 69 (.code i0t :: K) s = den prog ann 69 (K) s := den_flat hf (l := []) (by kernel_rfl) K s
theorem i0e_eq : den prog ann 69 (.code i0e :: K) s = den prog ann 69 (.code (.exit 0) :: K) s := den_flat hf (l := [(.exit 0)]) (by kernel_rfl) K s
theorem k1_eq : den prog ann 69 (.code k1 :: K) s = den prog ann 69 (.code r3 :: .code r4 :: .inBlock 1 :: K) s := den_blk hf (b := blkOf k1) (l := [r3, r4]) (by kernel_rfl) (by kernel_rfl) K s
theorem r3_eq : den prog ann 69 (.code r3 :: K) s = mreg prog ann 69 none [] none [] [qC 12 10,qC 7 12] K s := (den_reg hf _ K s).trans (by kernel_rfl)
theorem r4_draw : drawOk (fun g => (ann g).pure) (modeOf (ann 69) (idOf r4)) (frzOf (ann 69) (idOf r4)) (opsOf r4) = true := drawOk_of (an := [0, 1, 0, 7, 15, 0, 0, 96, 224, 511, 1023, 2047]) (by kernel_rfl) (by kernel_rfl)
theorem r4_eq : den prog ann 69 (.code r4 :: K) s = mreg prog ann 69 none [] (some 12) [] [qA 13 (fieldA 0) 3,qA 14 (loadF false 1) 13,qC 15 1,qB 16 (idxSl 1) 14 15,qA 17 (loadF false 1) 16,qC 18 2,qC 19 7,qB 20 idxStr 18 19,qF 21 fun s => binA prog .sub 5 (s.get 20) (.int .u8 97),qB 22 (idxSl 1) 17 21,qA 23 (loadF false 1) 22,qC 1 23] K s := (den_regD hf r4_draw K s).trans (by kernel_rfl)
theorem r5_eq : den prog ann 69 (.code r5 :: K) s = mreg prog ann 69 (some [1, 2, 3, 9, 10]) [] none [] [qF 24 fun s => binA prog .add 3 (s.get 10) (.int .i64 1),qC 10 24] K s := (den_reg hf _ K s).trans (by kernel_rfl)
theorem r6_eq : den prog ann 69 (.code r6 :: K) s = mreg prog ann 69 (some [1]) [] none [] [qC 25 1,qC 6 25] K s := (den_reg hf _ K s).trans (by kernel_rfl)
theorem ret_eq : den prog ann 69 (.code .ret :: K) s = finM true [fun s => some (s.get 6)] s := (den_ret hf K s).trans (by kernel_rfl)
theorem nil_eq (s : St) : den prog ann 69 [] s = finM true [fun s => some (s.get 6)] s := (den_nil hf s).trans (by kernel_rfl)
theorem inBlock_eq (id : Nat) (K : List Item) (s : St) : den prog ann 69 (.inBlock id :: K) s = den prog ann 69 K s := den_inBlock hf id K s
theorem exit_eq (id : Nat) (K : List Item) (s : St) : den prog ann 69 (.code (.exit id) :: K) s = exitV prog ann 69 (exitTo id K) s := den_exitV hf id K s
theorem call_eq (v0 v1 v2 : AV) (m : Mem) (h : closedL [v0, v1, v2] = true) : denC prog ann 69 [v0, v1, v2] m = (den prog ann 69 [.code b] ⟨[(0, v0), (1, v1), (2, v2)], 26, Mem.empty⟩).bind fun r => some (r.1, m) := (denC_pure hf (b := b) (by kernel_rfl) (by kernel_rfl) (by kernel_rfl) h m).trans (by kernel_rfl)
theorem pure_eq : (ann 69).pure = true := by kernel_rfl
attribute [simp] b_eq r0_eq r1_eq k0_eq l0_eq r2_eq i0_eq i0t_eq i0e_eq k1_eq r3_eq r4_eq r5_eq r6_eq ret_eq nil_eq inBlock_eq exit_eq pure_eq
end
end brand_after
namespace slices_Min_int
noncomputable section
variable (K : List Item) (s : St)
def b : Code := (Try.f78.body).getD .skip
theorem hf : prog.funcs[78]? = some Try.f78 := by kernel_rfl
def r0 := findReg b 0
def r1 := findReg b 1
def i0 := findCond b 0
def i0t := thenOf i0
def i0e := elseOf i0
def r2 := findReg b 2
def r3 := findReg b 3
def r4 := findReg b 4
def k0 := findBlk b 0
def l0 := loopOf k0
def L0 (x0 x3 x4 : AV) (m : Mem) (K : List Item) : Option Res := den prog ann 78 (.code l0 :: .inLoop l0 :: .inBlock 0 :: K) ⟨[(0, x0), (3, x3), (4, x4)], 25, m⟩
def r5 := findReg b 5
def i1 := findCond b 1
def i1t := thenOf i1
def i1e := elseOf i1
def k1 := findBlk b 1
def r7 := findReg b 7
def r6 := findReg b 6
def r8 := findReg b 8
theorem b_eq : den prog ann 78 (.code b :: K) s = den prog ann 78 (.code r0 :: .code r1 :: .code i0 :: .code r3 :: .code r4 :: .code k0 :: .code r8 :: .code .ret :: K) s := den_flat hf (l := [r0, r1, i0, r3, r4, k0, r8, .ret]) (by kernel_rfl) K s
theorem r0_eq : den prog ann 78 (.code r0 :: K) s = mreg prog ann 78 none [] none [] [qF 2 fun s => some (.int .i64 0)] K s := (den_reg hf _ K s).trans (by kernel_rfl)
theorem r1_eq : den prog ann 78 (.code r1 :: K) s = mreg prog ann 78 none [] none [] [qC 5 0,qA 6 lenSl 5,qF 7 fun s => binA prog .lss 3 (s.get 6) (.int .i64 1)] K s := (den_reg hf _ K s).trans (by kernel_rfl)
theorem i0_eq : den prog ann 78 (.code i0 :: K) s = ifV prog ann 78 7 i0t i0e K s (s.get 7) := den_if hf (by kernel_rfl) K s
theorem i0t_eq : den prog ann 78 (.code i0t :: K) s = den prog ann 78 (.code r2 :: K) s := den_flat hf (l := [r2]) (by kernel_rfl) K s
theorem i0e_eq : den prog ann 78 (.code i0e :: K) s = den prog ann 78 (K) s := den_flat hf (l := []) (by kernel_rfl) K s
theorem r3_eq : den prog ann 78 (.code r3 :: K) s = mreg prog ann 78 (some [0]) [] none [] [qC 9 0,qF 10 fun s => idxSl 1 (s.get 9) (.int .i64 0),qA 11 (loadF false 1) 10,qC 3 11] K s := (den_reg hf _ K s).trans (by kernel_rfl)
theorem r4_eq : den prog ann 78 (.code r4 :: K) s = mreg prog ann 78 none [] none [] [qF 4 fun s => some (.int .i64 1)] K s := (den_reg hf _ K s).trans (by kernel_rfl)
theorem k0_eq (K : List Item) (t : List (Nat × AV)) (m : Mem) : den prog ann 78 (.code k0 :: K) ⟨t, 25, m⟩ = L0 (get t 0) (get t 3) (get t 4) m K := den_loop_enter hf (b := l0) (id := 5) (l := [0, 3, 4]) (by kernel_rfl) (by kernel_rfl) (by kernel_rfl) K _
theorem l0_eq (K : List Item) (t : List (Nat × AV)) (m : Mem) : den prog ann 78 (.inLoop l0 :: .inBlock 0 :: K) ⟨t, 25, m⟩ = L0 (get t 0) (get t 3) (get t 4) m K := den_loop_again hf (id := 5) (l := [0, 3, 4]) (by kernel_rfl) (by kernel_rfl) (.inBlock 0 :: K) _
theorem L0_eq (x0 x3 x4 : AV) (m : Mem) (K : List Item) : L0 x0 x3 x4 m K = den prog ann 78 (.code r5 :: .code i1 :: .code k1 :: .code r6 :: .inLoop l0 :: .inBlock 0 :: K) ⟨[(0, x0), (3, x3), (4, x4)], 25, m⟩ := den_flat hf (l := [r5, i1, k1, r6]) (by kernel_rfl) _ _
theorem r5_eq : den prog ann 78 (.code r5 :: K) s = mreg prog ann 78 (some [0, 3, 4]) [] none [] [qC 12 4,qC 13 0,qA 14 lenSl 13,qB 15 (binA prog .lss 3) 12 14] K s := (den_reg hf _ K s).trans (by kernel_rfl)
theorem i1_eq : den prog ann 78 (.code i1 :: K) s = ifV prog ann 78 15 i1t i1e K s (s.get 15) := den_if hf (by kernel_rfl) K s
theorem i1t_eq : den prog ann 78 (.code i1t :: K) s = den prog ann 78 (K) s := den_flat hf (l := []) (by kernel_rfl) K s
theorem i1e_eq : den prog ann 78 (.code i1e :: K) s = den prog ann 78 (.code (.exit 0) :: K) s := den_flat hf (l := [(.exit 0)]) (by kernel_rfl) K s
theorem k1_eq : den prog ann 78 (.code k1 :: K) s = den prog ann 78 (.code r7 :: .inBlock 1 :: K) s := den_blk hf (b := blkOf k1) (l := [r7]) (by kernel_rfl) (by kernel_rfl) K s
theorem r7_eq : den prog ann 78 (.code r7 :: K) s = mreg prog ann 78 none [] none [] [qC 18 3,qC 19 0,qC 20 4,qB 21 (idxSl 1) 19 20,qA 22 (loadF false 1) 21,qF 23 fun s => foldA min2A (s.get 18) [(s.get 22)],qC 3 23] K s := (den_reg hf _ K s).trans (by kernel_rfl)
theorem r6_eq : den prog ann 78 (.code r6 :: K) s = mreg prog ann 78 (some [0, 3, 4]) [] none [] [qC 16 4,qF 17 fun s => binA prog .add 3 (s.get 16) (.int .i64 1),qC 4 17] K s := (den_reg hf _ K s).trans (by kernel_rfl)
theorem r8_eq : den prog ann 78 (.code r8 :: K) s = mreg prog ann 78 (some [3]) [] none [] [qC 24 3,qC 2 24] K s := (den_reg hf _ K s).trans (by kernel_rfl)
theorem ret_eq : den prog ann 78 (.code .ret :: K) s = finM true [fun s => some (s.get 2)] s := (den_ret hf K s).trans (by kernel_rfl)
theorem nil_eq (s : St) : den prog ann 78 [] s = finM true [fun s => some (s.get 2)] s := (den_nil hf s).trans (by kernel_rfl)
theorem inBlock_eq (id : Nat) (K : List Item) (s : St) : den prog ann 78 (.inBlock id :: K) s = den prog ann 78 K s := den_inBlock hf id K s
theorem exit_eq (id : Nat) (K : List Item) (s : St) : den prog ann 78 (.code (.exit id) :: K) s = exitV prog ann 78 (exitTo id K) s := den_exitV hf id K s
theorem call_eq (v0 : AV) (m : Mem) (h : closedL [v0] = true) : denC prog ann 78 [v0] m = (den prog ann 78 [.code b] ⟨[(0, v0)], 25, Mem.empty⟩).bind fun r => some (r.1, m) := (denC_pure hf (b := b) (by kernel_rfl) (by kernel_rfl) (by kernel_rfl) h m).trans (by kernel_rfl)
theorem pure_eq : (ann 78).pure = true := by kernel_rfl
attribute [simp] b_eq r0_eq r1_eq i0_eq i0t_eq i0e_eq r3_eq r4_eq k0_eq l0_eq r5_eq i1_eq i1t_eq i1e_eq k1_eq r7_eq r6_eq r8_eq ret_eq nil_eq inBlock_eq exit_eq pure_eq
end
end slices_Min_int
namespace slices_Max_int
noncomputable section
variable (K : List Item) (s : St)
def b : Code := (Try.f79.body).getD .skip
theorem hf : prog.funcs[79]? = some Try.f79 := by kernel_rfl
def r0 := findReg b 0
def r1 := findReg b 1
def i0 := findCond b 0
def i0t := thenOf i0
def i0e := elseOf i0
def r2 := findReg b 2
def r3 := findReg b 3
def r4 := findReg b 4
def k0 := findBlk b 0
def l0 := loopOf k0
def L0 (x0 x3 x4 : AV) (m : Mem) (K : List Item) : Option Res := den prog ann 79 (.code l0 :: .inLoop l0 :: .inBlock 0 :: K) ⟨[(0, x0), (3, x3), (4, x4)], 25, m⟩
def r5 := findReg b 5
def i1 := findCond b 1
def i1t := thenOf i1
def i1e := elseOf i1
def k1 := findBlk b 1
def r7 := findReg b 7
def r6 := findReg b 6
def r8 := findReg b 8
theorem b_eq : den prog ann 79 (.code b :: K) s = den prog ann 79 (.code r0 :: .code r1 :: .code i0 :: .code r3 :: .code r4 :: .code k0 :: .code r8 :: .code .ret :: K) s := den_flat hf (l := [r0, r1, i0, r3, r4, k0, r8, .ret]) (by kernel_rfl) K s
theorem r0_eq : den prog ann 79 (.code r0 :: K) s = mreg prog ann 79 none [] none [] [qF 2 fun s => some (.int .i64 0)] K s := (den_reg hf _ K s).trans (by kernel_rfl)
theorem r1_eq : den prog ann 79 (.code r1 :: K) s = mreg prog ann 79 none [] none [] [qC 5 0,qA 6 lenSl 5,qF 7 fun s => binA prog .lss 3 (s.get 6) (.int .i64 1)] K s := (den_reg hf _ K s).trans (by kernel_rfl)
theorem i0_eq : den prog ann 79 (.code i0 :: K) s = ifV prog ann 79 7 i0t i0e K s (s.get 7) := den_if hf (by kernel_rfl) K s
theorem i0t_eq : den prog ann 79 (.code i0t :: K) s = den prog ann 79 (.code r2 :: K) s := den_flat hf (l := [r2]) (by kernel_rfl) K s
theorem i0e_eq : den prog ann 79 (.code i0e :: K) s = den prog ann 79 (K) s := den_flat hf (l := []) (by kernel_rfl) K s
theorem r3_eq : den prog ann 79 (.code r3 :: K) s = mreg prog ann 79 (some [0]) [] none [] [qC 9 0,qF 10 fun s => idxSl 1 (s.get 9) (.int .i64 0),qA 11 (loadF false 1) 10,qC 3 11] K s := (den_reg hf _ K s).trans (by kernel_rfl)
theorem r4_eq : den prog ann 79 (.code r4 :: K) s = mreg prog ann 79 none [] none [] [qF 4 fun s => some (.int .i64 1)] K s := (den_reg hf _ K s).trans (by kernel_rfl)
theorem k0_eq (K : List Item) (t : List (Nat × AV)) (m : Mem) : den prog ann 79 (.code k0 :: K) ⟨t, 25, m⟩ = L0 (get t 0) (get t 3) (get t 4) m K := den_loop_enter hf (b := l0) (id := 5) (l := [0, 3, 4]) (by kernel_rfl) (by kernel_rfl) (by kernel_rfl) K _
theorem l0_eq (K : List Item) (t : List (Nat × AV)) (m : Mem) : den prog ann 79 (.inLoop l0 :: .inBlock 0 :: K) ⟨t, 25, m⟩ = L0 (get t 0) (get t 3) (get t 4) m K := den_loop_again hf (id := 5) (l := [0, 3, 4]) (by kernel_rfl) (by kernel_rfl) (.inBlock 0 :: K) _
theorem L0_eq (x0 x3 x4 : AV) (m : Mem) (K : List Item) : L0 x0 x3 x4 m K = den prog ann 79 (.code r5 :: .code i1 :: .code k1 :: .code r6 :: .inLoop l0 :: .inBlock 0 :: K) ⟨[(0, x0), (3, x3), (4, x4)], 25, m⟩ := den_flat hf (l := [r5, i1, k1, r6]) (by kernel_rfl) _ _
theorem r5_eq : den prog ann 79 (.code r5 :: K) s = mreg prog ann 79 (some [0, 3, 4]) [] none [] [qC 12 4,qC 13 0,qA 14 lenSl 13,qB 15 (binA prog .lss 3) 12 14] K s := (den_reg hf _ K s).trans (by kernel_rfl)
theorem i1_eq : den prog ann 79 (.code i1 :: K) s = ifV prog ann 79 15 i1t i1e K s (s.get 15) := den_if hf (by kernel_rfl) K s
theorem i1t_eq : den prog ann 79 (.code i1t :: K) s = den prog ann 79 (K) s := den_flat hf (l := []) (by kernel_rfl) K s
theorem i1e_eq : den prog ann 79 (.code i1e :: K) s = den prog ann 79 (.code (.exit 0) :: K) s := den_flat hf (l := [(.exit 0)]) (by kernel_rfl) K s
theorem k1_eq : den prog ann 79 (.code k1 :: K) s = den prog ann 79 (.code r7 :: .inBlock 1 :: K) s := den_blk hf (b := blkOf k1) (l := [r7]) (by kernel_rfl) (by kernel_rfl) K s
theorem r7_eq : den prog ann 79 (.code r7 :: K) s = mreg prog ann 79 none [] none [] [qC 18 3,qC 19 0,qC 20 4,qB 21 (idxSl 1) 19 20,qA 22 (loadF false 1) 21,qF 23 fun s => foldA max2A (s.get 18) [(s.get 22)],qC 3 23] K s := (den_reg hf _ K s).trans (by kernel_rfl)
theorem r6_eq : den prog ann 79 (.code r6 :: K) s = mreg prog ann 79 (some [0, 3, 4]) [] none [] [qC 16 4,qF 17 fun s => binA prog .add 3 (s.get 16) (.int .i64 1),qC 4 17] K s := (den_reg hf _ K s).trans (by kernel_rfl)
theorem r8_eq : den prog ann 79 (.code r8 :: K) s = mreg prog ann 79 (some [3]) [] none [] [qC 24 3,qC 2 24] K s := (den_reg hf _ K s).trans (by kernel_rfl)
theorem ret_eq : den prog ann 79 (.code .ret :: K) s = finM true [fun s => some (s.get 2)] s := (den_ret hf K s).trans (by kernel_rfl)
theorem nil_eq (s : St) : den prog ann 79 [] s = finM true [fun s => some (s.get 2)] s := (den_nil hf s).trans (by kernel_rfl)
theorem inBlock_eq (id : Nat) (K : List Item) (s : St) : den prog ann 79 (.inBlock id :: K) s = den prog ann 79 K s := den_inBlock hf id K s
theorem exit_eq (id : Nat) (K : List Item) (s : St) : den prog ann 79 (.code (.exit id) :: K) s = exitV prog ann 79 (exitTo id K) s := den_exitV hf id K s
theorem call_eq (v0 : AV) (m : Mem) (h : closedL [v0] = true) : denC prog ann 79 [v0] m = (den prog ann 79 [.code b] ⟨[(0, v0)], 25, Mem.empty⟩).bind fun r => some (r.1, m) := (denC_pure hf (b := b) (by kernel_rfl) (by kernel_rfl) (by kernel_rfl) h m).trans (by kernel_rfl)
theorem pure_eq : (ann 79).pure = true := by kernel_rfl
attribute [simp] b_eq r0_eq r1_eq i0_eq i0t_eq i0e_eq r3_eq r4_eq k0_eq l0_eq r5_eq i1_eq i1t_eq i1e_eq k1_eq r7_eq r6_eq r8_eq ret_eq nil_eq inBlock_eq exit_eq pure_eq
end
end slices_Max_int
end Go.Proofs.Ythnpflkpjimkfaa

/-
  THE LEAST AND THE GREATEST NUMBER OF A LIST. Conditions: none.
-/
namespace Go.Proofs.Ythnpflkpjimkfaa
open Go.AM
open Go.Proofs.Try (prog)
set_option linter.all false
set_option maxRecDepth 100000
set_option maxHeartbeats 4000000
def maxL (c : List Int) : Int := (c.drop 1).foldl max (nth c 0)
theorem max_loop {w : AV} {c : List Int} (hw0 : IsInts w c) (hcl : c.length ≤ 1001) : ∀ (k i : Nat) (x : Int) (m : Mem), i + k = c.length →
    slices_Max_int.L0 w (.int .i64 x) (.int .i64 i) m [.code slices_Max_int.r8, .code .ret] = some (.int .i64 ((c.drop i).foldl max x), Mem.empty) := by
  intro k
  induction k with
  | zero =>
    intro i x m h1
    have e : i = c.length := by omega
    subst e
    rw [slices_Max_int.L0_eq]
    simp [hw0.len]
    done
  | succ k ih =>
    intro i x m h1
    have hi : i < c.length := by omega
    have hw : IntKind.wrap .i64 ((i : Int) + 1) = (i : Int) + 1 := wrap_id (by omega) (by omega)
    have hst := ih (i + 1) (max x (nth c i)) m (by omega)
    simp only [Int.natCast_add, Int.cast_ofNat_Int] at hst
    rw [drop_nth hi, List.foldl_cons, slices_Max_int.L0_eq]
    simp [hi, hw0.len, hw0.idx hi, ints_head hi, hw, hst]
    done
theorem max_spec {w : AV} {c : List Int} (hw0 : IsInts w c) (hcl : c.length ≤ 1001) (h0 : 0 < c.length) (m : Mem) : denC prog ann 79 [w] m = some (.int .i64 (maxL c), m) := by
  have lp := max_loop hw0 hcl (c.length - 1) 1 (nth c 0) Mem.empty (by omega)
  simp only [Int.cast_ofNat_Int] at lp
  have i0 := hw0.idx h0 .i64
  have i1 := ints_head h0
  simp only [Int.ofNat_zero, Int.cast_ofNat_Int, List.drop_zero] at i0 i1
  rw [slices_Max_int.call_eq _ _ (by simp [hw0.closed])]
  have hn : ¬ (c.length : Int) < 1 := by omega
  simp [hw0.len, hn, i0, i1, lp, maxL]
  done
def minL (c : List Int) : Int := (c.drop 1).foldl min (nth c 0)
theorem min_loop {w : AV} {c : List Int} (hw0 : IsInts w c) (hcl : c.length ≤ 1001) : ∀ (k i : Nat) (x : Int) (m : Mem), i + k = c.length →
    slices_Min_int.L0 w (.int .i64 x) (.int .i64 i) m [.code slices_Min_int.r8, .code .ret] = some (.int .i64 ((c.drop i).foldl min x), Mem.empty) := by
  intro k
  induction k with
  | zero =>
    intro i x m h1
    have e : i = c.length := by omega
    subst e
    rw [slices_Min_int.L0_eq]
    simp [hw0.len]
    done
  | succ k ih =>
    intro i x m h1
    have hi : i < c.length := by omega
    have hw : IntKind.wrap .i64 ((i : Int) + 1) = (i : Int) + 1 := wrap_id (by omega) (by omega)
    have hst := ih (i + 1) (min x (nth c i)) m (by omega)
    simp only [Int.natCast_add, Int.cast_ofNat_Int] at hst
    rw [drop_nth hi, List.foldl_cons, slices_Min_int.L0_eq]
    simp [hi, hw0.len, hw0.idx hi, ints_head hi, hw, hst]
    done
theorem min_spec {w : AV} {c : List Int} (hw0 : IsInts w c) (hcl : c.length ≤ 1001) (h0 : 0 < c.length) (m : Mem) : denC prog ann 78 [w] m = some (.int .i64 (minL c), m) := by
  have lp := min_loop hw0 hcl (c.length - 1) 1 (nth c 0) Mem.empty (by omega)
  simp only [Int.cast_ofNat_Int] at lp
  have i0 := hw0.idx h0 .i64
  have i1 := ints_head h0
  simp only [Int.ofNat_zero, Int.cast_ofNat_Int, List.drop_zero] at i0 i1
  rw [slices_Min_int.call_eq _ _ (by simp [hw0.closed])]
  have hn : ¬ (c.length : Int) < 1 := by omega
  simp [hw0.len, hn, i0, i1, lp, minL]
  done
end Go.Proofs.Ythnpflkpjimkfaa

/-
  BRANDS AS VALUES: rows of numbers, truth values, bytes of a string. Conditions: none.
-/
namespace Go.Proofs.Ythnpflkpjimkfaa
open Go.AM
open Go.Proofs.Try (prog)
set_option linter.all false
set_option maxRecDepth 100000
set_option maxHeartbeats 4000000
def bls (bs : List Bool) : List AV := bs.map fun b => AV.bool b
def bnth (bs : List Bool) (i : Nat) : Bool := bs.getD i false
@[simp] theorem bls_len (bs : List Bool) : (bls bs).length = bs.length := by simp [bls]
@[simp] theorem bls_closed (bs : List Bool) : closedL (bls bs) = true := by induction bs <;> simp [bls, closedL, AV.closed] at *; assumption
@[simp] theorem bls_take (bs : List Bool) (n : Nat) : (bls bs).take n = bls (bs.take n) := by simp [bls, List.map_take]
theorem bls_head {bs : List Bool} {i : Nat} (h : i < bs.length) : ((bls bs).drop i).head? = some (.bool (bnth bs i)) := by
  simp [bls, bnth, h]
def IsB (v : AV) (bs : List Bool) : Prop := (v = .nils ∧ bs = []) ∨ ∃ ex, v = .fsl ex bs.length (bls bs)
theorem IsB.closed {v : AV} {l : List Bool} (h : IsB v l) : v.closed = true := by rcases h with ⟨rfl, _⟩ | ⟨_, rfl⟩ <;> rfl
theorem IsB.len {v : AV} {l : List Bool} (h : IsB v l) : lenSl v = some (.int .i64 l.length) := by rcases h with ⟨rfl, rfl⟩ | ⟨_, rfl⟩ <;> simp
theorem IsB.idx {v : AV} {l : List Bool} (h : IsB v l) {i : Nat} (hi : i < l.length) (k : IntKind) : idxSl 1 v (.int k (i : Int)) = some (.fptr ((bls l).drop i)) := by
  rcases h with ⟨rfl, rfl⟩ | ⟨_, rfl⟩
  · simp at hi
  · simp [hi]
def pth (ps : List AV) (i : Nat) : AV := ps.getD i .undef
structure IsRows (v : AV) (ps : List AV) (rows : List (List Int)) : Prop where
  len0 : ps.length = rows.length
  row : ∀ i, i < rows.length → IsInts (pth ps i) (cth rows i)
  val : (v = .nils ∧ rows = []) ∨ ∃ ex, v = .fsl ex rows.length ps
theorem IsRows.closed {v : AV} {ps : List AV} {rows : List (List Int)} (h : IsRows v ps rows) : v.closed = true := by rcases h.val with ⟨rfl, _⟩ | ⟨_, rfl⟩ <;> rfl
theorem IsRows.len {v : AV} {ps : List AV} {rows : List (List Int)} (h : IsRows v ps rows) : lenSl v = some (.int .i64 rows.length) := by rcases h.val with ⟨rfl, rfl⟩ | ⟨_, rfl⟩ <;> simp
theorem IsRows.idx {v : AV} {ps : List AV} {rows : List (List Int)} (h : IsRows v ps rows) {i : Nat} (hi : i < rows.length) (k : IntKind) : idxSl 1 v (.int k (i : Int)) = some (.fptr (ps.drop i)) := by
  rcases h.val with ⟨rfl, rfl⟩ | ⟨_, rfl⟩
  · simp at hi
  · simp [hi]
theorem IsRows.head {v : AV} {ps : List AV} {rows : List (List Int)} (h : IsRows v ps rows) {i : Nat} (hi : i < rows.length) : (ps.drop i).head? = some (pth ps i) := by
  have := h.len0
  have hp : i < ps.length := by omega
  simp [pth, hp]
def byt (s : List UInt8) (i : Nat) : Nat := (s.getD i 0).toNat
theorem byt_lt (s : List UInt8) (i : Nat) : byt s i < 256 := (s.getD i 0).toNat_lt
theorem str_idx {s : List UInt8} {i : Nat} (h : i < s.length) (k : IntKind) : idxStr (.str s) (.int k (i : Int)) = some (.int .u8 (byt s i : Nat)) := by
  simp [idxStr, inR, h, byt]
theorem wrap8 {x : Int} (h : 0 ≤ x ∧ x < 256) : IntKind.wrap .u8 x = x := by
  simp [IntKind.wrap, IntKind.min, IntKind.max, IntKind.signed, IntKind.bits]
  omega
def rowOk (n k : Nat) (r : List Int) : Bool := decide (r.length = k) && r.all fun x => decide (0 ≤ x) && decide (x < n)
def validB (rows : List (List Int)) (good : List Bool) : Bool :=
  decide (1 ≤ rows.length ∧ rows.length ≤ 6) && (decide (good.length = rows.length) && (decide (1 ≤ (cth rows 0).length ∧ (cth rows 0).length ≤ 3) && rows.all (rowOk rows.length (cth rows 0).length)))
end Go.Proofs.Ythnpflkpjimkfaa

/-
  VALID BRANDS: the code's test and the specification's are one. Conditions: none.
-/
namespace Go.Proofs.Ythnpflkpjimkfaa
open Go.AM
open Go.Proofs.Try (prog)
set_option linter.all false
set_option maxRecDepth 100000
set_option maxHeartbeats 4000000
theorem IsRows.one {v : AV} {ps : List AV} {rows : List (List Int)} (h : IsRows v ps rows) : v.one = true := by rcases h.val with ⟨rfl, _⟩ | ⟨_, rfl⟩ <;> rfl
theorem IsB.one {v : AV} {l : List Bool} (h : IsB v l) : v.one = true := by rcases h with ⟨rfl, _⟩ | ⟨_, rfl⟩ <;> rfl
theorem le_fmin : ∀ (L : List Int) (x a : Int), a ≤ L.foldl min x ↔ a ≤ x ∧ ∀ y ∈ L, a ≤ y
  | [], x, a => by simp
  | b :: L, x, a => by
    rw [List.foldl_cons, le_fmin L]
    constructor
    · rintro ⟨h1, h2⟩
      refine ⟨by omega, fun y hy => ?_⟩
      rcases List.mem_cons.1 hy with rfl | hy
      · omega
      · exact h2 y hy
    · rintro ⟨h1, h2⟩
      have := h2 b (by simp)
      exact ⟨by omega, fun y hy => h2 y (by simp [hy])⟩
theorem fmax_lt : ∀ (L : List Int) (x a : Int), L.foldl max x < a ↔ x < a ∧ ∀ y ∈ L, y < a
  | [], x, a => by simp
  | b :: L, x, a => by
    rw [List.foldl_cons, fmax_lt L]
    constructor
    · rintro ⟨h1, h2⟩
      refine ⟨by omega, fun y hy => ?_⟩
      rcases List.mem_cons.1 hy with rfl | hy
      · omega
      · exact h2 y hy
    · rintro ⟨h1, h2⟩
      have := h2 b (by simp)
      exact ⟨by omega, fun y hy => h2 y (by simp [hy])⟩
theorem cons_nth {c : List Int} (h : 0 < c.length) : c = nth c 0 :: c.drop 1 := by
  have := drop_nth (l := c) (i := 0) h
  simpa using this
theorem rowOk_iff {r : List Int} {n k : Nat} (hk : r.length = k) (h0 : 0 < k) : rowOk n k r = true ↔ ¬ minL r < 0 ∧ ¬ (n : Int) ≤ maxL r := by
  have h1 := le_fmin (r.drop 1) (nth r 0) 0
  have h2 := fmax_lt (r.drop 1) (nth r 0) n
  have hc := cons_nth (c := r) (by omega)
  unfold rowOk minL maxL
  simp only [hk, decide_true, Bool.true_and, List.all_eq_true, Bool.and_eq_true, decide_eq_true_eq]
  have e : (∀ x ∈ r, 0 ≤ x ∧ x < (n : Int)) ↔ (0 ≤ nth r 0 ∧ ∀ y ∈ r.drop 1, 0 ≤ y) ∧ (nth r 0 < n ∧ ∀ y ∈ r.drop 1, y < (n : Int)) := by
    constructor
    · intro h
      rw [hc] at h
      exact ⟨⟨(h _ (by simp)).1, fun y hy => (h y (List.mem_cons_of_mem _ hy)).1⟩, (h _ (by simp)).2, fun y hy => (h y (List.mem_cons_of_mem _ hy)).2⟩
    · rintro ⟨⟨a, b⟩, c, d⟩ x hx
      rw [hc] at hx
      rcases List.mem_cons.1 hx with rfl | hx
      · exact ⟨a, c⟩
      · exact ⟨b x hx, d x hx⟩
  rw [e, ← h1, ← h2]
  omega
theorem drop_cth {rows : List (List Int)} {i : Nat} (h : i < rows.length) : rows.drop i = cth rows i :: rows.drop (i + 1) := by
  rw [List.drop_eq_getElem_cons h]
  congr 1
  simp [cth, h]
theorem val_loop {nv : AV} {ps : List AV} {rows : List (List Int)} {n k : Nat} (hn : IsRows nv ps rows) (hl : rows.length ≤ 1000) (hr : ∀ i, i < rows.length → (cth rows i).length ≤ 1000) (hk : 1 ≤ k) : ∀ (j i : Nat) (m : Mem), i + j = rows.length →
    brand_valid.L0 (.int .i64 n) (.int .i64 k) nv (.int .i64 rows.length) (.int .i64 i) m [.code brand_valid.r13, .code .ret] = some (.bool ((rows.drop i).all (rowOk n k)), Mem.empty) := by
  intro j
  induction j with
  | zero =>
    intro i m h1
    have e : i = rows.length := by omega
    subst e
    rw [brand_valid.L0_eq]
    simp
    done
  | succ j ih =>
    intro i m h1
    have hi : i < rows.length := by omega
    have hw : IntKind.wrap .i64 ((i : Int) + 1) = (i : Int) + 1 := wrap_id (by omega) (by omega)
    have iw := hn.row i hi
    have hrl := hr i hi
    have st := fun m => ih (i + 1) m (by omega)
    simp only [Int.natCast_add, Int.cast_ofNat_Int] at st
    rw [drop_cth hi, List.all_cons, brand_valid.L0_eq]
    by_cases c1 : (cth rows i).length = k
    · have c1' : ((cth rows i).length : Int) = k := by omega
      have hmn := fun m => min_spec iw (by omega) (by omega) m
      have hmx := fun m => max_spec iw (by omega) (by omega) m
      have hro := rowOk_iff (r := cth rows i) (n := n) c1 (by omega)
      by_cases c2 : minL (cth rows i) < 0
      · have : rowOk n k (cth rows i) = false := by
          cases h : rowOk n k (cth rows i) with
          | false => rfl
          | true => exact absurd c2 (hro.1 h).1
        simp [hi, hn.idx hi, hn.head hi, iw.len, c1, c1', iw.closed, hmn, c2, this]
        done
      · by_cases c3 : (n : Int) ≤ maxL (cth rows i)
        · have : rowOk n k (cth rows i) = false := by
            cases h : rowOk n k (cth rows i) with
            | false => rfl
            | true => exact absurd c3 (hro.1 h).2
          simp [hi, hn.idx hi, hn.head hi, iw.len, c1, c1', iw.closed, hmn, hmx, c2, c3, this]
          done
        · have : rowOk n k (cth rows i) = true := hro.2 ⟨c2, c3⟩
          simp [hi, hn.idx hi, hn.head hi, iw.len, c1, c1', iw.closed, hmn, hmx, c2, c3, this, hw, st]
          done
    · have c1' : ¬ ((cth rows i).length : Int) = k := by omega
      have : rowOk n k (cth rows i) = false := by simp [rowOk, c1]
      simp [hi, hn.idx hi, hn.head hi, iw.len, c1, c1', this]
      done
theorem valid_spec {nv gv : AV} {ps : List AV} {rows : List (List Int)} {good : List Bool} (hn : IsRows nv ps rows) (hg : IsB gv good) (hl : rows.length ≤ 1000) (hgl : good.length ≤ 1000) (hr : ∀ i, i < rows.length → (cth rows i).length ≤ 1000) (m : Mem) :
    denC prog ann 55 [.agg [nv, gv]] m = some (.bool (validB rows good), m) := by
  rw [brand_valid.call_eq _ _ (by simp [hn.closed, hg.closed])]
  unfold validB
  by_cases c1 : rows.length < 1
  · have : ¬ 1 ≤ rows.length := by omega
    simp [hn.one, hg.one, hn.closed, hg.closed, hn.len, c1, show (rows.length : Int) < 1 by omega, show ¬ 1 ≤ rows.length by omega]
    done
  · by_cases c2 : 6 < rows.length
    · simp [hn.one, hg.one, hn.closed, hg.closed, hn.len, show ¬ (rows.length : Int) < 1 by omega, show (6 : Int) < rows.length by omega, show ¬ rows.length ≤ 6 by omega]
      done
    · by_cases c3 : good.length = rows.length
      · have hi : 0 < rows.length := by omega
        have iw := hn.row 0 hi
        have i0 := hn.idx hi .i64
        have h0 := hn.head hi
        simp only [Int.ofNat_zero, Int.cast_ofNat_Int, List.drop_zero] at i0 h0
        have hr0 := hr 0 hi
        by_cases c4 : (cth rows 0).length < 1
        · simp [hn.one, hg.one, hn.closed, hg.closed, hn.len, hg.len, c3, show ¬ (rows.length : Int) < 1 by omega, show ¬ (6 : Int) < rows.length by omega, i0, h0, iw.len, show ((cth rows 0).length : Int) < 1 by omega, show ¬ 1 ≤ (cth rows 0).length by omega, show 1 ≤ rows.length by omega, show rows.length ≤ 6 by omega]
          done
        · by_cases c5 : 3 < (cth rows 0).length
          · simp [hn.one, hg.one, hn.closed, hg.closed, hn.len, hg.len, c3, show ¬ (rows.length : Int) < 1 by omega, show ¬ (6 : Int) < rows.length by omega, i0, h0, iw.len, show ¬ ((cth rows 0).length : Int) < 1 by omega, show (3 : Int) < (cth rows 0).length by omega, show ¬ (cth rows 0).length ≤ 3 by omega, show 1 ≤ rows.length by omega, show rows.length ≤ 6 by omega]
            done
          · have lp := fun m => val_loop (n := rows.length) (k := (cth rows 0).length) hn hl hr (by omega) rows.length 0 m (by omega)
            simp only [Int.ofNat_zero, Int.cast_ofNat_Int, List.drop_zero] at lp
            simp [hn.one, hg.one, hn.closed, hg.closed, hn.len, hg.len, c3, show ¬ (rows.length : Int) < 1 by omega, show ¬ (6 : Int) < rows.length by omega, i0, h0, iw.len, show ¬ ((cth rows 0).length : Int) < 1 by omega, show ¬ (3 : Int) < (cth rows 0).length by omega, show (cth rows 0).length ≤ 3 by omega, show 1 ≤ (cth rows 0).length by omega, show 1 ≤ rows.length by omega, show rows.length ≤ 6 by omega, lp]
            done
      · simp [hn.one, hg.one, hn.closed, hg.closed, hn.len, hg.len, c3, show ¬ (rows.length : Int) < 1 by omega, show ¬ (6 : Int) < rows.length by omega, show ¬ (good.length : Int) = rows.length by omega]
        done
end Go.Proofs.Ythnpflkpjimkfaa

/-
  WORDS: whether a string is one, and the state to which it leads: the code's and the specification's. Conditions: none.
-/
namespace Go.Proofs.Ythnpflkpjimkfaa
open Go.AM
open Go.Proofs.Try (prog)
set_option linter.all false
set_option maxRecDepth 100000
set_option maxHeartbeats 4000000
structure VB (rows : List (List Int)) (good : List Bool) (k : Nat) : Prop where
  n1 : 1 ≤ rows.length
  n6 : rows.length ≤ 6
  gl : good.length = rows.length
  k1 : 1 ≤ k
  k3 : k ≤ 3
  rl : ∀ i, i < rows.length → (cth rows i).length = k
  rg : ∀ i j, i < rows.length → j < k → 0 ≤ nth (cth rows i) j ∧ nth (cth rows i) j < rows.length
theorem VB.of {rows : List (List Int)} {good : List Bool} (h : validB rows good = true) : VB rows good (cth rows 0).length := by
  unfold validB at h
  simp only [Bool.and_eq_true, decide_eq_true_eq, List.all_eq_true] at h
  obtain ⟨⟨h1, h2⟩, h3, ⟨h4, h5⟩, h6⟩ := h
  have key : ∀ i, i < rows.length → rowOk rows.length (cth rows 0).length (cth rows i) = true := fun i hi => h6 _ (cth_mem hi)
  refine ⟨h1, h2, h3, h4, h5, fun i hi => ?_, fun i j hi hj => ?_⟩
  · have := key i hi
    unfold rowOk at this
    simp only [Bool.and_eq_true, decide_eq_true_eq] at this
    exact this.1
  · have := key i hi
    unfold rowOk at this
    simp only [Bool.and_eq_true, decide_eq_true_eq, List.all_eq_true] at this
    have hm : nth (cth rows i) j ∈ cth rows i := by rw [← nth_get (by omega : j < (cth rows i).length)]; exact List.getElem_mem _
    exact this.2 _ hm
def letB (k : Nat) (s : List UInt8) (i : Nat) : Bool := decide (97 ≤ byt s i) && decide (byt s i - 97 < k)
def letF (k : Nat) (s : List UInt8) (j i : Nat) : Bool := (List.range' i j).all (letB k s)
theorem letF_succ (k : Nat) (s : List UInt8) (j i : Nat) : letF k s (j + 1) i = (letB k s i && letF k s j (i + 1)) := by simp [letF, List.range'_succ]
theorem sub97 {x : Nat} (h : 97 ≤ x) (h2 : x < 256) : IntKind.wrap .u8 ((x : Int) - 97) = ((x - 97 : Nat) : Int) := by
  rw [wrap8 (by omega)]; omega
def nx (rows : List (List Int)) (st a : Nat) : Nat := (nth (cth rows st) a).toNat
def goF (rows : List (List Int)) (s : List UInt8) : Nat → Nat → Nat → Nat
  | 0, _, st => st
  | j + 1, i, st => goF rows s j (i + 1) (nx rows st (byt s i - 97))
def goL (rows : List (List Int)) : List UInt8 → Nat → Nat
  | [], st => st
  | c :: r, st => goL rows r (nx rows st (c.toNat - 97))
theorem goF_goL (rows : List (List Int)) (s : List UInt8) : ∀ (j i st : Nat), i + j = s.length → goF rows s j i st = goL rows (s.drop i) st
  | 0, i, st, h => by rw [List.drop_of_length_le (by omega)]; rfl
  | j + 1, i, st, h => by
    have hi : i < s.length := by omega
    rw [List.drop_eq_getElem_cons hi, goL, goF, goF_goL rows s j (i + 1) _ (by omega)]
    congr 2
    simp [byt, hi]
theorem nx_lt {rows : List (List Int)} {good : List Bool} {k : Nat} (v : VB rows good k) {st a : Nat} (h : st < rows.length) (ha : a < k) : nx rows st a < rows.length ∧ nth (cth rows st) a = (nx rows st a : Nat) := by
  have := v.rg st a h ha
  unfold nx
  omega
theorem after_loop {nv gv : AV} {ps : List AV} {rows : List (List Int)} {good : List Bool} {k : Nat} (hn : IsRows nv ps rows) (v : VB rows good k) {s : List UInt8} (hs : s.length ≤ 1000000) : ∀ (j i st : Nat) (m : Mem), i + j = s.length → st < rows.length → letF k s j i = true →
    brand_after.L0 (.int .i64 st) (.str s) (.fptr [nv, gv]) (.int .i64 s.length) (.int .i64 i) m [.code brand_after.r6, .code .ret] = some (.int .i64 (goF rows s j i st : Nat), Mem.empty) := by
  intro j
  induction j with
  | zero =>
    intro i st m h1 hst hlt
    have e : i = s.length := by omega
    subst e
    rw [brand_after.L0_eq]
    simp [goF]
    done
  | succ j ih =>
    intro i st m h1 hst hlt
    have hi : i < s.length := by omega
    rw [letF_succ, Bool.and_eq_true, letB, Bool.and_eq_true, decide_eq_true_eq, decide_eq_true_eq] at hlt
    obtain ⟨⟨a1, a2⟩, a3⟩ := hlt
    have hwi : IntKind.wrap .i64 ((i : Int) + 1) = (i : Int) + 1 := wrap_id (by omega) (by omega)
    have hsub := sub97 a1 (byt_lt s i)
    have iw := hn.row st hst
    have hrl := v.rl st hst
    obtain ⟨b1, b2⟩ := nx_lt v hst a2
    have st' := fun m => ih (i + 1) _ m (by omega) b1 a3
    simp only [Int.natCast_add, Int.cast_ofNat_Int] at st'
    have hx := iw.idx (i := byt s i - 97) (by omega) .u8
    have hy := ints_head (l := cth rows st) (i := byt s i - 97) (by omega)
    rw [b2] at hy
    rw [goF, brand_after.L0_eq]
    simp [hi, str_idx hi, hn.idx hst, hn.head hst, hsub, hx, hy, hwi, st']
    done
theorem after_spec {nv gv : AV} {ps : List AV} {rows : List (List Int)} {good : List Bool} {k : Nat} (hn : IsRows nv ps rows) (hg : IsB gv good) (v : VB rows good k) {s : List UInt8} (hs : s.length ≤ 1000000) (hl : letF k s s.length 0 = true) {st : Nat} (hst : st < rows.length) (m : Mem) :
    denC prog ann 69 [.agg [nv, gv], .int .i64 st, .str s] m = some (.int .i64 (goL rows s st : Nat), m) := by
  rw [brand_after.call_eq _ _ _ _ (by simp [hn.closed, hg.closed])]
  have lp := fun m => after_loop (gv := gv) hn v hs s.length 0 st m (by omega) hst hl
  simp only [Int.ofNat_zero, Int.cast_ofNat_Int, goF_goL rows s s.length 0 st (by omega), List.drop_zero] at lp
  simp [hn.one, hg.one, hn.closed, hg.closed, lp]
  done
theorem goL_lt {rows : List (List Int)} {good : List Bool} {k : Nat} (v : VB rows good k) (s : List UInt8) : ∀ (j i st : Nat), i + j = s.length → st < rows.length → letF k s j i = true → goF rows s j i st < rows.length
  | 0, i, st, _, h, _ => h
  | j + 1, i, st, h1, h, hl => by
    rw [letF_succ, Bool.and_eq_true, letB, Bool.and_eq_true, decide_eq_true_eq, decide_eq_true_eq] at hl
    exact goL_lt v s j (i + 1) _ (by omega) (nx_lt v h hl.1.2).1 hl.2
end Go.Proofs.Ythnpflkpjimkfaa

/-
  ACCEPTS: the code's and the specification's; and what the laws cut off a brand and a string. Conditions: none.
-/
namespace Go.Proofs.Ythnpflkpjimkfaa
open Go.AM
open Go.Proofs.Try (prog)
set_option linter.all false
set_option maxRecDepth 100000
set_option maxHeartbeats 4000000
theorem u4 : prog.underlying 4 = some .bool := by kernel_rfl
@[simp] theorem eql_bool (a b : Bool) : binA prog .eql 4 (.bool a) (.bool b) = some (.bool (a == b)) := by simp [binA, eqT, eqA, u4]
end Go.Proofs.Ythnpflkpjimkfaa

/-
  WHAT THE LAWS CUT OFF A BRAND AND A STRING. Conditions: none.
-/
namespace Go.Proofs.Ythnpflkpjimkfaa
open Go.AM
open Go.Proofs.Try (prog)
set_option linter.all false
set_option maxRecDepth 100000
set_option maxHeartbeats 4000000
end Go.Proofs.Ythnpflkpjimkfaa

/-
  THE LAWS' EXAMPLES HOLD. Conditions: none.
-/
namespace Go.Proofs.Ythnpflkpjimkfaa
open Go.AM
open Go.Proofs.Try (prog)
set_option linter.all false
set_option maxRecDepth 1000000
def isT (r : Option Res) : Bool := match r with
  | some (.bool b, _) => b
  | _ => false
theorem lives_run : isT (callN prog ann 3000 21 [] Mem.empty) = true := by kernel_rfl
@[simp] theorem lives_pure : (ann 21).pure = true := by kernel_rfl
theorem f21_at : prog.funcs[21]? = some Try.f21 := by kernel_rfl
theorem f21_some : Try.f21.body.isSome = true := by kernel_rfl
theorem lives_spec (m : Mem) : denC prog ann 21 [] m = some (.bool true, m) := by
  have hb : Try.f21.body = some (Try.f21.body.getD .skip) := by
    cases h : Try.f21.body with
    | none => have := f21_some; rw [h] at this; cases this
    | some b => rfl
  have e := fun m => denC_pure (P := prog) (A := ann) (f := 21) f21_at hb (by kernel_rfl) (by kernel_rfl) (show closedL [] = true from rfl) m
  have h := lives_run
  cases hr : callN prog ann 3000 21 [] Mem.empty with
  | none => rw [hr] at h; cases h
  | some r =>
    rw [hr] at h
    have h2 := denC_of_callN hr
    rw [e] at h2 ⊢
    obtain ⟨q, h3, h4⟩ := Option.bind_eq_some_iff.1 h2
    rw [h3]
    simp at h4
    subst h4
    match q, h with
    | (.bool true, _), _ => rfl
end Go.Proofs.Ythnpflkpjimkfaa

/-
  WHAT THE LAWS' ARGUMENTS ARE: brands, strings, numbers. Conditions: none.
-/
namespace Go.Proofs.Ythnpflkpjimkfaa
open Go.AM
open Go.Proofs.Try (prog)
set_option linter.all false
set_option maxRecDepth 100000
set_option maxHeartbeats 4000000
theorem u3 : prog.underlying 3 = some (.int .i64) := by kernel_rfl
theorem u9 : prog.underlying 9 = some .string := by kernel_rfl
theorem mlen : maxLen = 9223372036854775807 := by decide
theorem u4' : prog.underlying 4 = some .bool := by kernel_rfl
theorem IsB.deep {v : AV} {l : List Bool} (h : IsB v l) (hp : Nat → Option AObj) (d : Nat) : AM.deep hp (d + 1) v = some v := by rcases h with ⟨rfl, _⟩ | ⟨_, rfl⟩ <;> rfl
theorem IsB.cells {v : AV} {l : List Bool} (h : IsB v l) : v.cells = [v] := by rcases h with ⟨rfl, _⟩ | ⟨_, rfl⟩ <;> rfl
end Go.Proofs.Ythnpflkpjimkfaa

/-
  LISTS AND MAPS THAT GROW IN MEMORY, AND THE SEARCH LEVEL BY LEVEL. Conditions: none.
-/
namespace Go.Proofs.Ythnpflkpjimkfaa
open Go.AM
open Go.Proofs.Try (prog)
set_option linter.all false
set_option maxRecDepth 100000
set_option maxHeartbeats 4000000
def elP (v : AV) (sz i : Nat) : AV := match v with
  | .sl id es off n top => .ptr id (off + i * sz) top
  | _ => .undef
def tlV (v : AV) (sz : Nat) : AV := match v with
  | .sl id es off n top => .sl id es (off + sz) (n - 1) top
  | _ => .undef
structure Gl (m : Mem) (v : AV) (id sz n : Nat) (xs : List AV) : Prop where
  ex : ∃ pre : List AV, v = .sl id sz pre.length n (pre.length + xs.length) ∧ m.h id = some (.cells (pre ++ xs))
  n : xs.length = n * sz
  lt : id < m.nx
theorem Gl.frame {m m' : Mem} {v : AV} {id sz n : Nat} {xs : List AV} (h : Gl m v id sz n xs) (e : m'.h id = m.h id) (l : m.nx ≤ m'.nx) : Gl m' v id sz n xs := by
  obtain ⟨⟨pre, hv, hm⟩, hn, hl⟩ := h
  exact ⟨⟨pre, hv, by rw [e, hm]⟩, hn, by omega⟩
theorem Gl.fr {m m' : Mem} {v : AV} {id sz n : Nat} {xs : List AV} (h : Gl m v id sz n xs) (e : m'.h id = m.h id) (l : id < m'.nx) : Gl m' v id sz n xs := by
  obtain ⟨⟨pre, hv, hm⟩, hn, hl⟩ := h
  exact ⟨⟨pre, hv, by rw [e, hm]⟩, hn, l⟩
theorem Gl.one {m : Mem} {v : AV} {id sz n : Nat} {xs : List AV} (h : Gl m v id sz n xs) : v.one = true := by
  obtain ⟨⟨pre, rfl, hm⟩, hn, hl⟩ := h; rfl
theorem Gl.cells {m : Mem} {v : AV} {id sz n : Nat} {xs : List AV} (h : Gl m v id sz n xs) : v.cells = [v] := by
  obtain ⟨⟨pre, rfl, hm⟩, hn, hl⟩ := h; rfl
theorem Gl.len {m : Mem} {v : AV} {id sz n : Nat} {xs : List AV} (h : Gl m v id sz n xs) : lenSl v = some (.int .i64 n) := by
  obtain ⟨⟨pre, rfl, hm⟩, hn, hl⟩ := h; rfl
theorem Gl.idx {m : Mem} {v : AV} {id sz n : Nat} {xs : List AV} (h : Gl m v id sz n xs) {i : Nat} (hi : i < n) (k : IntKind) : idxSl sz v (.int k (i : Int)) = some (elP v sz i) := by
  obtain ⟨⟨pre, rfl, hm⟩, hn, hl⟩ := h
  simp [hi, elP]
theorem Gl.idx0 {m : Mem} {v : AV} {id sz n : Nat} {xs : List AV} (h : Gl m v id sz n xs) (hi : 0 < n) (k : IntKind) : idxSl sz v (.int k 0) = some (elP v sz 0) := h.idx hi k
theorem Gl.load {m : Mem} {v : AV} {id sz n : Nat} {xs : List AV} (h : Gl m v id sz n xs) {i : Nat} (hi : i < n) : loadA true sz m (elP v sz i) = some (.agg ((xs.drop (i * sz)).take sz)) := by
  obtain ⟨⟨pre, rfl, hm⟩, hn, hl⟩ := h
  have : pre.length + i * sz + sz ≤ pre.length + xs.length := by
    rw [hn]
    have := Nat.mul_le_mul_right sz (show i + 1 ≤ n from hi)
    rw [Nat.succ_mul] at this
    omega
  have e : (pre ++ xs).drop (pre.length + i * sz) = xs.drop (i * sz) := by rw [List.drop_append, List.drop_of_length_le (by omega)]; simp
  simp only [elP, loadA_ptr, hm, loadO_cells, e, cond_true]
  simp [this]
theorem Gl.load1 {m : Mem} {v : AV} {id n : Nat} {xs : List AV} (h : Gl m v id 1 n xs) {i : Nat} (hi : i < n) : loadA false 1 m (elP v 1 i) = xs[i]? := by
  obtain ⟨⟨pre, rfl, hm⟩, hn, hl⟩ := h
  simp [elP, hm, List.getElem?_append_right]
theorem Gl.cut {m : Mem} {v : AV} {id sz n : Nat} {xs : List AV} (h : Gl m v id sz n xs) (hi : 0 < n) : sliceSl sz v (some (.int .i64 1)) none = some (tlV v sz) := by
  obtain ⟨⟨pre, rfl, hm⟩, hn, hl⟩ := h
  have : (1 : Int) ≤ n := by omega
  simp [sliceSl, tlV, bnds, bnd, this]
theorem Gl.tail {m : Mem} {v : AV} {id sz n : Nat} {xs : List AV} (h : Gl m v id sz n xs) (hi : 0 < n) : Gl m (tlV v sz) id sz (n - 1) (xs.drop sz) := by
  obtain ⟨⟨pre, rfl, hm⟩, hn, hl⟩ := h
  have hs : sz ≤ xs.length := by
    rw [hn]; exact Nat.le_mul_of_pos_left _ hi
  refine ⟨⟨pre ++ xs.take sz, ?_, ?_⟩, ?_, hl⟩
  · simp [tlV]; omega
  · rw [hm]; simp
  · simp [hn, Nat.sub_mul]
theorem Gl.app {m : Mem} {v : AV} {id sz n by' : Nat} {xs ys : List AV} (h : Gl m v id sz n xs) (hy : ys.length = sz) (hr : room (n + 1) by' = true) :
    ∃ v' m' id', appT sz by' m v (some (1, ys)) = some (v', m') ∧ Gl m' v' id' sz (n + 1) (xs ++ ys) ∧ m.nx ≤ m'.nx ∧ (id' = id ∨ id' = m.nx) ∧ ∀ j, j < m.nx → j ≠ id → m'.h j = m.h j := by
  obtain ⟨⟨pre, rfl, hm⟩, hn, hl⟩ := h
  rw [appT_sl, hm, appO_eq]
  by_cases e : pre.length = 0
  · have : pre = [] := List.length_eq_zero_iff.1 e
    subst this
    refine ⟨.sl id sz 0 (n + 1) (xs ++ ys).length, m.set id (some (.cells (xs ++ ys))), id, ?_, ⟨⟨[], by simp, by simp [Mem.set]⟩, by simp [hn, hy, Nat.succ_mul], hl⟩, Nat.le_refl _, .inl rfl, fun j hj hne => updNe hne⟩
    simp at hr
    simp [hn, hr.1, hr.2]
  · refine ⟨.sl m.nx sz 0 (n + 1) (xs ++ ys).length, (m.set id none).new (.cells (xs ++ ys)), m.nx, ?_, ⟨⟨[], by simp, by simp [Mem.new, Mem.set]⟩, by simp [hn, hy, Nat.succ_mul], by simp [Mem.new, Mem.set]⟩, by simp [Mem.new, Mem.set], .inr rfl, fun j hj hne => ?_⟩
    · simp at hr
      have : (pre.length == 0) = false := by simpa using e
      simp [hn, hr.1, hr.2, this]
    · simp only [Mem.new, Mem.set]
      rw [updNe (by omega), updNe hne]
def Mp (m : Mem) (id : Nat) (ks vs : List AV) : Prop := (∃ g, m.h id = some (.map g ks vs)) ∧ id < m.nx
theorem Mp.frame {m m' : Mem} {id : Nat} {ks vs : List AV} (h : Mp m id ks vs) (e : m'.h id = m.h id) (l : m.nx ≤ m'.nx) : Mp m' id ks vs := by
  obtain ⟨⟨g, hg⟩, hl⟩ := h
  exact ⟨⟨g, by rw [e, hg]⟩, by omega⟩
theorem Mp.fr {m m' : Mem} {id : Nat} {ks vs : List AV} (h : Mp m id ks vs) (e : m'.h id = m.h id) (l : id < m'.nx) : Mp m' id ks vs := by
  obtain ⟨⟨g, hg⟩, hl⟩ := h
  exact ⟨⟨g, by rw [e, hg]⟩, l⟩
structure Keys (t : TypeId) {α : Type} [DecidableEq α] (enc : α → AV) (ok : α → Prop) : Prop where
  eq : ∀ a b, ok a → ok b → keyEq prog t (enc a) (enc b) = some (decide (a = b))
  key : ∀ a, ok a → keyT prog t (enc a) = true
section
variable {t : TypeId} {α β : Type} [DecidableEq α] {enc : α → AV} {ok : α → Prop} {ev : β → AV}
def lkP : List α → List β → α → Option β
  | k :: ks, v :: vs, c => if c = k then some v else lkP ks vs c
  | _, _, _ => none
theorem lkP_none : ∀ {ks : List α} {vs : List β} {c : α}, c ∉ ks → lkP ks vs c = none
  | [], _, _, _ => by simp [lkP]
  | k :: ks, [], _, _ => rfl
  | k :: ks, v :: vs, c, h => by
    simp only [List.mem_cons, not_or] at h
    rw [lkP, if_neg h.1, lkP_none h.2]
theorem lkP_at : ∀ {ks : List α} {vs : List β} {i : Nat} {c : α} {w : β}, ks.Nodup → ks[i]? = some c → vs[i]? = some w → lkP ks vs c = some w
  | [], _, _, _, _, _, h, _ => by simp at h
  | _ :: _, [], _, _, _, _, _, h => by simp at h
  | k :: ks, v :: vs, 0, c, w, _, h1, h2 => by
    simp at h1 h2
    rw [lkP, if_pos h1.symm, h2]
  | k :: ks, v :: vs, i + 1, c, w, hn, h1, h2 => by
    simp at h1 h2
    rw [List.nodup_cons] at hn
    have : c ≠ k := fun e => hn.1 (e ▸ List.mem_of_getElem? h1)
    rw [lkP, if_neg this]
    exact lkP_at hn.2 h1 h2
theorem findK_of (hk : Keys t enc ok) : ∀ {ks : List α} {vs : List β} {c : α}, (∀ a ∈ ks, ok a) → ok c → ks.length = vs.length → findK prog t (enc c) (ks.map enc) (vs.map ev) = some ((lkP ks vs c).map ev)
  | [], [], c, _, _, _ => rfl
  | [], _ :: _, _, _, _, h => by simp at h
  | _ :: _, [], _, _, _, h => by simp at h
  | k :: ks, v :: vs, c, h, hc, hl => by
    have ih := findK_of hk (ks := ks) (vs := vs) (c := c) (fun a ha => h a (by simp [ha])) hc (by simpa using hl)
    simp only [List.map_cons, findK, hk.eq c k hc (h k (by simp)), Option.bind_some]
    by_cases q : c = k
    · simp [q, lkP]
    · simp [q, lkP, ih]
theorem setK_of (hk : Keys t enc ok) {v : AV} : ∀ {ks : List α} {vs : List AV} {c : α}, (∀ a ∈ ks, ok a) → ok c → ks.length = vs.length → c ∉ ks → setK prog t (enc c) v (ks.map enc) vs = some ((ks ++ [c]).map enc, vs ++ [v])
  | [], [], c, _, _, _, _ => rfl
  | [], _ :: _, _, _, _, h, _ => by simp at h
  | _ :: _, [], _, _, _, h, _ => by simp at h
  | k :: ks, w :: vs, c, h, hc, hl, hm => by
    simp only [List.mem_cons, not_or] at hm
    have ih := setK_of hk (v := v) (ks := ks) (vs := vs) (c := c) (fun a ha => h a (by simp [ha])) hc (by simpa using hl) hm.2
    simp only [List.map_cons, setK, hk.eq c k hc (h k (by simp)), Option.bind_some]
    simp [hm.1, ih]
theorem Mp.look (hk : Keys t enc ok) {m : Mem} {id : Nat} {ks : List α} {vs : List β} (h : Mp m id (ks.map enc) (vs.map ev)) (ha : ∀ a ∈ ks, ok a) (hl : ks.length = vs.length) {c : α} (hc : ok c) (z : AV) (b : Bool) :
    lookP prog m t z (.map id) (enc c) b = some (match lkP ks vs c with | some v => bif b then .tup [ev v, .bool true] else ev v | none => bif b then .tup [z, .bool false] else z) := by
  obtain ⟨⟨g, hg⟩, _⟩ := h
  simp only [lookP, hk.key c hc, cond_true, lookA, hg, findK_of hk ha hc hl, Option.bind_some]
  cases lkP ks vs c <;> rfl
theorem Mp.put (hk : Keys t enc ok) {m : Mem} {id : Nat} {ks : List α} {vs : List β} (h : Mp m id (ks.map enc) (vs.map ev)) (ha : ∀ a ∈ ks, ok a) (hl : ks.length = vs.length) {c : α} (hc : ok c) (hm : c ∉ ks) (v : β) :
    ∃ m', updM prog m t (.map id) (enc c) (ev v) = some (.tup [], m') ∧ Mp m' id ((ks ++ [c]).map enc) ((vs ++ [v]).map ev) ∧ m'.nx = m.nx ∧ ∀ j, j ≠ id → m'.h j = m.h j := by
  obtain ⟨⟨g, hg⟩, hlt⟩ := h
  refine ⟨m.set id (some (.map (g + 1) ((ks ++ [c]).map enc) ((vs ++ [v]).map ev))), ?_, ⟨⟨g + 1, by simp [Mem.set]⟩, hlt⟩, rfl, fun j hj => updNe hj⟩
  simp only [updM, updP, hk.key c hc, cond_true, hg, setK_of hk ha hc (vs := vs.map ev) (by simpa using hl) hm, Option.bind_some, Option.map_some]
  simp
end
section
variable {α β : Type} [DecidableEq α] (nxt : α → Nat → α) (ext : β → Nat → β)
def bIn (x : α) (w : β) : Nat → Nat → List α × List β → List α × List β
  | 0, _, s => s
  | j + 1, a, s => if nxt x a ∈ s.1 then bIn x w j (a + 1) s else bIn x w j (a + 1) (s.1 ++ [nxt x a], s.2 ++ [ext w a])
structure BOk (ok : α → Prop) (ln : β → Nat) (s : List α × List β) : Prop where
  nd : s.1.Nodup
  all : ∀ x ∈ s.1, ok x
  len : s.1.length = s.2.length
  wl : ∀ w ∈ s.2, ln w ≤ s.2.length
theorem bok_add {ok : α → Prop} {ln : β → Nat} {s : List α × List β} (h : BOk ok ln s) {x : α} {w : β} (hx : ok x) (hn : x ∉ s.1) (hw : ln w ≤ s.2.length + 1) : BOk ok ln (s.1 ++ [x], s.2 ++ [w]) := by
  refine ⟨?_, ?_, by simp [h.len], ?_⟩
  · rw [List.nodup_append]
    refine ⟨h.nd, by simp, ?_⟩
    intro a ha b hb
    simp at hb
    subst hb
    exact fun e => hn (e ▸ ha)
  · intro y hy
    rcases List.mem_append.1 hy with hy | hy
    · exact h.all y hy
    · simp at hy; rw [hy]; exact hx
  · intro y hy
    rcases List.mem_append.1 hy with hy | hy
    · have := h.wl y hy; simp; omega
    · simp at hy; rw [hy]; simpa using hw
theorem bIn_pre (x : α) (w : β) : ∀ (j a : Nat) (s : List α × List β), ∃ p q, (bIn nxt ext x w j a s).1 = s.1 ++ p ∧ (bIn nxt ext x w j a s).2 = s.2 ++ q
  | 0, _, s => ⟨[], [], by simp [bIn], by simp [bIn]⟩
  | j + 1, a, s => by
    rw [bIn]
    split
    · exact bIn_pre x w j (a + 1) s
    · obtain ⟨p, q, h1, h2⟩ := bIn_pre x w j (a + 1) (s.1 ++ [nxt x a], s.2 ++ [ext w a])
      exact ⟨nxt x a :: p, ext w a :: q, by rw [h1]; simp, by rw [h2]; simp⟩
theorem bIn_ok {ok : α → Prop} {ln : β → Nat} {k : Nat} (hnx : ∀ x a, ok x → a < k → ok (nxt x a)) (hex : ∀ w a, ln (ext w a) ≤ ln w + 1) (x : α) (w : β) (hx : ok x) : ∀ (j a : Nat) (s : List α × List β), a + j ≤ k → BOk ok ln s → ln w ≤ s.2.length → BOk ok ln (bIn nxt ext x w j a s)
  | 0, _, s, _, h, _ => h
  | j + 1, a, s, ha, h, hw => by
    rw [bIn]
    split
    · exact bIn_ok hnx hex x w hx j (a + 1) s (by omega) h hw
    · rename_i hn
      exact bIn_ok hnx hex x w hx j (a + 1) _ (by omega) (bok_add h (hnx x a hx (by omega)) hn (by have := hex w a; omega)) (by simp; omega)
end
theorem nodup_sub {α : Type} [DecidableEq α] : ∀ {l L : List α}, l.Nodup → (∀ x ∈ l, x ∈ L) → l.length ≤ L.length
  | [], _, _, _ => by simp
  | a :: l, L, hn, hs => by
    rw [List.nodup_cons] at hn
    have ha := hs a (by simp)
    have ih := nodup_sub (l := l) (L := L.erase a) hn.2 fun x hx => by
      have : x ≠ a := fun e => hn.1 (e ▸ hx)
      exact (List.mem_erase_of_ne this).2 (hs x (by simp [hx]))
    rw [List.length_erase_of_mem ha] at ih
    have : 0 < L.length := List.length_pos_of_mem ha
    simp; omega
end Go.Proofs.Ythnpflkpjimkfaa

/-
  BODIES OF FUNCTIONS OF THE PROGRAM AS SMALL OPERATIONS (written by gen.py; checked by the kernel against the program). Conditions: none.
-/
namespace Go.Proofs.Ythnpflkpjimkfaa
open Go.AM
open Go.Proofs.Try (prog)
set_option maxRecDepth 100000
set_option linter.all false
namespace brand_letter
noncomputable section
variable (K : List Item) (s : St)
def b : Code := (Try.f59.body).getD .skip
theorem hf : prog.funcs[59]? = some Try.f59 := by kernel_rfl
def r0 := findReg b 0
def r1 := findReg b 1
theorem b_eq : den prog ann 59 (.code b :: K) s = den prog ann 59 (.code r0 :: .code r1 :: .code .ret :: K) s := den_flat hf (l := [r0, r1, .ret]) (by kernel_rfl) K s
theorem r0_eq : den prog ann 59 (.code r0 :: K) s = mreg prog ann 59 none [] none [] [qF 2 fun s => some (.str [])] K s := (den_reg hf _ K s).trans (by kernel_rfl)
theorem r1_eq : den prog ann 59 (.code r1 :: K) s = mreg prog ann 59 none [] none [] [qC 3 0,qA 4 (convInt .u8) 3,qA 5 (binA prog .add 5 (.int .u8 97)) 4,⟨some 6, none, .w false none fun s => bslM s.m 1 (bslA 1 1 [.int .u8 0] [(0, (s.get 5))])⟩,qF 7 fun s => convStr s.m (s.get 6),qC 2 7] K s := (den_reg hf _ K s).trans (by kernel_rfl)
theorem ret_eq : den prog ann 59 (.code .ret :: K) s = finM true [fun s => some (s.get 2)] s := (den_ret hf K s).trans (by kernel_rfl)
theorem nil_eq (s : St) : den prog ann 59 [] s = finM true [fun s => some (s.get 2)] s := (den_nil hf s).trans (by kernel_rfl)
theorem inBlock_eq (id : Nat) (K : List Item) (s : St) : den prog ann 59 (.inBlock id :: K) s = den prog ann 59 K s := den_inBlock hf id K s
theorem exit_eq (id : Nat) (K : List Item) (s : St) : den prog ann 59 (.code (.exit id) :: K) s = exitV prog ann 59 (exitTo id K) s := den_exitV hf id K s
theorem call_eq (v0 : AV) (m : Mem) (h : closedL [v0] = true) : denC prog ann 59 [v0] m = (den prog ann 59 [.code b] ⟨[(0, v0)], 8, Mem.empty⟩).bind fun r => some (r.1, m) := (denC_pure hf (b := b) (by kernel_rfl) (by kernel_rfl) (by kernel_rfl) h m).trans (by kernel_rfl)
theorem pure_eq : (ann 59).pure = true := by kernel_rfl
attribute [simp] b_eq r0_eq r1_eq ret_eq nil_eq inBlock_eq exit_eq pure_eq
end
end brand_letter
end Go.Proofs.Ythnpflkpjimkfaa

/-
  LETTERS AS STRINGS: the code's and the specification's. Conditions: none.
-/
namespace Go.Proofs.Ythnpflkpjimkfaa
open Go.AM
open Go.Proofs.Try (prog)
set_option linter.all false
set_option maxRecDepth 100000
set_option maxHeartbeats 4000000
def ltr (a : Nat) : List UInt8 := [UInt8.ofNat (97 + a)]
theorem letter_spec {a : Nat} (h : a < 3) (m : Mem) : denC prog ann 59 [.int .i64 a] m = some (.str (ltr a), m) := by
  rw [brand_letter.call_eq _ _ (by simp)]
  rcases (by omega : a = 0 ∨ a = 1 ∨ a = 2) with rfl | rfl | rfl
  · simp [ltr, convStr, bytesOf, sliceStr, bnds, bnd, IntKind.wrap, IntKind.min, IntKind.max, IntKind.signed, IntKind.bits]; done
  · simp [ltr, convStr, bytesOf, sliceStr, bnds, bnd, IntKind.wrap, IntKind.min, IntKind.max, IntKind.signed, IntKind.bits]; done
  · simp [ltr, convStr, bytesOf, sliceStr, bnds, bnd, IntKind.wrap, IntKind.min, IntKind.max, IntKind.signed, IntKind.bits]; done
end Go.Proofs.Ythnpflkpjimkfaa

/-
  PAIRS OF STATES AS CELLS AND AS KEYS. Conditions: none.
-/
namespace Go.Proofs.Ythnpflkpjimkfaa
open Go.AM
open Go.Proofs.Try (prog)
set_option linter.all false
set_option maxRecDepth 100000
set_option maxHeartbeats 4000000
@[simp] theorem neqB (a b : Bool) : binA prog .neq 4 (.bool a) (.bool b) = some (.bool (!(a == b))) := by simp [binA, eqT, eqA, u4']
abbrev PN := Nat × Nat
def cP (x : PN) : List AV := [.int .i64 ((x.1 : Nat) : Int), .int .i64 ((x.2 : Nat) : Int)]
def encP (x : PN) : AV := .agg (cP x)
def flP : List PN → List AV
  | [] => []
  | x :: l => cP x ++ flP l
@[simp] theorem cP_len (x : PN) : (cP x).length = 2 := rfl
@[simp] theorem flP_len : ∀ l : List PN, (flP l).length = l.length * 2
  | [] => rfl
  | x :: l => by rw [flP, List.length_append, flP_len l, cP_len, List.length_cons]; omega
theorem sc3 (n : Int) : scV prog 3 (.int .i64 n) = true := by simp [scV, u3]
theorem keysP {t : TypeId} (h : flatT prog t = some [3, 3]) (ok : PN → Prop) : Keys t encP ok := by
  refine ⟨fun a b _ _ => ?_, fun a _ => ?_⟩
  · obtain ⟨a1, a2⟩ := a
    obtain ⟨b1, b2⟩ := b
    by_cases e1 : a1 = b1
    · by_cases e2 : a2 = b2
      · simp [keyEq, encP, cP, h, eqCs, sc3, eqSc, e1, e2]
      · have : ((a2 : Int) == (b2 : Int)) = false := by rw [beq_eq_false_iff_ne]; omega
        simp [keyEq, encP, cP, h, eqCs, sc3, eqSc, e1, e2, Prod.ext_iff, this]
    · have : ((a1 : Int) == (b1 : Int)) = false := by rw [beq_eq_false_iff_ne]; omega
      simp [keyEq, encP, cP, h, eqCs, sc3, eqSc, e1, Prod.ext_iff, this]
  · obtain ⟨a1, a2⟩ := a
    simp [keyT, encP, cP, h, scL, sc3]
end Go.Proofs.Ythnpflkpjimkfaa

/-
  SETS OF STATES AS BITS OF A NUMBER. Conditions: none.
-/
namespace Go.Proofs.Ythnpflkpjimkfaa
open Go.AM
open Go.Proofs.Try (prog)
set_option linter.all false
set_option maxRecDepth 100000
set_option maxHeartbeats 4000000
theorem wrapN {x : Nat} (h : x < 4096) : IntKind.wrap .i64 (x : Int) = x := wrap_id (by omega) (by omega)
def encS (x : Nat) : AV := .int .i64 (x : Int)
theorem keysS (ok : Nat → Prop) : Keys 3 encS ok := by
  refine ⟨fun a b _ _ => ?_, fun a _ => sc3 a⟩
  by_cases e : a = b
  · simp [keyEq, encS, sc3, eqSc, e]
  · have : ((a : Int) == (b : Int)) = false := by rw [beq_eq_false_iff_ne]; omega
    simp [keyEq, encS, sc3, eqSc, e, this]
end Go.Proofs.Ythnpflkpjimkfaa

/-
  ALIKE STATES: those from which the same words lead to good ones; what marking unlike ones again and again ends in. Conditions: none.
-/
namespace Go.Proofs.Ythnpflkpjimkfaa
open Go.AM
open Go.Proofs.Try (prog)
set_option linter.all false
set_option maxRecDepth 100000
set_option maxHeartbeats 4000000
def gow (rows : List (List Int)) (s : Nat) (w : List Nat) : Nat := w.foldl (nx rows) s
def alk (rows : List (List Int)) (good : List Bool) (k i j : Nat) : Prop := ∀ w : List Nat, (∀ a ∈ w, a < k) → bnth good (gow rows i w) = bnth good (gow rows j w)
open Classical in
noncomputable def alB (rows : List (List Int)) (good : List Bool) (k i j : Nat) : Bool := decide (alk rows good k i j)
section
variable {rows : List (List Int)} {good : List Bool} {k : Nat}
theorem alk_refl (i : Nat) : alk rows good k i i := fun _ _ => rfl
theorem alk_symm {i j : Nat} (h : alk rows good k i j) : alk rows good k j i := fun w hw => (h w hw).symm
theorem alk_trans {i j l : Nat} (h : alk rows good k i j) (g : alk rows good k j l) : alk rows good k i l := fun w hw => (h w hw).trans (g w hw)
theorem alk_step {i j a : Nat} (h : alk rows good k i j) (ha : a < k) : alk rows good k (nx rows i a) (nx rows j a) := fun w hw => h (a :: w) (by
  intro b hb
  rcases List.mem_cons.1 hb with rfl | hb
  · exact ha
  · exact hw b hb)
theorem alk_good {i j : Nat} (h : alk rows good k i j) : bnth good i = bnth good j := h [] (by simp)
theorem alB_iff {i j : Nat} : alB rows good k i j = true ↔ alk rows good k i j := by simp [alB]
theorem alB_refl (i : Nat) : alB rows good k i i = true := alB_iff.2 (alk_refl i)
end
abbrev MB := List (List Bool)
def brw (D : MB) (i : Nat) : List Bool := D.getD i []
def mth (D : MB) (i j : Nat) : Bool := bnth (brw D i) j
def setM (D : MB) (i j : Nat) (b : Bool) : MB := D.set i ((brw D i).set j b)
structure Wf (n : Nat) (D : MB) : Prop where
  l : D.length = n
  r : ∀ i, i < n → (brw D i).length = n
theorem brw_set {D : MB} {i i' : Nat} {r : List Bool} (h : i < D.length) : brw (D.set i r) i' = if i = i' then r else brw D i' := by
  simp only [brw, List.getD_eq_getElem?_getD, List.getElem?_set]
  by_cases e : i = i'
  · subst e; simp [h]
  · simp [e]
theorem bnth_set {l : List Bool} {j j' : Nat} {b : Bool} (h : j < l.length) : bnth (l.set j b) j' = if j = j' then b else bnth l j' := by
  simp only [bnth, List.getD_eq_getElem?_getD, List.getElem?_set]
  by_cases e : j = j'
  · subst e; simp [h]
  · simp [e]
theorem Wf.set {n : Nat} {D : MB} (h : Wf n D) {i j : Nat} (b : Bool) (hi : i < n) : Wf n (setM D i j b) := by
  refine ⟨by simp [setM, h.l], fun i' hi' => ?_⟩
  rw [setM, brw_set (by rw [h.l]; exact hi)]
  split
  · rw [List.length_set]; exact h.r i hi
  · exact h.r i' hi'
theorem Wf.get {n : Nat} {D : MB} (h : Wf n D) {i j i' j' : Nat} {b : Bool} (hi : i < n) (hj : j < n) : mth (setM D i j b) i' j' = if i = i' ∧ j = j' then b else mth D i' j' := by
  rw [mth, setM, brw_set (by rw [h.l]; exact hi)]
  by_cases e : i = i'
  · subst e
    rw [if_pos rfl, bnth_set (by rw [h.r i hi]; exact hj)]
    by_cases e' : j = j'
    · simp [e']
    · simp [e', mth]
  · simp [e, mth]
def cnt (n : Nat) (p : Nat → Nat → Bool) : Nat := ((List.range n).flatMap fun i => (List.range n).map fun j => (i, j)).countP fun x => p x.1 x.2
theorem pairs_len (n : Nat) : ((List.range n).flatMap fun i => (List.range n).map fun j => (i, j)).length = n * n := by
  have : ∀ m : Nat, ((List.range m).map fun _ => n).sum = m * n := by
    intro m
    induction m with
    | zero => simp
    | succ m ih => rw [List.range_succ, List.map_append, List.sum_append, ih]; simp [Nat.succ_mul]
  simp [List.length_flatMap, this]
theorem pairs_mem {n i j : Nat} : (i, j) ∈ ((List.range n).flatMap fun i => (List.range n).map fun j => (i, j)) ↔ i < n ∧ j < n := by
  simp
theorem countP_lt {α : Type} {p q : α → Bool} : ∀ {l : List α}, (∀ x ∈ l, p x = true → q x = true) → (∃ x ∈ l, q x = true ∧ p x = false) → l.countP p < l.countP q
  | [], _, ⟨_, h, _⟩ => by simp at h
  | a :: l, h, ⟨x, hx, h1, h2⟩ => by
    have mono : l.countP p ≤ l.countP q := List.countP_mono_left fun y hy => h y (by simp [hy])
    rcases List.mem_cons.1 hx with rfl | hx
    · simp [h1, h2]; omega
    · have ih := countP_lt (l := l) (fun y hy => h y (by simp [hy])) ⟨x, hx, h1, h2⟩
      rw [List.countP_cons, List.countP_cons]
      have := h a (by simp)
      by_cases e : p a = true
      · simp [e, this e]; omega
      · simp [e]; split <;> omega
theorem cnt_le (n : Nat) (p : Nat → Nat → Bool) : cnt n p ≤ n * n := by
  rw [← pairs_len n]; exact List.countP_le_length
theorem cnt_lt {n : Nat} {p q : Nat → Nat → Bool} (h : ∀ i j, i < n → j < n → p i j = true → q i j = true) {i j : Nat} (hi : i < n) (hj : j < n) (h1 : q i j = true) (h2 : p i j = false) : cnt n p < cnt n q :=
  countP_lt (fun x hx => by obtain ⟨i, j⟩ := x; obtain ⟨h1, h2⟩ := pairs_mem.1 hx; exact h i j h1 h2) ⟨(i, j), pairs_mem.2 ⟨hi, hj⟩, h1, h2⟩
section
variable {S α : Type} (I : S → Prop) (μ : S → Nat) (Q : α → S → Prop) (step : S → α → S)
def Ups (x : α) : Prop := ∀ s, I s → I (step s x) ∧ μ s ≤ μ (step s x) ∧ (μ (step s x) = μ s → step s x = s ∧ Q x s)
theorem ups_fold : ∀ (l : List α) (s : S), (∀ x ∈ l, Ups I μ Q step x) → I s → I (l.foldl step s) ∧ μ s ≤ μ (l.foldl step s) ∧ (μ (l.foldl step s) = μ s → l.foldl step s = s ∧ ∀ x ∈ l, Q x s)
  | [], s, _, h => ⟨h, Nat.le_refl _, fun _ => ⟨rfl, by simp⟩⟩
  | x :: l, s, hs, h => by
    obtain ⟨h1, h2, h3⟩ := hs x (by simp) s h
    obtain ⟨g1, g2, g3⟩ := ups_fold l (step s x) (fun y hy => hs y (by simp [hy])) h1
    refine ⟨g1, by simp only [List.foldl_cons]; omega, fun e => ?_⟩
    simp only [List.foldl_cons] at e ⊢
    obtain ⟨e1, e2⟩ := g3 (by omega)
    obtain ⟨e3, e4⟩ := h3 (by omega)
    rw [e1, e3]
    rw [e3] at e2
    exact ⟨rfl, fun y hy => by
      rcases List.mem_cons.1 hy with rfl | hy
      · exact e4
      · exact e2 y hy⟩
end
end Go.Proofs.Ythnpflkpjimkfaa

/-
  MARKING UNLIKE STATES: the program's way and the specification's end in the same. Conditions: none.
-/
namespace Go.Proofs.Ythnpflkpjimkfaa
open Go.AM
open Go.Proofs.Try (prog)
set_option linter.all false
set_option maxRecDepth 100000
set_option maxHeartbeats 4000000
abbrev PB := MB × Bool
def mk1 (rows : List (List Int)) (i j : Nat) (P : PB) (a : Nat) : PB := if mth P.1 i j = false ∧ mth P.1 (nx rows i a) (nx rows j a) = true then (setM P.1 i j true, true) else P
def mkA (rows : List (List Int)) (i j c a : Nat) (P : PB) : PB := (List.range' a c).foldl (mk1 rows i j) P
def mkJ (rows : List (List Int)) (k i c j : Nat) (P : PB) : PB := (List.range' j c).foldl (fun P j => mkA rows i j k 0 P) P
def mkI (rows : List (List Int)) (k n c i : Nat) (P : PB) : PB := (List.range' i c).foldl (fun P i => mkJ rows k i n 0 P) P
def fixD (rows : List (List Int)) (k n : Nat) : Nat → MB → MB
  | 0, D => D
  | f + 1, D => if (mkI rows k n n 0 (D, false)).2 = true then fixD rows k n f (mkI rows k n n 0 (D, false)).1 else (mkI rows k n n 0 (D, false)).1
section
variable {rows : List (List Int)} {good : List Bool} {k : Nat}
structure Mkd (rows : List (List Int)) (good : List Bool) (k : Nat) (D : MB) : Prop where
  wf : Wf rows.length D
  snd : ∀ i j, i < rows.length → j < rows.length → mth D i j = true → ¬ alk rows good k i j
  bas : ∀ i j, i < rows.length → j < rows.length → bnth good i ≠ bnth good j → mth D i j = true
def Cld (rows : List (List Int)) (k : Nat) (D : MB) : Prop := ∀ i j a, i < rows.length → j < rows.length → a < k → mth D i j = false → mth D (nx rows i a) (nx rows j a) = false
theorem Mkd.end_ {D : MB} (v : VB rows good k) (h : Mkd rows good k D) (c : Cld rows k D) {i j : Nat} (hi : i < rows.length) (hj : j < rows.length) : mth D i j = !alB rows good k i j := by
  have key : ∀ (w : List Nat) (i j : Nat), i < rows.length → j < rows.length → (∀ a ∈ w, a < k) → mth D i j = false → bnth good (gow rows i w) = bnth good (gow rows j w) := by
    intro w
    induction w with
    | nil =>
      intro i j hi hj _ e
      apply Classical.byContradiction
      intro q
      have := h.bas i j hi hj q
      rw [e] at this
      cases this
    | cons a w ih =>
      intro i j hi hj hw e
      have ha := hw a (by simp)
      exact ih _ _ (nx_lt v hi ha).1 (nx_lt v hj ha).1 (fun b hb => hw b (by simp [hb])) (c i j a hi hj ha e)
  rcases hm : mth D i j with _ | _
  · have : alk rows good k i j := fun w hw => key w i j hi hj hw hm
    rw [alB_iff.2 this]; rfl
  · have h1 := h.snd i j hi hj hm
    have : alB rows good k i j = false := by rw [Bool.eq_false_iff]; exact fun q => h1 (alB_iff.1 q)
    rw [this]; rfl
def IP (rows : List (List Int)) (good : List Bool) (k m0 : Nat) (P : PB) : Prop := Mkd rows good k P.1 ∧ m0 ≤ cnt rows.length (mth P.1) ∧ (P.2 = true ↔ m0 < cnt rows.length (mth P.1))
def μP (n : Nat) (P : PB) : Nat := cnt n (mth P.1)
theorem mk1_ups (v : VB rows good k) (m0 : Nat) {i j a : Nat} (hi : i < rows.length) (hj : j < rows.length) (ha : a < k) : Ups (IP rows good k m0) (μP rows.length) (fun a P => mth P.1 i j = false → mth P.1 (nx rows i a) (nx rows j a) = false) (mk1 rows i j) a := by
  intro P hP
  obtain ⟨hM, h0, hf⟩ := hP
  have ni := (nx_lt v hi ha).1
  have nj := (nx_lt v hj ha).1
  by_cases c : mth P.1 i j = false ∧ mth P.1 (nx rows i a) (nx rows j a) = true
  · have e : mk1 rows i j P a = (setM P.1 i j true, true) := by rw [mk1, if_pos c]
    rw [e]
    have g := fun i' j' => hM.wf.get (i := i) (j := j) (i' := i') (j' := j') (b := true) hi hj
    have lt : cnt rows.length (mth P.1) < cnt rows.length (mth (setM P.1 i j true)) := cnt_lt (fun i' j' _ _ h => by rw [g]; split; rfl; exact h) hi hj (by rw [g]; simp) c.1
    refine ⟨⟨⟨hM.wf.set true hi, fun i' j' h1 h2 h => ?_, fun i' j' h1 h2 h => ?_⟩, Nat.le_of_lt (Nat.lt_of_le_of_lt h0 lt), ⟨fun _ => Nat.lt_of_le_of_lt h0 lt, fun _ => rfl⟩⟩, Nat.le_of_lt lt, fun q => absurd q (Nat.ne_of_gt lt)⟩
    · rw [g] at h
      by_cases q : i = i' ∧ j = j'
      · obtain ⟨rfl, rfl⟩ := q
        intro hk
        exact hM.snd _ _ ni nj c.2 (alk_step hk ha)
      · rw [if_neg q] at h
        exact hM.snd i' j' h1 h2 h
    · rw [g]; split; rfl; exact hM.bas i' j' h1 h2 h
  · have e : mk1 rows i j P a = P := by rw [mk1, if_neg c]
    rw [e]
    refine ⟨⟨hM, h0, hf⟩, Nat.le_refl _, fun _ => ⟨rfl, fun q => ?_⟩⟩
    rcases hm : mth P.1 (nx rows i a) (nx rows j a) with _ | _
    · rfl
    · exact absurd ⟨q, hm⟩ c
theorem mkA_ups (v : VB rows good k) (m0 : Nat) {i j : Nat} (hi : i < rows.length) (hj : j < rows.length) : Ups (IP rows good k m0) (μP rows.length) (fun j P => ∀ a ∈ List.range' 0 k, mth P.1 i j = false → mth P.1 (nx rows i a) (nx rows j a) = false) (fun P j => mkA rows i j k 0 P) j := fun P hP => by
  obtain ⟨h1, h2, h3⟩ := ups_fold _ _ _ _ (List.range' 0 k) P (fun a ha => mk1_ups v m0 (i := i) (j := j) hi hj (by simp [List.mem_range'_1] at ha; exact ha)) hP
  exact ⟨h1, h2, fun e => h3 e⟩
theorem mkJ_ups (v : VB rows good k) (m0 : Nat) {i : Nat} (hi : i < rows.length) : Ups (IP rows good k m0) (μP rows.length) (fun i P => ∀ j ∈ List.range' 0 rows.length, ∀ a ∈ List.range' 0 k, mth P.1 i j = false → mth P.1 (nx rows i a) (nx rows j a) = false) (fun P i => mkJ rows k i rows.length 0 P) i := fun P hP => by
  obtain ⟨h1, h2, h3⟩ := ups_fold _ _ _ _ (List.range' 0 rows.length) P (fun j hj => mkA_ups v m0 (i := i) (j := j) hi (by simp [List.mem_range'_1] at hj; exact hj)) hP
  exact ⟨h1, h2, fun e => h3 e⟩
theorem mkI_law (v : VB rows good k) {D : MB} (h : Mkd rows good k D) : Mkd rows good k (mkI rows k rows.length rows.length 0 (D, false)).1 ∧ ((mkI rows k rows.length rows.length 0 (D, false)).2 = true → cnt rows.length (mth D) < cnt rows.length (mth (mkI rows k rows.length rows.length 0 (D, false)).1)) ∧ ((mkI rows k rows.length rows.length 0 (D, false)).2 = false → Cld rows k (mkI rows k rows.length rows.length 0 (D, false)).1) := by
  obtain ⟨h1, h2, h3⟩ := ups_fold _ _ _ _ (List.range' 0 rows.length) (D, false) (fun i hi => mkJ_ups v (cnt rows.length (mth D)) (i := i) (by simp [List.mem_range'_1] at hi; exact hi)) ⟨h, Nat.le_refl _, by simp⟩
  refine ⟨h1.1, fun e => h1.2.2.1 e, fun e => ?_⟩
  have e2 : ¬ cnt rows.length (mth D) < cnt rows.length (mth (mkI rows k rows.length rows.length 0 (D, false)).1) := fun q => by
    have := h1.2.2.2 q
    simp only [mkI] at e
    rw [e] at this
    cases this
  simp only [μP] at h2 h3
  obtain ⟨e3, e4⟩ := h3 (by have h2' := h2; simp only [mkI] at e2; omega)
  have e5 : mkI rows k rows.length rows.length 0 (D, false) = (D, false) := e3
  rw [e5]
  intro i j a hi hj ha
  exact e4 i (by simp [List.mem_range'_1, hi]) j (by simp [List.mem_range'_1, hj]) a (by simp [List.mem_range'_1, ha])
theorem fixD_law (v : VB rows good k) : ∀ (f : Nat) (D : MB), Mkd rows good k D → rows.length * rows.length < f + cnt rows.length (mth D) → Mkd rows good k (fixD rows k rows.length f D) ∧ Cld rows k (fixD rows k rows.length f D)
  | 0, D, h, hf => by
    have := cnt_le rows.length (mth D)
    omega
  | f + 1, D, h, hf => by
    obtain ⟨h1, h2, h3⟩ := mkI_law v h
    rw [fixD]
    by_cases c : (mkI rows k rows.length rows.length 0 (D, false)).2 = true
    · rw [if_pos c]
      exact fixD_law v f _ h1 (by have := h2 c; omega)
    · rw [if_neg c]
      exact ⟨h1, h3 (by simpa using c)⟩
def D0 (good : List Bool) (n : Nat) : MB := (List.range n).map fun i => (List.range n).map fun j => !(bnth good i == bnth good j)
theorem D0_get {n i j : Nat} (hi : i < n) (hj : j < n) : mth (D0 good n) i j = !(bnth good i == bnth good j) := by
  simp [mth, brw, D0, bnth, hi, hj]
theorem D0_wf (n : Nat) : Wf n (D0 good n) := ⟨by simp [D0], fun i hi => by simp [brw, D0, hi]⟩
theorem D0_mkd : Mkd rows good k (D0 good rows.length) := by
  refine ⟨D0_wf _, fun i j hi hj h q => ?_, fun i j hi hj h => ?_⟩
  · rw [D0_get hi hj, alk_good q] at h
    simp at h
  · rw [D0_get hi hj]
    simpa using h
theorem fixD_end (v : VB rows good k) {f : Nat} (hf : rows.length * rows.length < f) : Wf rows.length (fixD rows k rows.length f (D0 good rows.length)) ∧ ∀ i j, i < rows.length → j < rows.length → mth (fixD rows k rows.length f (D0 good rows.length)) i j = !alB rows good k i j := by
  obtain ⟨h1, h2⟩ := fixD_law v f (D0 good rows.length) D0_mkd (by omega)
  exact ⟨h1.wf, fun i j hi hj => h1.end_ v h2 hi hj⟩
structure Lkd (rows : List (List Int)) (good : List Bool) (k : Nat) (L : MB) : Prop where
  wf : Wf rows.length L
  snd : ∀ i j, i < rows.length → j < rows.length → mth L i j = false → ¬ alk rows good k i j
  bas : ∀ i j, i < rows.length → j < rows.length → bnth good i ≠ bnth good j → mth L i j = false
def CldL (rows : List (List Int)) (k : Nat) (L : MB) : Prop := ∀ i j a, i < rows.length → j < rows.length → a < k → mth L i j = true → mth L (nx rows i a) (nx rows j a) = true
theorem Lkd.end_ {L : MB} (v : VB rows good k) (h : Lkd rows good k L) (c : CldL rows k L) {i j : Nat} (hi : i < rows.length) (hj : j < rows.length) : mth L i j = alB rows good k i j := by
  have key : ∀ (w : List Nat) (i j : Nat), i < rows.length → j < rows.length → (∀ a ∈ w, a < k) → mth L i j = true → bnth good (gow rows i w) = bnth good (gow rows j w) := by
    intro w
    induction w with
    | nil =>
      intro i j hi hj _ e
      apply Classical.byContradiction
      intro q
      have := h.bas i j hi hj q
      rw [e] at this
      cases this
    | cons a w ih =>
      intro i j hi hj hw e
      have ha := hw a (by simp)
      exact ih _ _ (nx_lt v hi ha).1 (nx_lt v hj ha).1 (fun b hb => hw b (by simp [hb])) (c i j a hi hj ha e)
  rcases hm : mth L i j with _ | _
  · have h1 := h.snd i j hi hj hm
    have : alB rows good k i j = false := by rw [Bool.eq_false_iff]; exact fun q => h1 (alB_iff.1 q)
    rw [this]
  · have : alk rows good k i j := fun w hw => key w i j hi hj hw hm
    rw [alB_iff.2 this]
end
end Go.Proofs.Ythnpflkpjimkfaa

/-
  NUMBERING STATES UP TO LIKENESS: taking representatives as they come, and taking all states and leaving out later ones that are alike, is the same. Conditions: none.
-/
namespace Go.Proofs.Ythnpflkpjimkfaa
open Go.AM
open Go.Proofs.Try (prog)
set_option linter.all false
set_option maxRecDepth 100000
set_option maxHeartbeats 4000000
def numS (al : Nat → Nat → Bool) (s : Nat) (P : List Nat) : List Nat := if P.any (al s) = true then P else P ++ [s]
def idxA (al : Nat → Nat → Bool) (P : List Nat) (s : Nat) : Nat := P.findIdx (al s)
def addsN (al : Nat → Nat → Bool) (nxt : Nat → Nat → Nat) (q c a : Nat) (P : List Nat) : List Nat := (List.range' a c).foldl (fun P a => numS al (nxt q a) P) P
def bldN (al : Nat → Nat → Bool) (nxt : Nat → Nat → Nat) (k : Nat) : Nat → Nat → List Nat → List Nat
  | 0, _, P => P
  | f + 1, i, P => match P[i]? with
    | some q => bldN al nxt k f (i + 1) (addsN al nxt q k 0 P)
    | none => P
def ded (al : Nat → Nat → Bool) (R : List Nat) : List Nat := R.foldl (fun P s => numS al s P) []
def bfsA {β : Type} (nxt : Nat → Nat → Nat) (ext : β → Nat → β) (k : Nat) : Nat → Nat → List Nat × List β → List Nat × List β
  | 0, _, S => S
  | f + 1, i, S => match S.1[i]?, S.2[i]? with
    | some x, some w => bfsA nxt ext k f (i + 1) (bIn nxt ext x w k 0 S)
    | _, _ => S
section
variable {al : Nat → Nat → Bool} {nxt : Nat → Nat → Nat} {k : Nat}
theorem numS_pre (s : Nat) (P : List Nat) : ∃ l, numS al s P = P ++ l := by
  rw [numS]; split
  · exact ⟨[], by simp⟩
  · exact ⟨[s], rfl⟩
theorem fold_pre (f : Nat → Nat) : ∀ (l : List Nat) (P : List Nat), ∃ l', l.foldl (fun P a => numS al (f a) P) P = P ++ l'
  | [], P => ⟨[], by simp⟩
  | a :: l, P => by
    obtain ⟨l1, h1⟩ := numS_pre (al := al) (f a) P
    obtain ⟨l2, h2⟩ := fold_pre f l (numS al (f a) P)
    exact ⟨l1 ++ l2, by rw [List.foldl_cons, h2, h1, List.append_assoc]⟩
theorem addsN_pre (q c a : Nat) (P : List Nat) : ∃ l, addsN al nxt q c a P = P ++ l := fold_pre (fun a => nxt q a) _ P
theorem ded_app (R l : List Nat) : ded al (R ++ l) = l.foldl (fun P s => numS al s P) (ded al R) := by simp [ded]
theorem ded_pre (R l : List Nat) : ∃ l', ded al (R ++ l) = ded al R ++ l' := by rw [ded_app]; exact fold_pre id l _
theorem any_app {P l : List Nat} {p : Nat → Bool} (h : P.any p = true) : (P ++ l).any p = true := by rw [List.any_append, h]; rfl
theorem idxA_app {P l : List Nat} {s : Nat} (h : P.any (al s) = true) : idxA al (P ++ l) s = idxA al P s := by
  rw [idxA, List.findIdx_append, idxA]
  rw [if_pos]
  rw [List.findIdx_lt_length]
  simpa using h
structure Lik (al : Nat → Nat → Bool) (nxt : Nat → Nat → Nat) (k n : Nat) : Prop where
  rf : ∀ s, s < n → al s s = true
  sy : ∀ s t, s < n → t < n → al s t = true → al t s = true
  tr : ∀ s t u, s < n → t < n → u < n → al s t = true → al t u = true → al s u = true
  st : ∀ s t a, s < n → t < n → a < k → al s t = true → al (nxt s a) (nxt t a) = true
  cl : ∀ s a, s < n → a < k → nxt s a < n
variable {n : Nat}
theorem ded_sub : ∀ (R : List Nat) (P : List Nat) (s : Nat), s ∈ R.foldl (fun P s => numS al s P) P → s ∈ P ∨ s ∈ R
  | [], P, s, h => .inl h
  | r :: R, P, s, h => by
    rw [List.foldl_cons] at h
    rcases ded_sub R _ s h with h | h
    · rw [numS] at h
      split at h
      · exact .inl h
      · rcases List.mem_append.1 h with h | h
        · exact .inl h
        · right; simp at h; simp [h]
    · right; simp [h]
theorem ded_mem {R : List Nat} {s : Nat} (h : s ∈ ded al R) : s ∈ R := by
  rcases ded_sub R [] s h with h | h
  · simp at h
  · exact h
theorem ded_len : ∀ (R P : List Nat), (R.foldl (fun P s => numS al s P) P).length ≤ P.length + R.length
  | [], P => by simp
  | r :: R, P => by
    have h := ded_len R (numS al r P)
    have h2 : (numS al r P).length ≤ P.length + 1 := by rw [numS]; split <;> simp
    rw [List.foldl_cons, List.length_cons]; omega
theorem ded_any (L : Lik al nxt k n) : ∀ (R : List Nat), (∀ s ∈ R, s < n) → ∀ s, s ∈ R → (ded al R).any (al s) = true := by
  intro R hR s hs
  obtain ⟨a, b, rfl⟩ := List.append_of_mem hs
  have h1 : ded al (a ++ s :: b) = b.foldl (fun P s => numS al s P) (numS al s (ded al a)) := by rw [ded_app, List.foldl_cons]
  have h2 : (numS al s (ded al a)).any (al s) = true := by
    rw [numS]
    split
    · assumption
    · simp [L.rf s (hR s hs)]
  obtain ⟨l, h3⟩ := fold_pre (al := al) id b (numS al s (ded al a))
  simp only [id] at h3
  rw [h1, h3]
  exact any_app h2
theorem ded_skip (L : Lik al nxt k n) {R : List Nat} (hR : ∀ s ∈ R, s < n) {s t : Nat} (hs : s < n) (ht : t ∈ R) (h : al s t = true) : numS al s (ded al R) = ded al R := by
  have h1 := ded_any L R hR t ht
  rw [List.any_eq_true] at h1
  obtain ⟨u, hu, h2⟩ := h1
  have : (ded al R).any (al s) = true := List.any_eq_true.2 ⟨u, hu, L.tr s t u hs (hR t ht) (hR u (ded_mem hu)) h h2⟩
  rw [numS, if_pos this]
variable {β : Type} {ext : β → Nat → β}
theorem bIn_ded (L : Lik al nxt k n) {q : Nat} (hq : q < n) (w : β) : ∀ (c a : Nat) (S : List Nat × List β), a + c ≤ k → (∀ s ∈ S.1, s < n) → ded al (bIn nxt ext q w c a S).1 = addsN al nxt q c a (ded al S.1)
  | 0, a, S, _, _ => rfl
  | c + 1, a, S, hc, hS => by
    rw [addsN, List.range'_succ, List.foldl_cons, bIn]
    have hn := L.cl q a hq (by omega)
    by_cases h : nxt q a ∈ S.1
    · rw [if_pos h, bIn_ded L hq w c (a + 1) S (by omega) hS, addsN, ded_skip L hS hn h (L.rf _ hn)]
    · rw [if_neg h, bIn_ded L hq w c (a + 1) _ (by omega) (fun s hs => by
        rcases List.mem_append.1 hs with hs | hs
        · exact hS s hs
        · simp at hs; rw [hs]; exact hn), addsN]
      congr 1
      simp only []
      rw [ded_app]; rfl
theorem addsN_skip (L : Lik al nxt k n) {R : List Nat} (hR : ∀ s ∈ R, s < n) {q f : Nat} (hq : q < n) (hf : f < n) (hqf : al q f = true) (hfR : ∀ a, a < k → nxt f a ∈ R) : ∀ (c a : Nat), a + c ≤ k → addsN al nxt q c a (ded al R) = ded al R
  | 0, a, _ => rfl
  | c + 1, a, hc => by
    rw [addsN, List.range'_succ, List.foldl_cons, ded_skip L hR (L.cl q a hq (by omega)) (hfR a (by omega)) (L.st q f a hq hf (by omega) hqf)]
    exact addsN_skip L hR hq hf hqf hfR c (a + 1) (by omega)
theorem bIn_has (q : Nat) (w : β) : ∀ (c a : Nat) (S : List Nat × List β) (b : Nat), a ≤ b → b < a + c → nxt q b ∈ (bIn nxt ext q w c a S).1
  | 0, a, S, b, h1, h2 => by omega
  | c + 1, a, S, b, h1, h2 => by
    rw [bIn]
    by_cases e : b = a
    · subst e
      by_cases h : nxt q b ∈ S.1
      · rw [if_pos h]
        obtain ⟨p, _, e1, _⟩ := bIn_pre nxt ext q w c (b + 1) S
        rw [e1]; exact List.mem_append_left _ h
      · rw [if_neg h]
        obtain ⟨p, _, e1, _⟩ := bIn_pre nxt ext q w c (b + 1) (S.1 ++ [nxt q b], S.2 ++ [ext w b])
        rw [e1]; simp
    · split
      · exact bIn_has q w c (a + 1) _ b (by omega) (by omega)
      · exact bIn_has q w c (a + 1) _ b (by omega) (by omega)
theorem bfs_ded (L : Lik al nxt k n) {ln : β → Nat} (hex : ∀ w a, ln (ext w a) ≤ ln w + 1) : ∀ (f i : Nat) (S : List Nat × List β), BOk (· < n) ln S → i ≤ S.1.length → n < f + i → (∀ s ∈ S.1.take i, ∀ a, a < k → nxt s a ∈ S.1) → ∀ f', n < f' + (ded al (S.1.take i)).length →
    bldN al nxt k f' (ded al (S.1.take i)).length (ded al S.1) = ded al (bfsA nxt ext k f i S).1 := by
  intro f
  induction f with
  | zero =>
    intro i S hS hi hf
    have := nodup_sub hS.nd (L := List.range n) fun x hx => List.mem_range.2 (hS.all x hx)
    simp at this
    omega
  | succ f ih =>
    intro i S hS hi hf hcl f' hf'
    have hSn : S.1.length ≤ n := by
      have := nodup_sub hS.nd (L := List.range n) fun x hx => List.mem_range.2 (hS.all x hx)
      simpa using this
    by_cases c : i < S.1.length
    · have hx := List.getElem?_eq_getElem c
      have c2 : i < S.2.length := by rw [← hS.len]; exact c
      have hw := List.getElem?_eq_getElem c2
      generalize S.1[i] = q at hx
      generalize S.2[i] = w at hw
      have hqm := List.mem_of_getElem? hx
      have hq : q < n := hS.all q hqm
      rw [bfsA, hx, hw]
      simp only []
      have hS' := bIn_ok nxt ext (ok := (· < n)) (ln := ln) (k := k) (fun x a hx ha => L.cl x a hx ha) hex q w hq k 0 S (by omega) hS (hS.wl w (List.mem_of_getElem? hw))
      obtain ⟨p, p', e1, e2⟩ := bIn_pre nxt ext q w k 0 S
      have ht : (bIn nxt ext q w k 0 S).1.take (i + 1) = S.1.take (i + 1) := by rw [e1, List.take_append_of_le_length (by omega)]
      have ht1 : S.1.take (i + 1) = S.1.take i ++ [q] := by rw [List.take_add_one, hx]; rfl
      have hd1 : ded al (S.1.take (i + 1)) = numS al q (ded al (S.1.take i)) := by rw [ht1, ded_app]; rfl
      have hb := bIn_ded (ext := ext) L hq w k 0 S (by omega) hS.all
      have hcl' : ∀ s ∈ (bIn nxt ext q w k 0 S).1.take (i + 1), ∀ a, a < k → nxt s a ∈ (bIn nxt ext q w k 0 S).1 := by
        rw [ht, ht1]
        intro s hs a ha
        rcases List.mem_append.1 hs with hs | hs
        · rw [e1]; exact List.mem_append_left _ (hcl s hs a ha)
        · simp at hs
          subst hs
          exact bIn_has s w k 0 S a (by omega) (by omega)
      have IH := ih (i + 1) (bIn nxt ext q w k 0 S) hS' (by rw [e1]; simp; omega) (by omega) hcl'
      rw [ht, hd1, hb] at IH
      have hT : ∀ s ∈ S.1.take i, s < n := fun s hs => hS.all s (List.mem_of_mem_take hs)
      by_cases hany : (ded al (S.1.take i)).any (al q) = true
      · have e3 : numS al q (ded al (S.1.take i)) = ded al (S.1.take i) := by rw [numS, if_pos hany]
        rw [e3] at IH
        rw [List.any_eq_true] at hany
        obtain ⟨g, hg, hqg⟩ := hany
        have hgt := ded_mem hg
        have hsk := addsN_skip L hS.all hq (hT g hgt) hqg (fun a ha => hcl g hgt a ha) k 0 (by omega)
        rw [hsk] at IH
        exact IH f' hf'
      · have e3 : numS al q (ded al (S.1.take i)) = ded al (S.1.take i) ++ [q] := by rw [numS, if_neg hany]
        rw [e3] at IH hd1
        have hlen : (ded al (S.1.take i)).length ≤ i := by
          have := ded_len (al := al) (S.1.take i) []
          simp [List.length_take] at this
          exact Nat.le_trans this (by omega)
        have hsp : S.1 = S.1.take (i + 1) ++ S.1.drop (i + 1) := (List.take_append_drop _ _).symm
        obtain ⟨l', hl'⟩ := ded_pre (al := al) (S.1.take (i + 1)) (S.1.drop (i + 1))
        rw [← hsp, hd1] at hl'
        match f', hf' with
        | 0, hf' => omega
        | f' + 1, hf' =>
          have hat : (ded al S.1)[(ded al (S.1.take i)).length]? = some q := by rw [hl']; simp
          rw [bldN, hat]
          simp only []
          have := IH f' (by simp; omega)
          simpa using this
    · have hi' : i = S.1.length := by omega
      have hx : S.1[i]? = none := List.getElem?_eq_none (by omega)
      rw [bfsA, hx]
      simp only []
      have : S.1.take i = S.1 := by rw [hi']; simp
      rw [this]
      cases f' with
      | zero => rfl
      | succ f' =>
        rw [bldN]
        simp
end
theorem few6 {n : Nat} {st : List Nat} (n6 : n ≤ 6) (h : st.Nodup) (ha : ∀ x ∈ st, x < n) : st.length ≤ 6 := by
  have := nodup_sub h (L := List.range n) fun x hx => List.mem_range.2 (ha x hx)
  simp at this
  omega
end Go.Proofs.Ythnpflkpjimkfaa

/-
  LISTS THAT ARE NIL OR AN OBJECT OF THEIR OWN. Conditions: none.
-/
namespace Go.Proofs.Ythnpflkpjimkfaa
open Go.AM
open Go.Proofs.Try (prog)
set_option linter.all false
set_option maxRecDepth 100000
set_option maxHeartbeats 4000000
theorem Gl.oid {m : Mem} {v : AV} {id sz n : Nat} {xs : List AV} (h : Gl m v id sz n xs) : objId v = some id := by
  obtain ⟨⟨pre, rfl, hm⟩, hn, hl⟩ := h; rfl
def Nl (h : Nat → Option AObj) (v : AV) (xs : List AV) (lo hi : Nat) : Prop := (v = .nils ∧ xs = []) ∨ ∃ R, v = .sl R 1 0 xs.length xs.length ∧ h R = some (.cells xs) ∧ lo ≤ R ∧ R < hi
section
variable {h h' : Nat → Option AObj} {v : AV} {xs : List AV} {lo hi hi' : Nat}
theorem Nl.nil : Nl h .nils [] lo hi := .inl ⟨rfl, rfl⟩
theorem Nl.fr (n : Nl h v xs lo hi) (e : ∀ y, lo ≤ y → y < hi → objId v = some y → h' y = h y) (l : hi ≤ hi') : Nl h' v xs lo hi' := by
  rcases n with ⟨rfl, rfl⟩ | ⟨R, rfl, h1, h2, h3⟩
  · exact .nil
  · exact .inr ⟨R, rfl, by rw [e R h2 h3 rfl, h1], h2, by omega⟩
theorem Nl.one (n : Nl h v xs lo hi) : v.one = true := by
  rcases n with ⟨rfl, rfl⟩ | ⟨R, rfl, h1, h2, h3⟩ <;> rfl
theorem Nl.cells (n : Nl h v xs lo hi) : v.cells = [v] := by
  rcases n with ⟨rfl, rfl⟩ | ⟨R, rfl, h1, h2, h3⟩ <;> rfl
theorem Nl.oid (n : Nl h v xs lo hi) {y : Nat} (e : objId v = some y) : lo ≤ y ∧ y < hi := by
  rcases n with ⟨rfl, rfl⟩ | ⟨R, rfl, h1, h2, h3⟩
  · cases e
  · simp [objId] at e; omega
theorem Nl.len (n : Nl h v xs lo hi) : lenSl v = some (.int .i64 xs.length) := by
  rcases n with ⟨rfl, rfl⟩ | ⟨R, rfl, h1, h2, h3⟩ <;> rfl
theorem mapO_same {f : AV → Option AV} : ∀ l : List AV, (∀ x ∈ l, f x = some x) → mapO f l = some l
  | [], _ => rfl
  | a :: l, q => by simp [mapO, q a (by simp), mapO_same l (fun x hx => q x (by simp [hx]))]
theorem Nl.deep (n : Nl h v xs lo hi) (d : Nat) (hd : ∀ x ∈ xs, AM.deep h d x = some x) (h0 : v ≠ .nils) : AM.deep h (d + 1) v = some (.fsl false xs.length xs) := by
  rcases n with ⟨rfl, rfl⟩ | ⟨R, rfl, h1, h2, h3⟩
  · exact absurd rfl h0
  · simp [AM.deep, h1, mapO_same xs hd]
theorem Nl.nn (n : Nl h v xs lo hi) (h0 : xs ≠ []) : v ≠ .nils := by
  rcases n with ⟨rfl, rfl⟩ | ⟨R, rfl, h1, h2, h3⟩
  · exact absurd rfl h0
  · simp
theorem Nl.sl (n : Nl h v xs lo hi) (h0 : v ≠ .nils) : ∃ R, v = .sl R 1 0 xs.length xs.length ∧ h R = some (.cells xs) ∧ lo ≤ R ∧ R < hi := by
  rcases n with ⟨rfl, rfl⟩ | h
  · exact absurd rfl h0
  · exact h
theorem Nl.app {nx by' : Nat} (n : Nl h v xs lo hi) (hh : hi ≤ nx) (hl : lo ≤ nx) (hr : room (xs.length + 1) by' = true) (y : AV) :
    ∃ v' h' nx', appT 1 by' ⟨h, nx⟩ v (some (1, [y])) = some (v', ⟨h', nx'⟩) ∧ Nl h' v' (xs ++ [y]) lo nx' ∧ nx ≤ nx' ∧ nx' ≤ nx + 1 ∧ (∀ z, objId v' = some z → objId v = some z ∨ z = nx) ∧ (∀ z, objId v' ≠ some z → h' z = h z) ∧ v' ≠ .nils := by
  rcases n with ⟨rfl, rfl⟩ | ⟨R, rfl, h1, h2, h3⟩
  · refine ⟨.sl nx 1 0 1 1, upd h nx (some (.cells [y])), nx + 1, ?_, .inr ⟨nx, rfl, by simp, hl, by omega⟩, by omega, by omega, fun z e => .inr (by simp [objId] at e; omega), fun z e => updNe (fun q => e (by rw [q]; rfl)), by simp⟩
    simp at hr
    simp [Mem.new, hr]
  · refine ⟨.sl R 1 0 (xs.length + 1) (xs.length + 1), upd h R (some (.cells (xs ++ [y]))), nx, ?_, .inr ⟨R, by simp, by simp, h2, by omega⟩, by omega, by omega, fun z e => .inl e, fun z e => updNe (fun q => e (by rw [q]; rfl)), by simp⟩
    simp at hr
    simp [h1, hr.1, hr.2]
end
end Go.Proofs.Ythnpflkpjimkfaa

/-
  THE LEAST WORD THAT ONLY ONE OF TWO BRANDS ACCEPTS: the program's search. Conditions: none.
-/
namespace Go.Proofs.Ythnpflkpjimkfaa
open Go.AM
open Go.Proofs.Try (prog)
set_option linter.all false
set_option maxRecDepth 100000
set_option maxHeartbeats 8000000
def extL (w : List UInt8) (a : Nat) : List UInt8 := w ++ ltr a
end Go.Proofs.Ythnpflkpjimkfaa
