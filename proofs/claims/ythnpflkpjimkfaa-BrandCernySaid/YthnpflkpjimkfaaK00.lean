/-
  THE LIBRARY'S COMPARISON AND SORT OF STRINGS, AS THEOREMS OF THIS PROGRAM (the shelf's contract). Conditions: none.
-/
import Derived.Shelf.Small.Strs
import Derived.Shelf.Sort.Plain
import Derived.Test.YthnpflkpjimkfaaKAmH
import Derived.Test.YthnpflkpjimkfaaKAmC
import Derived.Test.YthnpflkpjimkfaaKAmG
import Derived.Test.YthnpflkpjimkfaaKAmF
import Derived.Test.YthnpflkpjimkfaaKAmE
set_option linter.all false
namespace Go.Proofs.Ythnpflkpjimkfaa
open Go.Shelf Go.Proofs Go.AM
open Go.Proofs.Try (prog)
set_option maxRecDepth 100000
def cmpRen : Go.Shelf.Ren := ⟨fun | 106 => 86 | 213 => 94 | 265 => 108 | n => n, fun n => n, fun n => n⟩
theorem cmpLays : Lays.n106 Try.prog cmpRen where
  mixed := by kernel_rfl
  f106 := Try.func86.trans (congrArg some (by kernel_rfl))
  f213 := Try.func94.trans (congrArg some (by kernel_rfl))
  f265 := Try.func108.trans (congrArg some (by kernel_rfl))
  t3 := Try.underlying3
  a3 := Try.isAgg3
  z3 := Try.sizeOf3
  v3 := Try.zeroValue3
  t9 := Try.underlying9
  a9 := Try.isAgg9
  z9 := Try.sizeOf9
  v9 := Try.zeroValue9
theorem cmp_same : ∀ a b : List UInt8, Lib.compareBytes a b = cmpL a b
  | [], [] => rfl
  | [], _ :: _ => rfl
  | _ :: _, [] => rfl
  | a :: x, b :: y => by rw [Lib.compareBytes, cmpL, cmp_same x y]
def sortRen : Go.Shelf.Ren := ⟨fun | 190 => 85 | 125 => 93 | 258 => 92 | 128 => 106 | 129 => 107 | 302 => 97 | 303 => 98 | 304 => 99 | 305 => 100 | 306 => 101 | 307 => 102 | 308 => 103 | 309 => 104 | 310 => 105 | 333 => 109 | 329 => 110 | 330 => 111 | 334 => 112 | 335 => 113 | 336 => 114 | 344 => 115 | n => n, fun | 31 => 57 | 9 => 9 | 3 => 3 | 46 => 151 | 0 => 0 | 51 => 161 | 53 => 163 | 4 => 4 | 183 => 155 | 182 => 154 | 131 => 84 | 5 => 5 | 218 => 164 | 222 => 168 | 228 => 171 | 229 => 172 | n => n, fun n => n⟩
theorem sortLays : Lays.n190 Try.prog sortRen where
  mixed := by kernel_rfl
  f125 := Try.func93.trans (congrArg some (by kernel_rfl))
  f128 := Try.func106.trans (congrArg some (by kernel_rfl))
  f129 := Try.func107.trans (congrArg some (by kernel_rfl))
  f190 := Try.func85.trans (congrArg some (by kernel_rfl))
  f258 := Try.func92.trans (congrArg some (by kernel_rfl))
  f302 := Try.func97.trans (congrArg some (by kernel_rfl))
  f303 := Try.func98.trans (congrArg some (by kernel_rfl))
  f304 := Try.func99.trans (congrArg some (by kernel_rfl))
  f305 := Try.func100.trans (congrArg some (by kernel_rfl))
  f306 := Try.func101.trans (congrArg some (by kernel_rfl))
  f307 := Try.func102.trans (congrArg some (by kernel_rfl))
  f308 := Try.func103.trans (congrArg some (by kernel_rfl))
  f309 := Try.func104.trans (congrArg some (by kernel_rfl))
  f310 := Try.func105.trans (congrArg some (by kernel_rfl))
  f329 := Try.func110.trans (congrArg some (by kernel_rfl))
  f330 := Try.func111.trans (congrArg some (by kernel_rfl))
  f333 := Try.func109.trans (congrArg some (by kernel_rfl))
  f334 := Try.func112.trans (congrArg some (by kernel_rfl))
  f335 := Try.func113.trans (congrArg some (by kernel_rfl))
  f336 := Try.func114.trans (congrArg some (by kernel_rfl))
  f344 := Try.func115.trans (congrArg some (by kernel_rfl))
  t0 := Try.underlying0
  a0 := Try.isAgg0
  z0 := Try.sizeOf0
  v0 := Try.zeroValue0
  t3 := Try.underlying3
  a3 := Try.isAgg3
  z3 := Try.sizeOf3
  v3 := Try.zeroValue3
  t4 := Try.underlying4
  a4 := Try.isAgg4
  z4 := Try.sizeOf4
  v4 := Try.zeroValue4
  t5 := Try.underlying5
  a5 := Try.isAgg5
  z5 := Try.sizeOf5
  v5 := Try.zeroValue5
  t9 := Try.underlying9
  a9 := Try.isAgg9
  z9 := Try.sizeOf9
  v9 := Try.zeroValue9
  t31 := Try.underlying57
  a31 := Try.isAgg57
  z31 := Try.sizeOf57
  v31 := Try.zeroValue57
  t46 := Try.underlying151
  a46 := Try.isAgg151
  z46 := Try.sizeOf151
  v46 := Try.zeroValue151
  t51 := Try.underlying161
  a51 := Try.isAgg161
  z51 := Try.sizeOf161
  v51 := Try.zeroValue161
  t53 := Try.underlying163
  a53 := Try.isAgg163
  z53 := Try.sizeOf163
  v53 := Try.zeroValue163
  t131 := Try.underlying84
  a131 := Try.isAgg84
  z131 := Try.sizeOf84
  v131 := Try.zeroValue84
  t182 := Try.underlying154
  a182 := Try.isAgg154
  z182 := Try.sizeOf154
  v182 := Try.zeroValue154
  t183 := Try.underlying155
  a183 := Try.isAgg155
  z183 := Try.sizeOf155
  v183 := Try.zeroValue155
  t218 := Try.underlying164
  a218 := Try.isAgg164
  z218 := Try.sizeOf164
  v218 := Try.zeroValue164
  t222 := Try.underlying168
  a222 := Try.isAgg168
  z222 := Try.sizeOf168
  v222 := Try.zeroValue168
  t228 := Try.underlying171
  a228 := Try.isAgg171
  z228 := Try.sizeOf171
  v228 := Try.zeroValue171
  t229 := Try.underlying172
  a229 := Try.isAgg172
  z229 := Try.sizeOf172
  v229 := Try.zeroValue172
theorem libS : ∀ g, (ann g).srt = true → LibCalls prog ann g := fun g h => by
  have := srt_only (l := annL) (d := ⟨false, [], [], [], []⟩) rfl (fun g => g == 86 || g == 85) (by kernel_rfl) g h
  have e : g = 86 ∨ g = 85 := by simpa using this
  rcases e with rfl | rfl
  · refine ⟨fun _ a b w => ?_, fun h => ?_, fun h => ?_⟩
    · refine (Any.strings_Compare cmpLays a b w).mono ?_
      rintro e w' ⟨rfl, rfl⟩
      exact ⟨by rw [cmp_same], rfl⟩
    · have : (ann 86).cmp = true := by kernel_rfl
      rw [this] at h; cases h
    · have : (ann 86).cmp = true := by kernel_rfl
      rw [this] at h; cases h
  · refine ⟨fun h => ?_, fun _ _ => ?_, fun _ h => ?_⟩
    · have : (ann 85).cmp = false := by kernel_rfl
      rw [this] at h; cases h
    · exact fun blk off cap zs w hH hblk hsz => Any.slices_Sort_string sortLays blk off cap zs w hH hblk hsz
    · have : (ann 85).sts = true := by kernel_rfl
      rw [this] at h; cases h
end Go.Proofs.Ythnpflkpjimkfaa

/-
  SLICES WHOSE ELEMENTS ARE THEMSELVES SLICES, AS VALUES. Conditions: none.
-/
namespace Go.AM
set_option linter.all false
def cAt (cs : List AV) (i : Nat) : AV := cs.getD i .undef
theorem cAt_eq {cs : List AV} {i : Nat} (h : i < cs.length) : cs[i]? = some (cAt cs i) := by
  rw [List.getElem?_eq_getElem h]; simp [cAt, List.getD, List.getElem?_eq_getElem h]
theorem cAt_load {cs : List AV} {i : Nat} (h : i < cs.length) : loadF false 1 (.fptr (cs.drop i)) = some (cAt cs i) := by
  simp [List.head?_drop, cAt_eq h]
def gth {α : Type} [Inhabited α] (l : List α) (i : Nat) : α := l.getD i default
structure IsVec {α : Type} [Inhabited α] (R : AV → α → Prop) (v : AV) (cs : List AV) (l : List α) : Prop where
  n : cs.length = l.length
  rel : ∀ i, i < l.length → R (cAt cs i) (gth l i)
  cl : closedL cs = true
  v : (v = .nils ∧ l = []) ∨ ∃ ex, v = .fsl ex l.length cs
section
variable {α : Type} [Inhabited α] {R : AV → α → Prop} {v : AV} {cs : List AV} {l : List α}
theorem IsVec.closed (h : IsVec R v cs l) : v.closed = true := by rcases h.v with ⟨rfl, _⟩ | ⟨_, rfl⟩ <;> rfl
theorem IsVec.one (h : IsVec R v cs l) : v.one = true := by rcases h.v with ⟨rfl, _⟩ | ⟨_, rfl⟩ <;> rfl
theorem IsVec.cells (h : IsVec R v cs l) : v.cells = [v] := by rcases h.v with ⟨rfl, _⟩ | ⟨_, rfl⟩ <;> rfl
theorem IsVec.len (h : IsVec R v cs l) : lenSl v = some (.int .i64 l.length) := by rcases h.v with ⟨rfl, rfl⟩ | ⟨_, rfl⟩ <;> simp
theorem IsVec.deep (h : IsVec R v cs l) (hp : Nat → Option AObj) (d : Nat) : AM.deep hp (d + 1) v = some v := by rcases h.v with ⟨rfl, _⟩ | ⟨_, rfl⟩ <;> rfl
theorem IsVec.frz (h : IsVec R v cs l) (m : Mem) : frzV v m = some (v, m) := by rcases h.v with ⟨rfl, _⟩ | ⟨_, rfl⟩ <;> rfl
theorem IsVec.idx (h : IsVec R v cs l) {i : Nat} (hi : i < l.length) (k : IntKind) : idxSl 1 v (.int k (i : Int)) = some (.fptr (cs.drop i)) := by
  rcases h.v with ⟨rfl, rfl⟩ | ⟨_, rfl⟩
  · simp at hi
  · simp [hi]
theorem IsVec.load (h : IsVec R v cs l) {i : Nat} (hi : i < l.length) : loadF false 1 (.fptr (cs.drop i)) = some (cAt cs i) := cAt_load (by rw [h.n]; exact hi)
theorem IsVec.at (h : IsVec R v cs l) {i : Nat} (hi : i < l.length) : R (cAt cs i) (gth l i) := h.rel i hi
end
def bnth (l : List Bool) (i : Nat) : Bool := l.getD i false
end Go.AM

/-
  LISTS OF NUMBERS: what all laws share. Conditions: none.
-/
namespace Go.AM
set_option linter.all false
theorem updNe {h : Nat → Option AObj} {i j : Nat} {o : Option AObj} (e : j ≠ i) : upd h i o j = h j := by simp [upd, show (j == i) = false from beq_eq_false_iff_ne.2 e]
end Go.AM

/-
  BODIES OF FUNCTIONS OF THE PROGRAM AS SMALL OPERATIONS (written by gen.py; checked by the kernel against the program). Conditions: none.
-/
namespace Go.Proofs.Ythnpflkpjimkfaa
open Go.AM
open Go.Proofs.Try (prog)
set_option maxRecDepth 100000
set_option linter.all false
namespace r07_Word
noncomputable section
variable (K : List Item) (s : St)
def b : Code := (Try.f24.body).getD .skip
theorem hf : prog.funcs[24]? = some Try.f24 := by kernel_rfl
def r0 := findReg b 0
def r1 := findReg b 1
def i0 := findCond b 0
def i0t := thenOf i0
def i0e := elseOf i0
def r2 := findReg b 2
def r3 := findReg b 3
def k0 := findBlk b 0
def l0 := loopOf k0
def L0 (x1 x2 x5 : AV) (m : Mem) (K : List Item) : Option Res := den prog ann 24 (.code l0 :: .inLoop l0 :: .inBlock 0 :: K) ⟨[(1, x1), (2, x2), (5, x5)], 32, m⟩
def r4 := findReg b 4
def i1 := findCond b 1
def i1t := thenOf i1
def i1e := elseOf i1
def k1 := findBlk b 1
def r6 := findReg b 6
def i2 := findCond b 2
def i2t := thenOf i2
def i2e := elseOf i2
def r7 := findReg b 7
def r5 := findReg b 5
def r8 := findReg b 8
theorem b_eq : den prog ann 24 (.code b :: K) s = den prog ann 24 (.code r0 :: .code r1 :: .code i0 :: .code r3 :: .code k0 :: .code r8 :: .code .ret :: K) s := den_flat hf (l := [r0, r1, i0, r3, k0, r8, .ret]) (by kernel_rfl) K s
theorem r0_eq : den prog ann 24 (.code r0 :: K) s = mreg prog ann 24 none [] none [] [qA 2 frozenPtr 0,qF 4 fun s => some (.int .i64 0)] K s := (den_reg hf _ K s).trans (by kernel_rfl)
theorem r1_eq : den prog ann 24 (.code r1 :: K) s = mreg prog ann 24 none [] none [] [qC 6 1,qA 7 lenStr 6,qF 8 fun s => binA prog .gtr 3 (s.get 7) (.int .i64 200)] K s := (den_reg hf _ K s).trans (by kernel_rfl)
theorem i0_eq : den prog ann 24 (.code i0 :: K) s = ifV prog ann 24 8 i0t i0e K s (s.get 8) := den_if hf (by kernel_rfl) K s
theorem i0t_eq : den prog ann 24 (.code i0t :: K) s = den prog ann 24 (.code r2 :: .code .ret :: K) s := den_flat hf (l := [r2, .ret]) (by kernel_rfl) K s
theorem r2_eq : den prog ann 24 (.code r2 :: K) s = mreg prog ann 24 none [] none [] [qF 4 fun s => some (.int .i64 3)] K s := (den_reg hf _ K s).trans (by kernel_rfl)
theorem i0e_eq : den prog ann 24 (.code i0e :: K) s = den prog ann 24 (K) s := den_flat hf (l := []) (by kernel_rfl) K s
theorem r3_eq : den prog ann 24 (.code r3 :: K) s = mreg prog ann 24 none [] none [] [qF 5 fun s => some (.int .i64 0)] K s := (den_reg hf _ K s).trans (by kernel_rfl)
theorem k0_eq (K : List Item) (t : List (Nat × AV)) (m : Mem) : den prog ann 24 (.code k0 :: K) ⟨t, 32, m⟩ = L0 (get t 1) (get t 2) (get t 5) m K := den_loop_enter hf (b := l0) (id := 4) (l := [1, 2, 5]) (by kernel_rfl) (by kernel_rfl) (by kernel_rfl) K _
theorem l0_eq (K : List Item) (t : List (Nat × AV)) (m : Mem) : den prog ann 24 (.inLoop l0 :: .inBlock 0 :: K) ⟨t, 32, m⟩ = L0 (get t 1) (get t 2) (get t 5) m K := den_loop_again hf (id := 4) (l := [1, 2, 5]) (by kernel_rfl) (by kernel_rfl) (.inBlock 0 :: K) _
theorem L0_eq (x1 x2 x5 : AV) (m : Mem) (K : List Item) : L0 x1 x2 x5 m K = den prog ann 24 (.code r4 :: .code i1 :: .code k1 :: .code r5 :: .inLoop l0 :: .inBlock 0 :: K) ⟨[(1, x1), (2, x2), (5, x5)], 32, m⟩ := den_flat hf (l := [r4, i1, k1, r5]) (by kernel_rfl) _ _
theorem r4_eq : den prog ann 24 (.code r4 :: K) s = mreg prog ann 24 (some [1, 2, 5]) [] none [] [qC 9 5,qC 10 1,qA 11 lenStr 10,qB 12 (binA prog .lss 3) 9 11] K s := (den_reg hf _ K s).trans (by kernel_rfl)
theorem i1_eq : den prog ann 24 (.code i1 :: K) s = ifV prog ann 24 12 i1t i1e K s (s.get 12) := den_if hf (by kernel_rfl) K s
theorem i1t_eq : den prog ann 24 (.code i1t :: K) s = den prog ann 24 (K) s := den_flat hf (l := []) (by kernel_rfl) K s
theorem i1e_eq : den prog ann 24 (.code i1e :: K) s = den prog ann 24 (.code (.exit 0) :: K) s := den_flat hf (l := [(.exit 0)]) (by kernel_rfl) K s
theorem k1_eq : den prog ann 24 (.code k1 :: K) s = den prog ann 24 (.code r6 :: .code i2 :: .inBlock 1 :: K) s := den_blk hf (b := blkOf k1) (l := [r6, i2]) (by kernel_rfl) (by kernel_rfl) K s
theorem r6_draw : drawOk (fun g => (ann g).pure) (modeOf (ann 24) (idOf r6)) (frzOf (ann 24) (idOf r6)) (opsOf r6) = true := drawOk_of (an := [0, 0, 3, 7, 15, 31, 31, 127, 255, 511, 31, 1055, 3103, 7199, 15391, 32767, 65535]) (by kernel_rfl) (by kernel_rfl)
theorem r6_eq : den prog ann 24 (.code r6 :: K) s = mreg prog ann 24 none [] (some 17) [] [qC 15 1,qC 16 5,qB 17 idxStr 15 16,qF 18 fun s => binA prog .lss 5 (s.get 17) (.int .u8 97),qC 19 18,⟨some 20, some (19, false), .v fun s => some (s.get 1)⟩,⟨some 21, some (19, false), .v fun s => some (s.get 5)⟩,⟨some 22, some (19, false), .v fun s => idxStr (s.get 20) (s.get 21)⟩,⟨some 23, some (19, false), .v fun s => binA prog .sub 5 (s.get 22) (.int .u8 97)⟩,⟨some 24, some (19, false), .v fun s => convInt .i64 (s.get 23)⟩,⟨some 25, some (19, false), .v fun s => fieldA 0 (s.get 2)⟩,⟨some 26, some (19, false), .v fun s => loadF false 1 (s.get 25)⟩,⟨some 27, some (19, false), .v fun s => idxSl 1 (s.get 26) (.int .i64 0)⟩,⟨some 28, some (19, false), .v fun s => loadF false 1 (s.get 27)⟩,⟨some 29, some (19, false), .v fun s => lenSl (s.get 28)⟩,⟨some 30, some (19, false), .v fun s => binA prog .geq 3 (s.get 24) (s.get 29)⟩,qF 31 fun s => pickA (s.get 19) (.bool true) (s.get 30)] K s := (den_regD hf r6_draw K s).trans (by kernel_rfl)
theorem i2_eq : den prog ann 24 (.code i2 :: K) s = ifV prog ann 24 31 i2t i2e K s (s.get 31) := den_if hf (by kernel_rfl) K s
theorem i2t_eq : den prog ann 24 (.code i2t :: K) s = den prog ann 24 (.code r7 :: .code .ret :: K) s := den_flat hf (l := [r7, .ret]) (by kernel_rfl) K s
theorem r7_eq : den prog ann 24 (.code r7 :: K) s = mreg prog ann 24 none [] none [] [qF 4 fun s => some (.int .i64 2)] K s := (den_reg hf _ K s).trans (by kernel_rfl)
theorem i2e_eq : den prog ann 24 (.code i2e :: K) s = den prog ann 24 (K) s := den_flat hf (l := []) (by kernel_rfl) K s
theorem r5_eq : den prog ann 24 (.code r5 :: K) s = mreg prog ann 24 (some [1, 2, 5]) [] none [] [qC 13 5,qF 14 fun s => binA prog .add 3 (s.get 13) (.int .i64 1),qC 5 14] K s := (den_reg hf _ K s).trans (by kernel_rfl)
theorem r8_eq : den prog ann 24 (.code r8 :: K) s = mreg prog ann 24 (some []) [] none [] [qF 4 fun s => some (.int .i64 0)] K s := (den_reg hf _ K s).trans (by kernel_rfl)
theorem ret_eq : den prog ann 24 (.code .ret :: K) s = finM true [fun s => some (s.get 4)] s := (den_ret hf K s).trans (by kernel_rfl)
theorem nil_eq (s : St) : den prog ann 24 [] s = finM true [fun s => some (s.get 4)] s := (den_nil hf s).trans (by kernel_rfl)
theorem inBlock_eq (id : Nat) (K : List Item) (s : St) : den prog ann 24 (.inBlock id :: K) s = den prog ann 24 K s := den_inBlock hf id K s
theorem exit_eq (id : Nat) (K : List Item) (s : St) : den prog ann 24 (.code (.exit id) :: K) s = exitV prog ann 24 (exitTo id K) s := den_exitV hf id K s
theorem call_eq (v0 v1 : AV) (m : Mem) (h : closedL [v0, v1] = true) : denC prog ann 24 [v0, v1] m = (den prog ann 24 [.code b] ⟨[(0, v0), (1, v1)], 32, Mem.empty⟩).bind fun r => some (r.1, m) := (denC_pure hf (b := b) (by kernel_rfl) (by kernel_rfl) (by kernel_rfl) h m).trans (by kernel_rfl)
theorem pure_eq : (ann 24).pure = true := by kernel_rfl
attribute [simp] b_eq r0_eq r1_eq i0_eq i0t_eq r2_eq i0e_eq r3_eq k0_eq l0_eq r4_eq i1_eq i1t_eq i1e_eq k1_eq r6_eq i2_eq i2t_eq r7_eq i2e_eq r5_eq r8_eq ret_eq nil_eq inBlock_eq exit_eq pure_eq
end
end r07_Word
namespace r07_Go
noncomputable section
variable (K : List Item) (s : St)
def b : Code := (Try.f25.body).getD .skip
theorem hf : prog.funcs[25]? = some Try.f25 := by kernel_rfl
def r0 := findReg b 0
def r1 := findReg b 1
def k0 := findBlk b 0
def l0 := loopOf k0
def L0 (x1 x2 x3 x7 : AV) (m : Mem) (K : List Item) : Option Res := den prog ann 25 (.code l0 :: .inLoop l0 :: .inBlock 0 :: K) ⟨[(1, x1), (2, x2), (3, x3), (7, x7)], 26, m⟩
def r2 := findReg b 2
def i0 := findCond b 0
def i0t := thenOf i0
def i0e := elseOf i0
def k1 := findBlk b 1
def r4 := findReg b 4
def r3 := findReg b 3
def r5 := findReg b 5
theorem b_eq : den prog ann 25 (.code b :: K) s = den prog ann 25 (.code r0 :: .code r1 :: .code k0 :: .code r5 :: .code .ret :: K) s := den_flat hf (l := [r0, r1, k0, r5, .ret]) (by kernel_rfl) K s
theorem r0_eq : den prog ann 25 (.code r0 :: K) s = mreg prog ann 25 none [] none [] [qA 3 frozenPtr 0,qF 6 fun s => some (.int .i64 0)] K s := (den_reg hf _ K s).trans (by kernel_rfl)
theorem r1_eq : den prog ann 25 (.code r1 :: K) s = mreg prog ann 25 none [] none [] [qF 7 fun s => some (.int .i64 0)] K s := (den_reg hf _ K s).trans (by kernel_rfl)
theorem k0_eq (K : List Item) (t : List (Nat × AV)) (m : Mem) : den prog ann 25 (.code k0 :: K) ⟨t, 26, m⟩ = L0 (get t 1) (get t 2) (get t 3) (get t 7) m K := den_loop_enter hf (b := l0) (id := 2) (l := [1, 2, 3, 7]) (by kernel_rfl) (by kernel_rfl) (by kernel_rfl) K _
theorem l0_eq (K : List Item) (t : List (Nat × AV)) (m : Mem) : den prog ann 25 (.inLoop l0 :: .inBlock 0 :: K) ⟨t, 26, m⟩ = L0 (get t 1) (get t 2) (get t 3) (get t 7) m K := den_loop_again hf (id := 2) (l := [1, 2, 3, 7]) (by kernel_rfl) (by kernel_rfl) (.inBlock 0 :: K) _
theorem L0_eq (x1 x2 x3 x7 : AV) (m : Mem) (K : List Item) : L0 x1 x2 x3 x7 m K = den prog ann 25 (.code r2 :: .code i0 :: .code k1 :: .code r3 :: .inLoop l0 :: .inBlock 0 :: K) ⟨[(1, x1), (2, x2), (3, x3), (7, x7)], 26, m⟩ := den_flat hf (l := [r2, i0, k1, r3]) (by kernel_rfl) _ _
theorem r2_eq : den prog ann 25 (.code r2 :: K) s = mreg prog ann 25 (some [1, 2, 3, 7]) [] none [] [qC 8 7,qC 9 2,qA 10 lenStr 9,qB 11 (binA prog .lss 3) 8 10] K s := (den_reg hf _ K s).trans (by kernel_rfl)
theorem i0_eq : den prog ann 25 (.code i0 :: K) s = ifV prog ann 25 11 i0t i0e K s (s.get 11) := den_if hf (by kernel_rfl) K s
theorem i0t_eq : den prog ann 25 (.code i0t :: K) s = den prog ann 25 (K) s := den_flat hf (l := []) (by kernel_rfl) K s
theorem i0e_eq : den prog ann 25 (.code i0e :: K) s = den prog ann 25 (.code (.exit 0) :: K) s := den_flat hf (l := [(.exit 0)]) (by kernel_rfl) K s
theorem k1_eq : den prog ann 25 (.code k1 :: K) s = den prog ann 25 (.code r4 :: .inBlock 1 :: K) s := den_blk hf (b := blkOf k1) (l := [r4]) (by kernel_rfl) (by kernel_rfl) K s
theorem r4_draw : drawOk (fun g => (ann g).pure) (modeOf (ann 25) (idOf r4)) (frzOf (ann 25) (idOf r4)) (opsOf r4) = true := drawOk_of (an := [0, 1, 0, 7, 15, 0, 0, 96, 224, 511, 1023, 2047]) (by kernel_rfl) (by kernel_rfl)
theorem r4_eq : den prog ann 25 (.code r4 :: K) s = mreg prog ann 25 none [] (some 12) [] [qA 14 (fieldA 0) 3,qA 15 (loadF false 1) 14,qC 16 1,qB 17 (idxSl 1) 15 16,qA 18 (loadF false 1) 17,qC 19 2,qC 20 7,qB 21 idxStr 19 20,qF 22 fun s => binA prog .sub 5 (s.get 21) (.int .u8 97),qB 23 (idxSl 1) 18 22,qA 24 (loadF false 1) 23,qC 1 24] K s := (den_regD hf r4_draw K s).trans (by kernel_rfl)
theorem r3_eq : den prog ann 25 (.code r3 :: K) s = mreg prog ann 25 (some [1, 2, 3, 7]) [] none [] [qC 12 7,qF 13 fun s => binA prog .add 3 (s.get 12) (.int .i64 1),qC 7 13] K s := (den_reg hf _ K s).trans (by kernel_rfl)
theorem r5_eq : den prog ann 25 (.code r5 :: K) s = mreg prog ann 25 (some [1]) [] none [] [qC 25 1,qC 6 25] K s := (den_reg hf _ K s).trans (by kernel_rfl)
theorem ret_eq : den prog ann 25 (.code .ret :: K) s = finM true [fun s => some (s.get 6)] s := (den_ret hf K s).trans (by kernel_rfl)
theorem nil_eq (s : St) : den prog ann 25 [] s = finM true [fun s => some (s.get 6)] s := (den_nil hf s).trans (by kernel_rfl)
theorem inBlock_eq (id : Nat) (K : List Item) (s : St) : den prog ann 25 (.inBlock id :: K) s = den prog ann 25 K s := den_inBlock hf id K s
theorem exit_eq (id : Nat) (K : List Item) (s : St) : den prog ann 25 (.code (.exit id) :: K) s = exitV prog ann 25 (exitTo id K) s := den_exitV hf id K s
theorem call_eq (v0 v1 v2 : AV) (m : Mem) (h : closedL [v0, v1, v2] = true) : denC prog ann 25 [v0, v1, v2] m = (den prog ann 25 [.code b] ⟨[(0, v0), (1, v1), (2, v2)], 26, Mem.empty⟩).bind fun r => some (r.1, m) := (denC_pure hf (b := b) (by kernel_rfl) (by kernel_rfl) (by kernel_rfl) h m).trans (by kernel_rfl)
theorem pure_eq : (ann 25).pure = true := by kernel_rfl
attribute [simp] b_eq r0_eq r1_eq k0_eq l0_eq r2_eq i0_eq i0t_eq i0e_eq k1_eq r4_eq r3_eq r5_eq ret_eq nil_eq inBlock_eq exit_eq pure_eq
end
end r07_Go
namespace brand_valid
noncomputable section
variable (K : List Item) (s : St)
def b : Code := (Try.f55.body).getD .skip
theorem hf : prog.funcs[55]? = some Try.f55 := by kernel_rfl
def r0 := findReg b 0
def r1 := findReg b 1
def r2 := findReg b 2
def i0 := findCond b 0
def i0t := thenOf i0
def i0e := elseOf i0
def r3 := findReg b 3
def r4 := findReg b 4
def r5 := findReg b 5
def i1 := findCond b 1
def i1t := thenOf i1
def i1e := elseOf i1
def r6 := findReg b 6
def r7 := findReg b 7
def k0 := findBlk b 0
def l0 := loopOf k0
def L0 (x3 x4 x35 x36 x37 : AV) (m : Mem) (K : List Item) : Option Res := den prog ann 55 (.code l0 :: .inLoop l0 :: .inBlock 0 :: K) ⟨[(3, x3), (4, x4), (35, x35), (36, x36), (37, x37)], 57, m⟩
def r8 := findReg b 8
def i2 := findCond b 2
def i2t := thenOf i2
def i2e := elseOf i2
def k1 := findBlk b 1
def r9 := findReg b 9
def r10 := findReg b 10
def i3 := findCond b 3
def i3t := thenOf i3
def i3e := elseOf i3
def r11 := findReg b 11
def r12 := findReg b 12
def r13 := findReg b 13
theorem b_eq : den prog ann 55 (.code b :: K) s = den prog ann 55 (.code r0 :: .code r1 :: .code r2 :: .code i0 :: .code r4 :: .code r5 :: .code i1 :: .code r7 :: .code k0 :: .code r13 :: .code .ret :: K) s := den_flat hf (l := [r0, r1, r2, i0, r4, r5, i1, r7, k0, r13, .ret]) (by kernel_rfl) K s
theorem r0_eq : den prog ann 55 (.code r0 :: K) s = mreg prog ann 55 none [] none [] [qA 1 frozenPtr 0,qF 2 fun s => some (.bool false)] K s := (den_reg hf _ K s).trans (by kernel_rfl)
theorem r1_eq : den prog ann 55 (.code r1 :: K) s = mreg prog ann 55 none [] none [] [qA 7 (fieldA 0) 1,qA 8 (loadF false 1) 7,qA 9 lenSl 8,qC 3 9] K s := (den_reg hf _ K s).trans (by kernel_rfl)
theorem r2_eq : den prog ann 55 (.code r2 :: K) s = mreg prog ann 55 none [] none [] [qC 10 3,qF 11 fun s => binA prog .lss 3 (s.get 10) (.int .i64 1),qC 12 11,⟨some 13, some (12, false), .v fun s => some (s.get 3)⟩,⟨some 14, some (12, false), .v fun s => binA prog .gtr 3 (s.get 13) (.int .i64 6)⟩,qF 15 fun s => pickA (s.get 12) (.bool true) (s.get 14),qC 16 15,⟨some 17, some (16, false), .v fun s => fieldA 1 (s.get 1)⟩,⟨some 18, some (16, false), .v fun s => loadF false 1 (s.get 17)⟩,⟨some 19, some (16, false), .v fun s => lenSl (s.get 18)⟩,⟨some 20, some (16, false), .v fun s => some (s.get 3)⟩,⟨some 21, some (16, false), .v fun s => binA prog .neq 3 (s.get 19) (s.get 20)⟩,qF 22 fun s => pickA (s.get 16) (.bool true) (s.get 21)] K s := (den_reg hf _ K s).trans (by kernel_rfl)
theorem i0_eq : den prog ann 55 (.code i0 :: K) s = ifV prog ann 55 22 i0t i0e K s (s.get 22) := den_if hf (by kernel_rfl) K s
theorem i0t_eq : den prog ann 55 (.code i0t :: K) s = den prog ann 55 (.code r3 :: .code .ret :: K) s := den_flat hf (l := [r3, .ret]) (by kernel_rfl) K s
theorem r3_eq : den prog ann 55 (.code r3 :: K) s = mreg prog ann 55 none [] none [] [qF 2 fun s => some (.bool false)] K s := (den_reg hf _ K s).trans (by kernel_rfl)
theorem i0e_eq : den prog ann 55 (.code i0e :: K) s = den prog ann 55 (K) s := den_flat hf (l := []) (by kernel_rfl) K s
theorem r4_eq : den prog ann 55 (.code r4 :: K) s = mreg prog ann 55 none [] none [] [qA 23 (fieldA 0) 1,qA 24 (loadF false 1) 23,qF 25 fun s => idxSl 1 (s.get 24) (.int .i64 0),qA 26 (loadF false 1) 25,qA 27 lenSl 26,qC 4 27] K s := (den_reg hf _ K s).trans (by kernel_rfl)
theorem r5_eq : den prog ann 55 (.code r5 :: K) s = mreg prog ann 55 none [] none [] [qC 28 4,qF 29 fun s => binA prog .lss 3 (s.get 28) (.int .i64 1),qC 30 29,⟨some 31, some (30, false), .v fun s => some (s.get 4)⟩,⟨some 32, some (30, false), .v fun s => binA prog .gtr 3 (s.get 31) (.int .i64 3)⟩,qF 33 fun s => pickA (s.get 30) (.bool true) (s.get 32)] K s := (den_reg hf _ K s).trans (by kernel_rfl)
theorem i1_eq : den prog ann 55 (.code i1 :: K) s = ifV prog ann 55 33 i1t i1e K s (s.get 33) := den_if hf (by kernel_rfl) K s
theorem i1t_eq : den prog ann 55 (.code i1t :: K) s = den prog ann 55 (.code r6 :: .code .ret :: K) s := den_flat hf (l := [r6, .ret]) (by kernel_rfl) K s
theorem r6_eq : den prog ann 55 (.code r6 :: K) s = mreg prog ann 55 none [] none [] [qF 2 fun s => some (.bool false)] K s := (den_reg hf _ K s).trans (by kernel_rfl)
theorem i1e_eq : den prog ann 55 (.code i1e :: K) s = den prog ann 55 (K) s := den_flat hf (l := []) (by kernel_rfl) K s
theorem r7_eq : den prog ann 55 (.code r7 :: K) s = mreg prog ann 55 none [] none [] [qA 34 (fieldA 0) 1,qA 35 (loadF false 1) 34,qA 36 lenSl 35,qF 37 fun s => some (.int .i64 0)] K s := (den_reg hf _ K s).trans (by kernel_rfl)
theorem k0_eq (K : List Item) (t : List (Nat × AV)) (m : Mem) : den prog ann 55 (.code k0 :: K) ⟨t, 57, m⟩ = L0 (get t 3) (get t 4) (get t 35) (get t 36) (get t 37) m K := den_loop_enter hf (b := l0) (id := 8) (l := [3, 4, 35, 36, 37]) (by kernel_rfl) (by kernel_rfl) (by kernel_rfl) K _
theorem l0_eq (K : List Item) (t : List (Nat × AV)) (m : Mem) : den prog ann 55 (.inLoop l0 :: .inBlock 0 :: K) ⟨t, 57, m⟩ = L0 (get t 3) (get t 4) (get t 35) (get t 36) (get t 37) m K := den_loop_again hf (id := 8) (l := [3, 4, 35, 36, 37]) (by kernel_rfl) (by kernel_rfl) (.inBlock 0 :: K) _
theorem L0_eq (x3 x4 x35 x36 x37 : AV) (m : Mem) (K : List Item) : L0 x3 x4 x35 x36 x37 m K = den prog ann 55 (.code r8 :: .code i2 :: .code k1 :: .code r12 :: .inLoop l0 :: .inBlock 0 :: K) ⟨[(3, x3), (4, x4), (35, x35), (36, x36), (37, x37)], 57, m⟩ := den_flat hf (l := [r8, i2, k1, r12]) (by kernel_rfl) _ _
theorem r8_eq : den prog ann 55 (.code r8 :: K) s = mreg prog ann 55 (some [3, 4, 35, 36, 37]) [] none [] [qB 38 (binA prog .lss 3) 37 36] K s := (den_reg hf _ K s).trans (by kernel_rfl)
theorem i2_eq : den prog ann 55 (.code i2 :: K) s = ifV prog ann 55 38 i2t i2e K s (s.get 38) := den_if hf (by kernel_rfl) K s
theorem i2t_eq : den prog ann 55 (.code i2t :: K) s = den prog ann 55 (K) s := den_flat hf (l := []) (by kernel_rfl) K s
theorem i2e_eq : den prog ann 55 (.code i2e :: K) s = den prog ann 55 (.code (.exit 0) :: K) s := den_flat hf (l := [(.exit 0)]) (by kernel_rfl) K s
theorem k1_eq : den prog ann 55 (.code k1 :: K) s = den prog ann 55 (.code r9 :: .code r10 :: .code i3 :: .inBlock 1 :: K) s := den_blk hf (b := blkOf k1) (l := [r9, r10, i3]) (by kernel_rfl) (by kernel_rfl) K s
theorem r9_eq : den prog ann 55 (.code r9 :: K) s = mreg prog ann 55 none [] none [] [qB 39 (idxSl 1) 35 37,qA 40 (loadF false 1) 39,qC 6 40] K s := (den_reg hf _ K s).trans (by kernel_rfl)
theorem r10_eq : den prog ann 55 (.code r10 :: K) s = mreg prog ann 55 none [] none [] [qC 41 6,qA 42 lenSl 41,qC 43 4,qB 44 (binA prog .neq 3) 42 43,qC 45 44,⟨some 46, some (45, false), .v fun s => some (s.get 6)⟩,⟨some 47, some (45, false), .c 0 (fun s => (.fn 78 [] [])) fun s => [(s.get 46)]⟩,⟨some 48, some (45, false), .v fun s => binA prog .lss 3 (s.get 47) (.int .i64 0)⟩,qF 49 fun s => pickA (s.get 45) (.bool true) (s.get 48),qC 50 49,⟨some 51, some (50, false), .v fun s => some (s.get 6)⟩,⟨some 52, some (50, false), .c 0 (fun s => (.fn 79 [] [])) fun s => [(s.get 51)]⟩,⟨some 53, some (50, false), .v fun s => some (s.get 3)⟩,⟨some 54, some (50, false), .v fun s => binA prog .geq 3 (s.get 52) (s.get 53)⟩,qF 55 fun s => pickA (s.get 50) (.bool true) (s.get 54)] K s := (den_reg hf _ K s).trans (by kernel_rfl)
theorem i3_eq : den prog ann 55 (.code i3 :: K) s = ifV prog ann 55 55 i3t i3e K s (s.get 55) := den_if hf (by kernel_rfl) K s
theorem i3t_eq : den prog ann 55 (.code i3t :: K) s = den prog ann 55 (.code r11 :: .code .ret :: K) s := den_flat hf (l := [r11, .ret]) (by kernel_rfl) K s
theorem r11_eq : den prog ann 55 (.code r11 :: K) s = mreg prog ann 55 none [] none [] [qF 2 fun s => some (.bool false)] K s := (den_reg hf _ K s).trans (by kernel_rfl)
theorem i3e_eq : den prog ann 55 (.code i3e :: K) s = den prog ann 55 (K) s := den_flat hf (l := []) (by kernel_rfl) K s
theorem r12_eq : den prog ann 55 (.code r12 :: K) s = mreg prog ann 55 (some [3, 4, 35, 36, 37]) [] none [] [qF 56 fun s => binA prog .add 3 (s.get 37) (.int .i64 1),qC 37 56] K s := (den_reg hf _ K s).trans (by kernel_rfl)
theorem r13_eq : den prog ann 55 (.code r13 :: K) s = mreg prog ann 55 (some []) [] none [] [qF 2 fun s => some (.bool true)] K s := (den_reg hf _ K s).trans (by kernel_rfl)
theorem ret_eq : den prog ann 55 (.code .ret :: K) s = finM true [fun s => some (s.get 2)] s := (den_ret hf K s).trans (by kernel_rfl)
theorem nil_eq (s : St) : den prog ann 55 [] s = finM true [fun s => some (s.get 2)] s := (den_nil hf s).trans (by kernel_rfl)
theorem inBlock_eq (id : Nat) (K : List Item) (s : St) : den prog ann 55 (.inBlock id :: K) s = den prog ann 55 K s := den_inBlock hf id K s
theorem exit_eq (id : Nat) (K : List Item) (s : St) : den prog ann 55 (.code (.exit id) :: K) s = exitV prog ann 55 (exitTo id K) s := den_exitV hf id K s
theorem call_eq (v0 : AV) (m : Mem) (h : closedL [v0] = true) : denC prog ann 55 [v0] m = (den prog ann 55 [.code b] ⟨[(0, v0)], 57, Mem.empty⟩).bind fun r => some (r.1, m) := (denC_pure hf (b := b) (by kernel_rfl) (by kernel_rfl) (by kernel_rfl) h m).trans (by kernel_rfl)
theorem pure_eq : (ann 55).pure = true := by kernel_rfl
attribute [simp] b_eq r0_eq r1_eq r2_eq i0_eq i0t_eq r3_eq i0e_eq r4_eq r5_eq i1_eq i1t_eq r6_eq i1e_eq r7_eq k0_eq l0_eq r8_eq i2_eq i2t_eq i2e_eq k1_eq r9_eq r10_eq i3_eq i3t_eq r11_eq i3e_eq r12_eq r13_eq ret_eq nil_eq inBlock_eq exit_eq pure_eq
end
end brand_valid
namespace slices_Min_int
noncomputable section
variable (K : List Item) (s : St)
def b : Code := (Try.f78.body).getD .skip
theorem hf : prog.funcs[78]? = some Try.f78 := by kernel_rfl
def r0 := findReg b 0
def r1 := findReg b 1
def i0 := findCond b 0
def i0t := thenOf i0
def i0e := elseOf i0
def r2 := findReg b 2
def r3 := findReg b 3
def r4 := findReg b 4
def k0 := findBlk b 0
def l0 := loopOf k0
def L0 (x0 x3 x4 : AV) (m : Mem) (K : List Item) : Option Res := den prog ann 78 (.code l0 :: .inLoop l0 :: .inBlock 0 :: K) ⟨[(0, x0), (3, x3), (4, x4)], 25, m⟩
def r5 := findReg b 5
def i1 := findCond b 1
def i1t := thenOf i1
def i1e := elseOf i1
def k1 := findBlk b 1
def r7 := findReg b 7
def r6 := findReg b 6
def r8 := findReg b 8
theorem b_eq : den prog ann 78 (.code b :: K) s = den prog ann 78 (.code r0 :: .code r1 :: .code i0 :: .code r3 :: .code r4 :: .code k0 :: .code r8 :: .code .ret :: K) s := den_flat hf (l := [r0, r1, i0, r3, r4, k0, r8, .ret]) (by kernel_rfl) K s
theorem r0_eq : den prog ann 78 (.code r0 :: K) s = mreg prog ann 78 none [] none [] [qF 2 fun s => some (.int .i64 0)] K s := (den_reg hf _ K s).trans (by kernel_rfl)
theorem r1_eq : den prog ann 78 (.code r1 :: K) s = mreg prog ann 78 none [] none [] [qC 5 0,qA 6 lenSl 5,qF 7 fun s => binA prog .lss 3 (s.get 6) (.int .i64 1)] K s := (den_reg hf _ K s).trans (by kernel_rfl)
theorem i0_eq : den prog ann 78 (.code i0 :: K) s = ifV prog ann 78 7 i0t i0e K s (s.get 7) := den_if hf (by kernel_rfl) K s
theorem i0t_eq : den prog ann 78 (.code i0t :: K) s = den prog ann 78 (.code r2 :: K) s := den_flat hf (l := [r2]) (by kernel_rfl) K s
theorem i0e_eq : den prog ann 78 (.code i0e :: K) s = den prog ann 78 (K) s := den_flat hf (l := []) (by kernel_rfl) K s
theorem r3_eq : den prog ann 78 (.code r3 :: K) s = mreg prog ann 78 (some [0]) [] none [] [qC 9 0,qF 10 fun s => idxSl 1 (s.get 9) (.int .i64 0),qA 11 (loadF false 1) 10,qC 3 11] K s := (den_reg hf _ K s).trans (by kernel_rfl)
theorem r4_eq : den prog ann 78 (.code r4 :: K) s = mreg prog ann 78 none [] none [] [qF 4 fun s => some (.int .i64 1)] K s := (den_reg hf _ K s).trans (by kernel_rfl)
theorem k0_eq (K : List Item) (t : List (Nat × AV)) (m : Mem) : den prog ann 78 (.code k0 :: K) ⟨t, 25, m⟩ = L0 (get t 0) (get t 3) (get t 4) m K := den_loop_enter hf (b := l0) (id := 5) (l := [0, 3, 4]) (by kernel_rfl) (by kernel_rfl) (by kernel_rfl) K _
theorem l0_eq (K : List Item) (t : List (Nat × AV)) (m : Mem) : den prog ann 78 (.inLoop l0 :: .inBlock 0 :: K) ⟨t, 25, m⟩ = L0 (get t 0) (get t 3) (get t 4) m K := den_loop_again hf (id := 5) (l := [0, 3, 4]) (by kernel_rfl) (by kernel_rfl) (.inBlock 0 :: K) _
theorem L0_eq (x0 x3 x4 : AV) (m : Mem) (K : List Item) : L0 x0 x3 x4 m K = den prog ann 78 (.code r5 :: .code i1 :: .code k1 :: .code r6 :: .inLoop l0 :: .inBlock 0 :: K) ⟨[(0, x0), (3, x3), (4, x4)], 25, m⟩ := den_flat hf (l := [r5, i1, k1, r6]) (by kernel_rfl) _ _
theorem r5_eq : den prog ann 78 (.code r5 :: K) s = mreg prog ann 78 (some [0, 3, 4]) [] none [] [qC 12 4,qC 13 0,qA 14 lenSl 13,qB 15 (binA prog .lss 3) 12 14] K s := (den_reg hf _ K s).trans (by kernel_rfl)
theorem i1_eq : den prog ann 78 (.code i1 :: K) s = ifV prog ann 78 15 i1t i1e K s (s.get 15) := den_if hf (by kernel_rfl) K s
theorem i1t_eq : den prog ann 78 (.code i1t :: K) s = den prog ann 78 (K) s := den_flat hf (l := []) (by kernel_rfl) K s
theorem i1e_eq : den prog ann 78 (.code i1e :: K) s = den prog ann 78 (.code (.exit 0) :: K) s := den_flat hf (l := [(.exit 0)]) (by kernel_rfl) K s
theorem k1_eq : den prog ann 78 (.code k1 :: K) s = den prog ann 78 (.code r7 :: .inBlock 1 :: K) s := den_blk hf (b := blkOf k1) (l := [r7]) (by kernel_rfl) (by kernel_rfl) K s
theorem r7_eq : den prog ann 78 (.code r7 :: K) s = mreg prog ann 78 none [] none [] [qC 18 3,qC 19 0,qC 20 4,qB 21 (idxSl 1) 19 20,qA 22 (loadF false 1) 21,qF 23 fun s => foldA min2A (s.get 18) [(s.get 22)],qC 3 23] K s := (den_reg hf _ K s).trans (by kernel_rfl)
theorem r6_eq : den prog ann 78 (.code r6 :: K) s = mreg prog ann 78 (some [0, 3, 4]) [] none [] [qC 16 4,qF 17 fun s => binA prog .add 3 (s.get 16) (.int .i64 1),qC 4 17] K s := (den_reg hf _ K s).trans (by kernel_rfl)
theorem r8_eq : den prog ann 78 (.code r8 :: K) s = mreg prog ann 78 (some [3]) [] none [] [qC 24 3,qC 2 24] K s := (den_reg hf _ K s).trans (by kernel_rfl)
theorem ret_eq : den prog ann 78 (.code .ret :: K) s = finM true [fun s => some (s.get 2)] s := (den_ret hf K s).trans (by kernel_rfl)
theorem nil_eq (s : St) : den prog ann 78 [] s = finM true [fun s => some (s.get 2)] s := (den_nil hf s).trans (by kernel_rfl)
theorem inBlock_eq (id : Nat) (K : List Item) (s : St) : den prog ann 78 (.inBlock id :: K) s = den prog ann 78 K s := den_inBlock hf id K s
theorem exit_eq (id : Nat) (K : List Item) (s : St) : den prog ann 78 (.code (.exit id) :: K) s = exitV prog ann 78 (exitTo id K) s := den_exitV hf id K s
theorem call_eq (v0 : AV) (m : Mem) (h : closedL [v0] = true) : denC prog ann 78 [v0] m = (den prog ann 78 [.code b] ⟨[(0, v0)], 25, Mem.empty⟩).bind fun r => some (r.1, m) := (denC_pure hf (b := b) (by kernel_rfl) (by kernel_rfl) (by kernel_rfl) h m).trans (by kernel_rfl)
theorem pure_eq : (ann 78).pure = true := by kernel_rfl
attribute [simp] b_eq r0_eq r1_eq i0_eq i0t_eq i0e_eq r3_eq r4_eq k0_eq l0_eq r5_eq i1_eq i1t_eq i1e_eq k1_eq r7_eq r6_eq r8_eq ret_eq nil_eq inBlock_eq exit_eq pure_eq
end
end slices_Min_int
namespace slices_Max_int
noncomputable section
variable (K : List Item) (s : St)
def b : Code := (Try.f79.body).getD .skip
theorem hf : prog.funcs[79]? = some Try.f79 := by kernel_rfl
def r0 := findReg b 0
def r1 := findReg b 1
def i0 := findCond b 0
def i0t := thenOf i0
def i0e := elseOf i0
def r2 := findReg b 2
def r3 := findReg b 3
def r4 := findReg b 4
def k0 := findBlk b 0
def l0 := loopOf k0
def L0 (x0 x3 x4 : AV) (m : Mem) (K : List Item) : Option Res := den prog ann 79 (.code l0 :: .inLoop l0 :: .inBlock 0 :: K) ⟨[(0, x0), (3, x3), (4, x4)], 25, m⟩
def r5 := findReg b 5
def i1 := findCond b 1
def i1t := thenOf i1
def i1e := elseOf i1
def k1 := findBlk b 1
def r7 := findReg b 7
def r6 := findReg b 6
def r8 := findReg b 8
theorem b_eq : den prog ann 79 (.code b :: K) s = den prog ann 79 (.code r0 :: .code r1 :: .code i0 :: .code r3 :: .code r4 :: .code k0 :: .code r8 :: .code .ret :: K) s := den_flat hf (l := [r0, r1, i0, r3, r4, k0, r8, .ret]) (by kernel_rfl) K s
theorem r0_eq : den prog ann 79 (.code r0 :: K) s = mreg prog ann 79 none [] none [] [qF 2 fun s => some (.int .i64 0)] K s := (den_reg hf _ K s).trans (by kernel_rfl)
theorem r1_eq : den prog ann 79 (.code r1 :: K) s = mreg prog ann 79 none [] none [] [qC 5 0,qA 6 lenSl 5,qF 7 fun s => binA prog .lss 3 (s.get 6) (.int .i64 1)] K s := (den_reg hf _ K s).trans (by kernel_rfl)
theorem i0_eq : den prog ann 79 (.code i0 :: K) s = ifV prog ann 79 7 i0t i0e K s (s.get 7) := den_if hf (by kernel_rfl) K s
theorem i0t_eq : den prog ann 79 (.code i0t :: K) s = den prog ann 79 (.code r2 :: K) s := den_flat hf (l := [r2]) (by kernel_rfl) K s
theorem i0e_eq : den prog ann 79 (.code i0e :: K) s = den prog ann 79 (K) s := den_flat hf (l := []) (by kernel_rfl) K s
theorem r3_eq : den prog ann 79 (.code r3 :: K) s = mreg prog ann 79 (some [0]) [] none [] [qC 9 0,qF 10 fun s => idxSl 1 (s.get 9) (.int .i64 0),qA 11 (loadF false 1) 10,qC 3 11] K s := (den_reg hf _ K s).trans (by kernel_rfl)
theorem r4_eq : den prog ann 79 (.code r4 :: K) s = mreg prog ann 79 none [] none [] [qF 4 fun s => some (.int .i64 1)] K s := (den_reg hf _ K s).trans (by kernel_rfl)
theorem k0_eq (K : List Item) (t : List (Nat × AV)) (m : Mem) : den prog ann 79 (.code k0 :: K) ⟨t, 25, m⟩ = L0 (get t 0) (get t 3) (get t 4) m K := den_loop_enter hf (b := l0) (id := 5) (l := [0, 3, 4]) (by kernel_rfl) (by kernel_rfl) (by kernel_rfl) K _
theorem l0_eq (K : List Item) (t : List (Nat × AV)) (m : Mem) : den prog ann 79 (.inLoop l0 :: .inBlock 0 :: K) ⟨t, 25, m⟩ = L0 (get t 0) (get t 3) (get t 4) m K := den_loop_again hf (id := 5) (l := [0, 3, 4]) (by kernel_rfl) (by kernel_rfl) (.inBlock 0 :: K) _
theorem L0_eq (x0 x3 x4 : AV) (m : Mem) (K : List Item) : L0 x0 x3 x4 m K = den prog ann 79 (.code r5 :: .code i1 :: .code k1 :: .code r6 :: .inLoop l0 :: .inBlock 0 :: K) ⟨[(0, x0), (3, x3), (4, x4)], 25, m⟩ := den_flat hf (l := [r5, i1, k1, r6]) (by kernel_rfl) _ _
theorem r5_eq : den prog ann 79 (.code r5 :: K) s = mreg prog ann 79 (some [0, 3, 4]) [] none [] [qC 12 4,qC 13 0,qA 14 lenSl 13,qB 15 (binA prog .lss 3) 12 14] K s := (den_reg hf _ K s).trans (by kernel_rfl)
theorem i1_eq : den prog ann 79 (.code i1 :: K) s = ifV prog ann 79 15 i1t i1e K s (s.get 15) := den_if hf (by kernel_rfl) K s
theorem i1t_eq : den prog ann 79 (.code i1t :: K) s = den prog ann 79 (K) s := den_flat hf (l := []) (by kernel_rfl) K s
theorem i1e_eq : den prog ann 79 (.code i1e :: K) s = den prog ann 79 (.code (.exit 0) :: K) s := den_flat hf (l := [(.exit 0)]) (by kernel_rfl) K s
theorem k1_eq : den prog ann 79 (.code k1 :: K) s = den prog ann 79 (.code r7 :: .inBlock 1 :: K) s := den_blk hf (b := blkOf k1) (l := [r7]) (by kernel_rfl) (by kernel_rfl) K s
theorem r7_eq : den prog ann 79 (.code r7 :: K) s = mreg prog ann 79 none [] none [] [qC 18 3,qC 19 0,qC 20 4,qB 21 (idxSl 1) 19 20,qA 22 (loadF false 1) 21,qF 23 fun s => foldA max2A (s.get 18) [(s.get 22)],qC 3 23] K s := (den_reg hf _ K s).trans (by kernel_rfl)
theorem r6_eq : den prog ann 79 (.code r6 :: K) s = mreg prog ann 79 (some [0, 3, 4]) [] none [] [qC 16 4,qF 17 fun s => binA prog .add 3 (s.get 16) (.int .i64 1),qC 4 17] K s := (den_reg hf _ K s).trans (by kernel_rfl)
theorem r8_eq : den prog ann 79 (.code r8 :: K) s = mreg prog ann 79 (some [3]) [] none [] [qC 24 3,qC 2 24] K s := (den_reg hf _ K s).trans (by kernel_rfl)
theorem ret_eq : den prog ann 79 (.code .ret :: K) s = finM true [fun s => some (s.get 2)] s := (den_ret hf K s).trans (by kernel_rfl)
theorem nil_eq (s : St) : den prog ann 79 [] s = finM true [fun s => some (s.get 2)] s := (den_nil hf s).trans (by kernel_rfl)
theorem inBlock_eq (id : Nat) (K : List Item) (s : St) : den prog ann 79 (.inBlock id :: K) s = den prog ann 79 K s := den_inBlock hf id K s
theorem exit_eq (id : Nat) (K : List Item) (s : St) : den prog ann 79 (.code (.exit id) :: K) s = exitV prog ann 79 (exitTo id K) s := den_exitV hf id K s
theorem call_eq (v0 : AV) (m : Mem) (h : closedL [v0] = true) : denC prog ann 79 [v0] m = (den prog ann 79 [.code b] ⟨[(0, v0)], 25, Mem.empty⟩).bind fun r => some (r.1, m) := (denC_pure hf (b := b) (by kernel_rfl) (by kernel_rfl) (by kernel_rfl) h m).trans (by kernel_rfl)
theorem pure_eq : (ann 79).pure = true := by kernel_rfl
attribute [simp] b_eq r0_eq r1_eq i0_eq i0t_eq i0e_eq r3_eq r4_eq k0_eq l0_eq r5_eq i1_eq i1t_eq i1e_eq k1_eq r7_eq r6_eq r8_eq ret_eq nil_eq inBlock_eq exit_eq pure_eq
end
end slices_Max_int
end Go.Proofs.Ythnpflkpjimkfaa

/-
  THE LEAST AND THE GREATEST NUMBER OF A LIST. Conditions: none.
-/
namespace Go.Proofs.Ythnpflkpjimkfaa
open Go.AM
open Go.Proofs.Try (prog)
set_option linter.all false
set_option maxRecDepth 100000
set_option maxHeartbeats 4000000
def maxL (c : List Int) : Int := (c.drop 1).foldl max (nth c 0)
theorem max_loop {w : AV} {c : List Int} (hw0 : IsInts w c) (hcl : c.length ≤ 1001) : ∀ (k i : Nat) (x : Int) (m : Mem), i + k = c.length →
    slices_Max_int.L0 w (.int .i64 x) (.int .i64 i) m [.code slices_Max_int.r8, .code .ret] = some (.int .i64 ((c.drop i).foldl max x), Mem.empty) := by
  intro k
  induction k with
  | zero =>
    intro i x m h1
    have e : i = c.length := by omega
    subst e
    rw [slices_Max_int.L0_eq]
    simp [hw0.len]
    done
  | succ k ih =>
    intro i x m h1
    have hi : i < c.length := by omega
    have hw : IntKind.wrap .i64 ((i : Int) + 1) = (i : Int) + 1 := wrap_id (by omega) (by omega)
    have hst := ih (i + 1) (max x (nth c i)) m (by omega)
    simp only [Int.natCast_add, Int.cast_ofNat_Int] at hst
    rw [drop_nth hi, List.foldl_cons, slices_Max_int.L0_eq]
    simp [hi, hw0.len, hw0.idx hi, ints_head hi, hw, hst]
    done
theorem max_spec {w : AV} {c : List Int} (hw0 : IsInts w c) (hcl : c.length ≤ 1001) (h0 : 0 < c.length) (m : Mem) : denC prog ann 79 [w] m = some (.int .i64 (maxL c), m) := by
  have lp := max_loop hw0 hcl (c.length - 1) 1 (nth c 0) Mem.empty (by omega)
  simp only [Int.cast_ofNat_Int] at lp
  have i0 := hw0.idx h0 .i64
  have i1 := ints_head h0
  simp only [Int.ofNat_zero, Int.cast_ofNat_Int, List.drop_zero] at i0 i1
  rw [slices_Max_int.call_eq _ _ (by simp [hw0.closed])]
  have hn : ¬ (c.length : Int) < 1 := by omega
  simp [hw0.len, hn, i0, i1, lp, maxL]
  done
def minL (c : List Int) : Int := (c.drop 1).foldl min (nth c 0)
theorem min_loop {w : AV} {c : List Int} (hw0 : IsInts w c) (hcl : c.length ≤ 1001) : ∀ (k i : Nat) (x : Int) (m : Mem), i + k = c.length →
    slices_Min_int.L0 w (.int .i64 x) (.int .i64 i) m [.code slices_Min_int.r8, .code .ret] = some (.int .i64 ((c.drop i).foldl min x), Mem.empty) := by
  intro k
  induction k with
  | zero =>
    intro i x m h1
    have e : i = c.length := by omega
    subst e
    rw [slices_Min_int.L0_eq]
    simp [hw0.len]
    done
  | succ k ih =>
    intro i x m h1
    have hi : i < c.length := by omega
    have hw : IntKind.wrap .i64 ((i : Int) + 1) = (i : Int) + 1 := wrap_id (by omega) (by omega)
    have hst := ih (i + 1) (min x (nth c i)) m (by omega)
    simp only [Int.natCast_add, Int.cast_ofNat_Int] at hst
    rw [drop_nth hi, List.foldl_cons, slices_Min_int.L0_eq]
    simp [hi, hw0.len, hw0.idx hi, ints_head hi, hw, hst]
    done
theorem min_spec {w : AV} {c : List Int} (hw0 : IsInts w c) (hcl : c.length ≤ 1001) (h0 : 0 < c.length) (m : Mem) : denC prog ann 78 [w] m = some (.int .i64 (minL c), m) := by
  have lp := min_loop hw0 hcl (c.length - 1) 1 (nth c 0) Mem.empty (by omega)
  simp only [Int.cast_ofNat_Int] at lp
  have i0 := hw0.idx h0 .i64
  have i1 := ints_head h0
  simp only [Int.ofNat_zero, Int.cast_ofNat_Int, List.drop_zero] at i0 i1
  rw [slices_Min_int.call_eq _ _ (by simp [hw0.closed])]
  have hn : ¬ (c.length : Int) < 1 := by omega
  simp [hw0.len, hn, i0, i1, lp, minL]
  done
end Go.Proofs.Ythnpflkpjimkfaa

/-
  BRANDS AS VALUES: rows of numbers, truth values, bytes of a string. Conditions: none.
-/
namespace Go.Proofs.Ythnpflkpjimkfaa
open Go.AM
open Go.Proofs.Try (prog)
set_option linter.all false
set_option maxRecDepth 100000
set_option maxHeartbeats 4000000
def bls (bs : List Bool) : List AV := bs.map fun b => AV.bool b
def bnth (bs : List Bool) (i : Nat) : Bool := bs.getD i false
@[simp] theorem bls_len (bs : List Bool) : (bls bs).length = bs.length := by simp [bls]
@[simp] theorem bls_closed (bs : List Bool) : closedL (bls bs) = true := by induction bs <;> simp [bls, closedL, AV.closed] at *; assumption
@[simp] theorem bls_take (bs : List Bool) (n : Nat) : (bls bs).take n = bls (bs.take n) := by simp [bls, List.map_take]
def IsB (v : AV) (bs : List Bool) : Prop := (v = .nils ∧ bs = []) ∨ ∃ ex, v = .fsl ex bs.length (bls bs)
theorem IsB.closed {v : AV} {l : List Bool} (h : IsB v l) : v.closed = true := by rcases h with ⟨rfl, _⟩ | ⟨_, rfl⟩ <;> rfl
theorem IsB.len {v : AV} {l : List Bool} (h : IsB v l) : lenSl v = some (.int .i64 l.length) := by rcases h with ⟨rfl, rfl⟩ | ⟨_, rfl⟩ <;> simp
theorem IsB.idx {v : AV} {l : List Bool} (h : IsB v l) {i : Nat} (hi : i < l.length) (k : IntKind) : idxSl 1 v (.int k (i : Int)) = some (.fptr ((bls l).drop i)) := by
  rcases h with ⟨rfl, rfl⟩ | ⟨_, rfl⟩
  · simp at hi
  · simp [hi]
def pth (ps : List AV) (i : Nat) : AV := ps.getD i .undef
structure IsRows (v : AV) (ps : List AV) (rows : List (List Int)) : Prop where
  len0 : ps.length = rows.length
  row : ∀ i, i < rows.length → IsInts (pth ps i) (cth rows i)
  val : (v = .nils ∧ rows = []) ∨ ∃ ex, v = .fsl ex rows.length ps
theorem IsRows.closed {v : AV} {ps : List AV} {rows : List (List Int)} (h : IsRows v ps rows) : v.closed = true := by rcases h.val with ⟨rfl, _⟩ | ⟨_, rfl⟩ <;> rfl
theorem IsRows.len {v : AV} {ps : List AV} {rows : List (List Int)} (h : IsRows v ps rows) : lenSl v = some (.int .i64 rows.length) := by rcases h.val with ⟨rfl, rfl⟩ | ⟨_, rfl⟩ <;> simp
theorem IsRows.idx {v : AV} {ps : List AV} {rows : List (List Int)} (h : IsRows v ps rows) {i : Nat} (hi : i < rows.length) (k : IntKind) : idxSl 1 v (.int k (i : Int)) = some (.fptr (ps.drop i)) := by
  rcases h.val with ⟨rfl, rfl⟩ | ⟨_, rfl⟩
  · simp at hi
  · simp [hi]
theorem IsRows.head {v : AV} {ps : List AV} {rows : List (List Int)} (h : IsRows v ps rows) {i : Nat} (hi : i < rows.length) : (ps.drop i).head? = some (pth ps i) := by
  have := h.len0
  have hp : i < ps.length := by omega
  simp [pth, hp]
def byt (s : List UInt8) (i : Nat) : Nat := (s.getD i 0).toNat
theorem byt_lt (s : List UInt8) (i : Nat) : byt s i < 256 := (s.getD i 0).toNat_lt
theorem str_idx {s : List UInt8} {i : Nat} (h : i < s.length) (k : IntKind) : idxStr (.str s) (.int k (i : Int)) = some (.int .u8 (byt s i : Nat)) := by
  simp [idxStr, inR, h, byt]
theorem wrap8 {x : Int} (h : 0 ≤ x ∧ x < 256) : IntKind.wrap .u8 x = x := by
  simp [IntKind.wrap, IntKind.min, IntKind.max, IntKind.signed, IntKind.bits]
  omega
def rowOk (n k : Nat) (r : List Int) : Bool := decide (r.length = k) && r.all fun x => decide (0 ≤ x) && decide (x < n)
def validB (rows : List (List Int)) (good : List Bool) : Bool :=
  decide (1 ≤ rows.length ∧ rows.length ≤ 6) && (decide (good.length = rows.length) && (decide (1 ≤ (cth rows 0).length ∧ (cth rows 0).length ≤ 3) && rows.all (rowOk rows.length (cth rows 0).length)))
end Go.Proofs.Ythnpflkpjimkfaa

/-
  VALID BRANDS: the code's test and the specification's are one. Conditions: none.
-/
namespace Go.Proofs.Ythnpflkpjimkfaa
open Go.AM
open Go.Proofs.Try (prog)
set_option linter.all false
set_option maxRecDepth 100000
set_option maxHeartbeats 4000000
theorem IsRows.one {v : AV} {ps : List AV} {rows : List (List Int)} (h : IsRows v ps rows) : v.one = true := by rcases h.val with ⟨rfl, _⟩ | ⟨_, rfl⟩ <;> rfl
theorem IsB.one {v : AV} {l : List Bool} (h : IsB v l) : v.one = true := by rcases h with ⟨rfl, _⟩ | ⟨_, rfl⟩ <;> rfl
theorem le_fmin : ∀ (L : List Int) (x a : Int), a ≤ L.foldl min x ↔ a ≤ x ∧ ∀ y ∈ L, a ≤ y
  | [], x, a => by simp
  | b :: L, x, a => by
    rw [List.foldl_cons, le_fmin L]
    constructor
    · rintro ⟨h1, h2⟩
      refine ⟨by omega, fun y hy => ?_⟩
      rcases List.mem_cons.1 hy with rfl | hy
      · omega
      · exact h2 y hy
    · rintro ⟨h1, h2⟩
      have := h2 b (by simp)
      exact ⟨by omega, fun y hy => h2 y (by simp [hy])⟩
theorem fmax_lt : ∀ (L : List Int) (x a : Int), L.foldl max x < a ↔ x < a ∧ ∀ y ∈ L, y < a
  | [], x, a => by simp
  | b :: L, x, a => by
    rw [List.foldl_cons, fmax_lt L]
    constructor
    · rintro ⟨h1, h2⟩
      refine ⟨by omega, fun y hy => ?_⟩
      rcases List.mem_cons.1 hy with rfl | hy
      · omega
      · exact h2 y hy
    · rintro ⟨h1, h2⟩
      have := h2 b (by simp)
      exact ⟨by omega, fun y hy => h2 y (by simp [hy])⟩
theorem cons_nth {c : List Int} (h : 0 < c.length) : c = nth c 0 :: c.drop 1 := by
  have := drop_nth (l := c) (i := 0) h
  simpa using this
theorem rowOk_iff {r : List Int} {n k : Nat} (hk : r.length = k) (h0 : 0 < k) : rowOk n k r = true ↔ ¬ minL r < 0 ∧ ¬ (n : Int) ≤ maxL r := by
  have h1 := le_fmin (r.drop 1) (nth r 0) 0
  have h2 := fmax_lt (r.drop 1) (nth r 0) n
  have hc := cons_nth (c := r) (by omega)
  unfold rowOk minL maxL
  simp only [hk, decide_true, Bool.true_and, List.all_eq_true, Bool.and_eq_true, decide_eq_true_eq]
  have e : (∀ x ∈ r, 0 ≤ x ∧ x < (n : Int)) ↔ (0 ≤ nth r 0 ∧ ∀ y ∈ r.drop 1, 0 ≤ y) ∧ (nth r 0 < n ∧ ∀ y ∈ r.drop 1, y < (n : Int)) := by
    constructor
    · intro h
      rw [hc] at h
      exact ⟨⟨(h _ (by simp)).1, fun y hy => (h y (List.mem_cons_of_mem _ hy)).1⟩, (h _ (by simp)).2, fun y hy => (h y (List.mem_cons_of_mem _ hy)).2⟩
    · rintro ⟨⟨a, b⟩, c, d⟩ x hx
      rw [hc] at hx
      rcases List.mem_cons.1 hx with rfl | hx
      · exact ⟨a, c⟩
      · exact ⟨b x hx, d x hx⟩
  rw [e, ← h1, ← h2]
  omega
theorem drop_cth {rows : List (List Int)} {i : Nat} (h : i < rows.length) : rows.drop i = cth rows i :: rows.drop (i + 1) := by
  rw [List.drop_eq_getElem_cons h]
  congr 1
  simp [cth, h]
theorem val_loop {nv : AV} {ps : List AV} {rows : List (List Int)} {n k : Nat} (hn : IsRows nv ps rows) (hl : rows.length ≤ 1000) (hr : ∀ i, i < rows.length → (cth rows i).length ≤ 1000) (hk : 1 ≤ k) : ∀ (j i : Nat) (m : Mem), i + j = rows.length →
    brand_valid.L0 (.int .i64 n) (.int .i64 k) nv (.int .i64 rows.length) (.int .i64 i) m [.code brand_valid.r13, .code .ret] = some (.bool ((rows.drop i).all (rowOk n k)), Mem.empty) := by
  intro j
  induction j with
  | zero =>
    intro i m h1
    have e : i = rows.length := by omega
    subst e
    rw [brand_valid.L0_eq]
    simp
    done
  | succ j ih =>
    intro i m h1
    have hi : i < rows.length := by omega
    have hw : IntKind.wrap .i64 ((i : Int) + 1) = (i : Int) + 1 := wrap_id (by omega) (by omega)
    have iw := hn.row i hi
    have hrl := hr i hi
    have st := fun m => ih (i + 1) m (by omega)
    simp only [Int.natCast_add, Int.cast_ofNat_Int] at st
    rw [drop_cth hi, List.all_cons, brand_valid.L0_eq]
    by_cases c1 : (cth rows i).length = k
    · have c1' : ((cth rows i).length : Int) = k := by omega
      have hmn := fun m => min_spec iw (by omega) (by omega) m
      have hmx := fun m => max_spec iw (by omega) (by omega) m
      have hro := rowOk_iff (r := cth rows i) (n := n) c1 (by omega)
      by_cases c2 : minL (cth rows i) < 0
      · have : rowOk n k (cth rows i) = false := by
          cases h : rowOk n k (cth rows i) with
          | false => rfl
          | true => exact absurd c2 (hro.1 h).1
        simp [hi, hn.idx hi, hn.head hi, iw.len, c1, c1', iw.closed, hmn, c2, this]
        done
      · by_cases c3 : (n : Int) ≤ maxL (cth rows i)
        · have : rowOk n k (cth rows i) = false := by
            cases h : rowOk n k (cth rows i) with
            | false => rfl
            | true => exact absurd c3 (hro.1 h).2
          simp [hi, hn.idx hi, hn.head hi, iw.len, c1, c1', iw.closed, hmn, hmx, c2, c3, this]
          done
        · have : rowOk n k (cth rows i) = true := hro.2 ⟨c2, c3⟩
          simp [hi, hn.idx hi, hn.head hi, iw.len, c1, c1', iw.closed, hmn, hmx, c2, c3, this, hw, st]
          done
    · have c1' : ¬ ((cth rows i).length : Int) = k := by omega
      have : rowOk n k (cth rows i) = false := by simp [rowOk, c1]
      simp [hi, hn.idx hi, hn.head hi, iw.len, c1, c1', this]
      done
theorem valid_spec {nv gv : AV} {ps : List AV} {rows : List (List Int)} {good : List Bool} (hn : IsRows nv ps rows) (hg : IsB gv good) (hl : rows.length ≤ 1000) (hgl : good.length ≤ 1000) (hr : ∀ i, i < rows.length → (cth rows i).length ≤ 1000) (m : Mem) :
    denC prog ann 55 [.agg [nv, gv]] m = some (.bool (validB rows good), m) := by
  rw [brand_valid.call_eq _ _ (by simp [hn.closed, hg.closed])]
  unfold validB
  by_cases c1 : rows.length < 1
  · have : ¬ 1 ≤ rows.length := by omega
    simp [hn.one, hg.one, hn.closed, hg.closed, hn.len, c1, show (rows.length : Int) < 1 by omega, show ¬ 1 ≤ rows.length by omega]
    done
  · by_cases c2 : 6 < rows.length
    · simp [hn.one, hg.one, hn.closed, hg.closed, hn.len, show ¬ (rows.length : Int) < 1 by omega, show (6 : Int) < rows.length by omega, show ¬ rows.length ≤ 6 by omega]
      done
    · by_cases c3 : good.length = rows.length
      · have hi : 0 < rows.length := by omega
        have iw := hn.row 0 hi
        have i0 := hn.idx hi .i64
        have h0 := hn.head hi
        simp only [Int.ofNat_zero, Int.cast_ofNat_Int, List.drop_zero] at i0 h0
        have hr0 := hr 0 hi
        by_cases c4 : (cth rows 0).length < 1
        · simp [hn.one, hg.one, hn.closed, hg.closed, hn.len, hg.len, c3, show ¬ (rows.length : Int) < 1 by omega, show ¬ (6 : Int) < rows.length by omega, i0, h0, iw.len, show ((cth rows 0).length : Int) < 1 by omega, show ¬ 1 ≤ (cth rows 0).length by omega, show 1 ≤ rows.length by omega, show rows.length ≤ 6 by omega]
          done
        · by_cases c5 : 3 < (cth rows 0).length
          · simp [hn.one, hg.one, hn.closed, hg.closed, hn.len, hg.len, c3, show ¬ (rows.length : Int) < 1 by omega, show ¬ (6 : Int) < rows.length by omega, i0, h0, iw.len, show ¬ ((cth rows 0).length : Int) < 1 by omega, show (3 : Int) < (cth rows 0).length by omega, show ¬ (cth rows 0).length ≤ 3 by omega, show 1 ≤ rows.length by omega, show rows.length ≤ 6 by omega]
            done
          · have lp := fun m => val_loop (n := rows.length) (k := (cth rows 0).length) hn hl hr (by omega) rows.length 0 m (by omega)
            simp only [Int.ofNat_zero, Int.cast_ofNat_Int, List.drop_zero] at lp
            simp [hn.one, hg.one, hn.closed, hg.closed, hn.len, hg.len, c3, show ¬ (rows.length : Int) < 1 by omega, show ¬ (6 : Int) < rows.length by omega, i0, h0, iw.len, show ¬ ((cth rows 0).length : Int) < 1 by omega, show ¬ (3 : Int) < (cth rows 0).length by omega, show (cth rows 0).length ≤ 3 by omega, show 1 ≤ (cth rows 0).length by omega, show 1 ≤ rows.length by omega, show rows.length ≤ 6 by omega, lp]
            done
      · simp [hn.one, hg.one, hn.closed, hg.closed, hn.len, hg.len, c3, show ¬ (rows.length : Int) < 1 by omega, show ¬ (6 : Int) < rows.length by omega, show ¬ (good.length : Int) = rows.length by omega]
        done
end Go.Proofs.Ythnpflkpjimkfaa

/-
  WORDS: whether a string is one, and the state to which it leads: the code's and the specification's. Conditions: none.
-/
namespace Go.Proofs.Ythnpflkpjimkfaa
open Go.AM
open Go.Proofs.Try (prog)
set_option linter.all false
set_option maxRecDepth 100000
set_option maxHeartbeats 4000000
structure VB (rows : List (List Int)) (good : List Bool) (k : Nat) : Prop where
  n1 : 1 ≤ rows.length
  n6 : rows.length ≤ 6
  gl : good.length = rows.length
  k1 : 1 ≤ k
  k3 : k ≤ 3
  rl : ∀ i, i < rows.length → (cth rows i).length = k
  rg : ∀ i j, i < rows.length → j < k → 0 ≤ nth (cth rows i) j ∧ nth (cth rows i) j < rows.length
theorem VB.of {rows : List (List Int)} {good : List Bool} (h : validB rows good = true) : VB rows good (cth rows 0).length := by
  unfold validB at h
  simp only [Bool.and_eq_true, decide_eq_true_eq, List.all_eq_true] at h
  obtain ⟨⟨h1, h2⟩, h3, ⟨h4, h5⟩, h6⟩ := h
  have key : ∀ i, i < rows.length → rowOk rows.length (cth rows 0).length (cth rows i) = true := fun i hi => h6 _ (cth_mem hi)
  refine ⟨h1, h2, h3, h4, h5, fun i hi => ?_, fun i j hi hj => ?_⟩
  · have := key i hi
    unfold rowOk at this
    simp only [Bool.and_eq_true, decide_eq_true_eq] at this
    exact this.1
  · have := key i hi
    unfold rowOk at this
    simp only [Bool.and_eq_true, decide_eq_true_eq, List.all_eq_true] at this
    have hm : nth (cth rows i) j ∈ cth rows i := by rw [← nth_get (by omega : j < (cth rows i).length)]; exact List.getElem_mem _
    exact this.2 _ hm
def letB (k : Nat) (s : List UInt8) (i : Nat) : Bool := decide (97 ≤ byt s i) && decide (byt s i - 97 < k)
def letF (k : Nat) (s : List UInt8) (j i : Nat) : Bool := (List.range' i j).all (letB k s)
theorem letF_succ (k : Nat) (s : List UInt8) (j i : Nat) : letF k s (j + 1) i = (letB k s i && letF k s j (i + 1)) := by simp [letF, List.range'_succ]
def wordE (k : Nat) (s : List UInt8) : Int := if 200 < s.length then 3 else if letF k s s.length 0 = true then 0 else 2
theorem sub97 {x : Nat} (h : 97 ≤ x) (h2 : x < 256) : IntKind.wrap .u8 ((x : Int) - 97) = ((x - 97 : Nat) : Int) := by
  rw [wrap8 (by omega)]; omega
theorem word_loop {nv gv : AV} {ps : List AV} {rows : List (List Int)} {k : Nat} (hn : IsRows nv ps rows) (h0 : 0 < rows.length) (hk : (cth rows 0).length = k) (hk3 : k ≤ 1000) {s : List UInt8} (hs : s.length ≤ 200) : ∀ (j i : Nat) (m : Mem), i + j = s.length →
    r07_Word.L0 (.str s) (.fptr [nv, gv]) (.int .i64 i) m [.code r07_Word.r8, .code .ret] = some (.int .i64 (if letF k s j i = true then 0 else 2), Mem.empty) := by
  intro j
  have iw := hn.row 0 h0
  have i0 := hn.idx h0 .i64
  have hh := hn.head h0
  simp only [Int.ofNat_zero, Int.cast_ofNat_Int, List.drop_zero] at i0 hh
  induction j with
  | zero =>
    intro i m h1
    have e : i = s.length := by omega
    subst e
    rw [r07_Word.L0_eq]
    simp [letF]
    done
  | succ j ih =>
    intro i m h1
    have hi : i < s.length := by omega
    have hwi : IntKind.wrap .i64 ((i : Int) + 1) = (i : Int) + 1 := wrap_id (by omega) (by omega)
    have hb := byt_lt s i
    have st := fun m => ih (i + 1) m (by omega)
    simp only [Int.natCast_add, Int.cast_ofNat_Int] at st
    rw [letF_succ, letB, r07_Word.L0_eq]
    by_cases c1 : byt s i < 97
    · simp [hi, str_idx hi, c1, show (byt s i : Int) < 97 by omega, show ¬ 97 ≤ byt s i by omega]
      done
    · have hsub := sub97 (x := byt s i) (by omega) hb
      have hws : IntKind.wrap .i64 ((byt s i - 97 : Nat) : Int) = ((byt s i - 97 : Nat) : Int) := wrap_id (by omega) (by omega)
      by_cases c2 : byt s i - 97 < k
      · simp [hi, str_idx hi, c1, show ¬ (byt s i : Int) < 97 by omega, show 97 ≤ byt s i by omega, hsub, hws, i0, hh, iw.len, hk, show ¬ (k : Int) ≤ ((byt s i - 97 : Nat) : Int) by omega, show ¬ k ≤ byt s i - 97 by omega, c2, hwi, st]
        done
      · simp [hi, str_idx hi, c1, show ¬ (byt s i : Int) < 97 by omega, show 97 ≤ byt s i by omega, hsub, hws, i0, hh, iw.len, hk, show (k : Int) ≤ ((byt s i - 97 : Nat) : Int) by omega, show k ≤ byt s i - 97 by omega, c2]
        done
theorem word_spec {nv gv : AV} {ps : List AV} {rows : List (List Int)} {good : List Bool} (hn : IsRows nv ps rows) (hg : IsB gv good) (h0 : 0 < rows.length) (hk3 : (cth rows 0).length ≤ 1000) {s : List UInt8} (hs : s.length ≤ 1000000) (m : Mem) :
    denC prog ann 24 [.agg [nv, gv], .str s] m = some (.int .i64 (wordE (cth rows 0).length s), m) := by
  rw [r07_Word.call_eq _ _ _ (by simp [hn.closed, hg.closed])]
  unfold wordE
  by_cases c : 200 < s.length
  · simp [hn.one, hg.one, hn.closed, hg.closed, c, show (200 : Int) < s.length by omega]
    done
  · have lp := fun m => word_loop (gv := gv) hn h0 rfl hk3 (s := s) (by omega) s.length 0 m (by omega)
    simp only [Int.ofNat_zero, Int.cast_ofNat_Int] at lp
    simp [hn.one, hg.one, hn.closed, hg.closed, c, show ¬ (200 : Int) < s.length by omega, lp]
    done
def nx (rows : List (List Int)) (st a : Nat) : Nat := (nth (cth rows st) a).toNat
def goF (rows : List (List Int)) (s : List UInt8) : Nat → Nat → Nat → Nat
  | 0, _, st => st
  | j + 1, i, st => goF rows s j (i + 1) (nx rows st (byt s i - 97))
def goL (rows : List (List Int)) : List UInt8 → Nat → Nat
  | [], st => st
  | c :: r, st => goL rows r (nx rows st (c.toNat - 97))
theorem goF_goL (rows : List (List Int)) (s : List UInt8) : ∀ (j i st : Nat), i + j = s.length → goF rows s j i st = goL rows (s.drop i) st
  | 0, i, st, h => by rw [List.drop_of_length_le (by omega)]; rfl
  | j + 1, i, st, h => by
    have hi : i < s.length := by omega
    rw [List.drop_eq_getElem_cons hi, goL, goF, goF_goL rows s j (i + 1) _ (by omega)]
    congr 2
    simp [byt, hi]
theorem nx_lt {rows : List (List Int)} {good : List Bool} {k : Nat} (v : VB rows good k) {st a : Nat} (h : st < rows.length) (ha : a < k) : nx rows st a < rows.length ∧ nth (cth rows st) a = (nx rows st a : Nat) := by
  have := v.rg st a h ha
  unfold nx
  omega
theorem go_loop {nv gv : AV} {ps : List AV} {rows : List (List Int)} {good : List Bool} {k : Nat} (hn : IsRows nv ps rows) (v : VB rows good k) {s : List UInt8} (hs : s.length ≤ 1000000) : ∀ (j i st : Nat) (m : Mem), i + j = s.length → st < rows.length → letF k s j i = true →
    r07_Go.L0 (.int .i64 st) (.str s) (.fptr [nv, gv]) (.int .i64 i) m [.code r07_Go.r5, .code .ret] = some (.int .i64 (goF rows s j i st : Nat), Mem.empty) := by
  intro j
  induction j with
  | zero =>
    intro i st m h1 hst hlt
    have e : i = s.length := by omega
    subst e
    rw [r07_Go.L0_eq]
    simp [goF]
    done
  | succ j ih =>
    intro i st m h1 hst hlt
    have hi : i < s.length := by omega
    rw [letF_succ, Bool.and_eq_true, letB, Bool.and_eq_true, decide_eq_true_eq, decide_eq_true_eq] at hlt
    obtain ⟨⟨a1, a2⟩, a3⟩ := hlt
    have hwi : IntKind.wrap .i64 ((i : Int) + 1) = (i : Int) + 1 := wrap_id (by omega) (by omega)
    have hsub := sub97 a1 (byt_lt s i)
    have iw := hn.row st hst
    have hrl := v.rl st hst
    obtain ⟨b1, b2⟩ := nx_lt v hst a2
    have st' := fun m => ih (i + 1) _ m (by omega) b1 a3
    simp only [Int.natCast_add, Int.cast_ofNat_Int] at st'
    have hx := iw.idx (i := byt s i - 97) (by omega) .u8
    have hy := ints_head (l := cth rows st) (i := byt s i - 97) (by omega)
    rw [b2] at hy
    rw [goF, r07_Go.L0_eq]
    simp [hi, str_idx hi, hn.idx hst, hn.head hst, hsub, hx, hy, hwi, st']
    done
theorem go_spec {nv gv : AV} {ps : List AV} {rows : List (List Int)} {good : List Bool} {k : Nat} (hn : IsRows nv ps rows) (hg : IsB gv good) (v : VB rows good k) {s : List UInt8} (hs : s.length ≤ 1000000) (hl : letF k s s.length 0 = true) {st : Nat} (hst : st < rows.length) (m : Mem) :
    denC prog ann 25 [.agg [nv, gv], .int .i64 st, .str s] m = some (.int .i64 (goL rows s st : Nat), m) := by
  rw [r07_Go.call_eq _ _ _ _ (by simp [hn.closed, hg.closed])]
  have lp := fun m => go_loop (gv := gv) hn v hs s.length 0 st m (by omega) hst hl
  simp only [Int.ofNat_zero, Int.cast_ofNat_Int, goF_goL rows s s.length 0 st (by omega), List.drop_zero] at lp
  simp [hn.one, hg.one, hn.closed, hg.closed, lp]
  done
theorem goL_lt {rows : List (List Int)} {good : List Bool} {k : Nat} (v : VB rows good k) (s : List UInt8) : ∀ (j i st : Nat), i + j = s.length → st < rows.length → letF k s j i = true → goF rows s j i st < rows.length
  | 0, i, st, _, h, _ => h
  | j + 1, i, st, h1, h, hl => by
    rw [letF_succ, Bool.and_eq_true, letB, Bool.and_eq_true, decide_eq_true_eq, decide_eq_true_eq] at hl
    exact goL_lt v s j (i + 1) _ (by omega) (nx_lt v h hl.1.2).1 hl.2
end Go.Proofs.Ythnpflkpjimkfaa

/-
  ACCEPTS: the code's and the specification's; and what the laws cut off a brand and a string. Conditions: none.
-/
namespace Go.Proofs.Ythnpflkpjimkfaa
open Go.AM
open Go.Proofs.Try (prog)
set_option linter.all false
set_option maxRecDepth 100000
set_option maxHeartbeats 4000000
theorem u4 : prog.underlying 4 = some .bool := by kernel_rfl
@[simp] theorem eql_bool (a b : Bool) : binA prog .eql 4 (.bool a) (.bool b) = some (.bool (a == b)) := by simp [binA, eqT, eqA, u4]
end Go.Proofs.Ythnpflkpjimkfaa

/-
  WHAT THE LAWS CUT OFF A BRAND AND A STRING. Conditions: none.
-/
namespace Go.Proofs.Ythnpflkpjimkfaa
open Go.AM
open Go.Proofs.Try (prog)
set_option linter.all false
set_option maxRecDepth 100000
set_option maxHeartbeats 4000000
end Go.Proofs.Ythnpflkpjimkfaa

/-
  THE LAWS' EXAMPLES HOLD. Conditions: none.
-/
namespace Go.Proofs.Ythnpflkpjimkfaa
open Go.AM
open Go.Proofs.Try (prog)
set_option linter.all false
set_option maxRecDepth 1000000
def isT (r : Option Res) : Bool := match r with
  | some (.bool b, _) => b
  | _ => false
theorem lives_run : isT (callN prog ann 3000 21 [] Mem.empty) = true := by kernel_rfl
@[simp] theorem lives_pure : (ann 21).pure = true := by kernel_rfl
theorem f21_at : prog.funcs[21]? = some Try.f21 := by kernel_rfl
theorem f21_some : Try.f21.body.isSome = true := by kernel_rfl
theorem lives_spec (m : Mem) : denC prog ann 21 [] m = some (.bool true, m) := by
  have hb : Try.f21.body = some (Try.f21.body.getD .skip) := by
    cases h : Try.f21.body with
    | none => have := f21_some; rw [h] at this; cases this
    | some b => rfl
  have e := fun m => denC_pure (P := prog) (A := ann) (f := 21) f21_at hb (by kernel_rfl) (by kernel_rfl) (show closedL [] = true from rfl) m
  have h := lives_run
  cases hr : callN prog ann 3000 21 [] Mem.empty with
  | none => rw [hr] at h; cases h
  | some r =>
    rw [hr] at h
    have h2 := denC_of_callN hr
    rw [e] at h2 ⊢
    obtain ⟨q, h3, h4⟩ := Option.bind_eq_some_iff.1 h2
    rw [h3]
    simp at h4
    subst h4
    match q, h with
    | (.bool true, _), _ => rfl
end Go.Proofs.Ythnpflkpjimkfaa

/-
  WHAT THE LAWS' ARGUMENTS ARE: brands, strings, numbers. Conditions: none.
-/
namespace Go.Proofs.Ythnpflkpjimkfaa
open Go.AM
open Go.Proofs.Try (prog)
set_option linter.all false
set_option maxRecDepth 100000
set_option maxHeartbeats 4000000
theorem u3 : prog.underlying 3 = some (.int .i64) := by kernel_rfl
theorem mlen : maxLen = 9223372036854775807 := by decide
theorem u4' : prog.underlying 4 = some .bool := by kernel_rfl
theorem IsB.deep {v : AV} {l : List Bool} (h : IsB v l) (hp : Nat → Option AObj) (d : Nat) : AM.deep hp (d + 1) v = some v := by rcases h with ⟨rfl, _⟩ | ⟨_, rfl⟩ <;> rfl
theorem IsB.cells {v : AV} {l : List Bool} (h : IsB v l) : v.cells = [v] := by rcases h with ⟨rfl, _⟩ | ⟨_, rfl⟩ <;> rfl
end Go.Proofs.Ythnpflkpjimkfaa

/-
  LISTS AND MAPS THAT GROW IN MEMORY, AND THE SEARCH LEVEL BY LEVEL. Conditions: none.
-/
namespace Go.Proofs.Ythnpflkpjimkfaa
open Go.AM
open Go.Proofs.Try (prog)
set_option linter.all false
set_option maxRecDepth 100000
set_option maxHeartbeats 4000000
def elP (v : AV) (sz i : Nat) : AV := match v with
  | .sl id es off n top => .ptr id (off + i * sz) top
  | _ => .undef
def tlV (v : AV) (sz : Nat) : AV := match v with
  | .sl id es off n top => .sl id es (off + sz) (n - 1) top
  | _ => .undef
structure Gl (m : Mem) (v : AV) (id sz n : Nat) (xs : List AV) : Prop where
  ex : ∃ pre : List AV, v = .sl id sz pre.length n (pre.length + xs.length) ∧ m.h id = some (.cells (pre ++ xs))
  n : xs.length = n * sz
  lt : id < m.nx
theorem Gl.frame {m m' : Mem} {v : AV} {id sz n : Nat} {xs : List AV} (h : Gl m v id sz n xs) (e : m'.h id = m.h id) (l : m.nx ≤ m'.nx) : Gl m' v id sz n xs := by
  obtain ⟨⟨pre, hv, hm⟩, hn, hl⟩ := h
  exact ⟨⟨pre, hv, by rw [e, hm]⟩, hn, by omega⟩
theorem Gl.fr {m m' : Mem} {v : AV} {id sz n : Nat} {xs : List AV} (h : Gl m v id sz n xs) (e : m'.h id = m.h id) (l : id < m'.nx) : Gl m' v id sz n xs := by
  obtain ⟨⟨pre, hv, hm⟩, hn, hl⟩ := h
  exact ⟨⟨pre, hv, by rw [e, hm]⟩, hn, l⟩
theorem Gl.one {m : Mem} {v : AV} {id sz n : Nat} {xs : List AV} (h : Gl m v id sz n xs) : v.one = true := by
  obtain ⟨⟨pre, rfl, hm⟩, hn, hl⟩ := h; rfl
theorem Gl.cells {m : Mem} {v : AV} {id sz n : Nat} {xs : List AV} (h : Gl m v id sz n xs) : v.cells = [v] := by
  obtain ⟨⟨pre, rfl, hm⟩, hn, hl⟩ := h; rfl
theorem Gl.len {m : Mem} {v : AV} {id sz n : Nat} {xs : List AV} (h : Gl m v id sz n xs) : lenSl v = some (.int .i64 n) := by
  obtain ⟨⟨pre, rfl, hm⟩, hn, hl⟩ := h; rfl
theorem Gl.idx {m : Mem} {v : AV} {id sz n : Nat} {xs : List AV} (h : Gl m v id sz n xs) {i : Nat} (hi : i < n) (k : IntKind) : idxSl sz v (.int k (i : Int)) = some (elP v sz i) := by
  obtain ⟨⟨pre, rfl, hm⟩, hn, hl⟩ := h
  simp [hi, elP]
theorem Gl.idx0 {m : Mem} {v : AV} {id sz n : Nat} {xs : List AV} (h : Gl m v id sz n xs) (hi : 0 < n) (k : IntKind) : idxSl sz v (.int k 0) = some (elP v sz 0) := h.idx hi k
theorem Gl.load {m : Mem} {v : AV} {id sz n : Nat} {xs : List AV} (h : Gl m v id sz n xs) {i : Nat} (hi : i < n) : loadA true sz m (elP v sz i) = some (.agg ((xs.drop (i * sz)).take sz)) := by
  obtain ⟨⟨pre, rfl, hm⟩, hn, hl⟩ := h
  have : pre.length + i * sz + sz ≤ pre.length + xs.length := by
    rw [hn]
    have := Nat.mul_le_mul_right sz (show i + 1 ≤ n from hi)
    rw [Nat.succ_mul] at this
    omega
  have e : (pre ++ xs).drop (pre.length + i * sz) = xs.drop (i * sz) := by rw [List.drop_append, List.drop_of_length_le (by omega)]; simp
  simp only [elP, loadA_ptr, hm, loadO_cells, e, cond_true]
  simp [this]
theorem Gl.load1 {m : Mem} {v : AV} {id n : Nat} {xs : List AV} (h : Gl m v id 1 n xs) {i : Nat} (hi : i < n) : loadA false 1 m (elP v 1 i) = xs[i]? := by
  obtain ⟨⟨pre, rfl, hm⟩, hn, hl⟩ := h
  simp [elP, hm, List.getElem?_append_right]
theorem Gl.cut {m : Mem} {v : AV} {id sz n : Nat} {xs : List AV} (h : Gl m v id sz n xs) (hi : 0 < n) : sliceSl sz v (some (.int .i64 1)) none = some (tlV v sz) := by
  obtain ⟨⟨pre, rfl, hm⟩, hn, hl⟩ := h
  have : (1 : Int) ≤ n := by omega
  simp [sliceSl, tlV, bnds, bnd, this]
theorem Gl.tail {m : Mem} {v : AV} {id sz n : Nat} {xs : List AV} (h : Gl m v id sz n xs) (hi : 0 < n) : Gl m (tlV v sz) id sz (n - 1) (xs.drop sz) := by
  obtain ⟨⟨pre, rfl, hm⟩, hn, hl⟩ := h
  have hs : sz ≤ xs.length := by
    rw [hn]; exact Nat.le_mul_of_pos_left _ hi
  refine ⟨⟨pre ++ xs.take sz, ?_, ?_⟩, ?_, hl⟩
  · simp [tlV]; omega
  · rw [hm]; simp
  · simp [hn, Nat.sub_mul]
theorem Gl.app {m : Mem} {v : AV} {id sz n by' : Nat} {xs ys : List AV} (h : Gl m v id sz n xs) (hy : ys.length = sz) (hr : room (n + 1) by' = true) :
    ∃ v' m' id', appT sz by' m v (some (1, ys)) = some (v', m') ∧ Gl m' v' id' sz (n + 1) (xs ++ ys) ∧ m.nx ≤ m'.nx ∧ (id' = id ∨ id' = m.nx) ∧ ∀ j, j < m.nx → j ≠ id → m'.h j = m.h j := by
  obtain ⟨⟨pre, rfl, hm⟩, hn, hl⟩ := h
  rw [appT_sl, hm, appO_eq]
  by_cases e : pre.length = 0
  · have : pre = [] := List.length_eq_zero_iff.1 e
    subst this
    refine ⟨.sl id sz 0 (n + 1) (xs ++ ys).length, m.set id (some (.cells (xs ++ ys))), id, ?_, ⟨⟨[], by simp, by simp [Mem.set]⟩, by simp [hn, hy, Nat.succ_mul], hl⟩, Nat.le_refl _, .inl rfl, fun j hj hne => updNe hne⟩
    simp at hr
    simp [hn, hr.1, hr.2]
  · refine ⟨.sl m.nx sz 0 (n + 1) (xs ++ ys).length, (m.set id none).new (.cells (xs ++ ys)), m.nx, ?_, ⟨⟨[], by simp, by simp [Mem.new, Mem.set]⟩, by simp [hn, hy, Nat.succ_mul], by simp [Mem.new, Mem.set]⟩, by simp [Mem.new, Mem.set], .inr rfl, fun j hj hne => ?_⟩
    · simp at hr
      have : (pre.length == 0) = false := by simpa using e
      simp [hn, hr.1, hr.2, this]
    · simp only [Mem.new, Mem.set]
      rw [updNe (by omega), updNe hne]
def Mp (m : Mem) (id : Nat) (ks vs : List AV) : Prop := (∃ g, m.h id = some (.map g ks vs)) ∧ id < m.nx
theorem Mp.frame {m m' : Mem} {id : Nat} {ks vs : List AV} (h : Mp m id ks vs) (e : m'.h id = m.h id) (l : m.nx ≤ m'.nx) : Mp m' id ks vs := by
  obtain ⟨⟨g, hg⟩, hl⟩ := h
  exact ⟨⟨g, by rw [e, hg]⟩, by omega⟩
theorem Mp.fr {m m' : Mem} {id : Nat} {ks vs : List AV} (h : Mp m id ks vs) (e : m'.h id = m.h id) (l : id < m'.nx) : Mp m' id ks vs := by
  obtain ⟨⟨g, hg⟩, hl⟩ := h
  exact ⟨⟨g, by rw [e, hg]⟩, l⟩
structure Keys (t : TypeId) {α : Type} [DecidableEq α] (enc : α → AV) (ok : α → Prop) : Prop where
  eq : ∀ a b, ok a → ok b → keyEq prog t (enc a) (enc b) = some (decide (a = b))
  key : ∀ a, ok a → keyT prog t (enc a) = true
section
variable {t : TypeId} {α β : Type} [DecidableEq α] {enc : α → AV} {ok : α → Prop} {ev : β → AV}
def lkP : List α → List β → α → Option β
  | k :: ks, v :: vs, c => if c = k then some v else lkP ks vs c
  | _, _, _ => none
theorem lkP_none : ∀ {ks : List α} {vs : List β} {c : α}, c ∉ ks → lkP ks vs c = none
  | [], _, _, _ => by simp [lkP]
  | k :: ks, [], _, _ => rfl
  | k :: ks, v :: vs, c, h => by
    simp only [List.mem_cons, not_or] at h
    rw [lkP, if_neg h.1, lkP_none h.2]
theorem lkP_at : ∀ {ks : List α} {vs : List β} {i : Nat} {c : α} {w : β}, ks.Nodup → ks[i]? = some c → vs[i]? = some w → lkP ks vs c = some w
  | [], _, _, _, _, _, h, _ => by simp at h
  | _ :: _, [], _, _, _, _, _, h => by simp at h
  | k :: ks, v :: vs, 0, c, w, _, h1, h2 => by
    simp at h1 h2
    rw [lkP, if_pos h1.symm, h2]
  | k :: ks, v :: vs, i + 1, c, w, hn, h1, h2 => by
    simp at h1 h2
    rw [List.nodup_cons] at hn
    have : c ≠ k := fun e => hn.1 (e ▸ List.mem_of_getElem? h1)
    rw [lkP, if_neg this]
    exact lkP_at hn.2 h1 h2
theorem findK_of (hk : Keys t enc ok) : ∀ {ks : List α} {vs : List β} {c : α}, (∀ a ∈ ks, ok a) → ok c → ks.length = vs.length → findK prog t (enc c) (ks.map enc) (vs.map ev) = some ((lkP ks vs c).map ev)
  | [], [], c, _, _, _ => rfl
  | [], _ :: _, _, _, _, h => by simp at h
  | _ :: _, [], _, _, _, h => by simp at h
  | k :: ks, v :: vs, c, h, hc, hl => by
    have ih := findK_of hk (ks := ks) (vs := vs) (c := c) (fun a ha => h a (by simp [ha])) hc (by simpa using hl)
    simp only [List.map_cons, findK, hk.eq c k hc (h k (by simp)), Option.bind_some]
    by_cases q : c = k
    · simp [q, lkP]
    · simp [q, lkP, ih]
theorem setK_of (hk : Keys t enc ok) {v : AV} : ∀ {ks : List α} {vs : List AV} {c : α}, (∀ a ∈ ks, ok a) → ok c → ks.length = vs.length → c ∉ ks → setK prog t (enc c) v (ks.map enc) vs = some ((ks ++ [c]).map enc, vs ++ [v])
  | [], [], c, _, _, _, _ => rfl
  | [], _ :: _, _, _, _, h, _ => by simp at h
  | _ :: _, [], _, _, _, h, _ => by simp at h
  | k :: ks, w :: vs, c, h, hc, hl, hm => by
    simp only [List.mem_cons, not_or] at hm
    have ih := setK_of hk (v := v) (ks := ks) (vs := vs) (c := c) (fun a ha => h a (by simp [ha])) hc (by simpa using hl) hm.2
    simp only [List.map_cons, setK, hk.eq c k hc (h k (by simp)), Option.bind_some]
    simp [hm.1, ih]
theorem Mp.look (hk : Keys t enc ok) {m : Mem} {id : Nat} {ks : List α} {vs : List β} (h : Mp m id (ks.map enc) (vs.map ev)) (ha : ∀ a ∈ ks, ok a) (hl : ks.length = vs.length) {c : α} (hc : ok c) (z : AV) (b : Bool) :
    lookP prog m t z (.map id) (enc c) b = some (match lkP ks vs c with | some v => bif b then .tup [ev v, .bool true] else ev v | none => bif b then .tup [z, .bool false] else z) := by
  obtain ⟨⟨g, hg⟩, _⟩ := h
  simp only [lookP, hk.key c hc, cond_true, lookA, hg, findK_of hk ha hc hl, Option.bind_some]
  cases lkP ks vs c <;> rfl
theorem Mp.put (hk : Keys t enc ok) {m : Mem} {id : Nat} {ks : List α} {vs : List β} (h : Mp m id (ks.map enc) (vs.map ev)) (ha : ∀ a ∈ ks, ok a) (hl : ks.length = vs.length) {c : α} (hc : ok c) (hm : c ∉ ks) (v : β) :
    ∃ m', updM prog m t (.map id) (enc c) (ev v) = some (.tup [], m') ∧ Mp m' id ((ks ++ [c]).map enc) ((vs ++ [v]).map ev) ∧ m'.nx = m.nx ∧ ∀ j, j ≠ id → m'.h j = m.h j := by
  obtain ⟨⟨g, hg⟩, hlt⟩ := h
  refine ⟨m.set id (some (.map (g + 1) ((ks ++ [c]).map enc) ((vs ++ [v]).map ev))), ?_, ⟨⟨g + 1, by simp [Mem.set]⟩, hlt⟩, rfl, fun j hj => updNe hj⟩
  simp only [updM, updP, hk.key c hc, cond_true, hg, setK_of hk ha hc (vs := vs.map ev) (by simpa using hl) hm, Option.bind_some, Option.map_some]
  simp
end
section
variable {α β : Type} [DecidableEq α] (nxt : α → Nat → α) (ext : β → Nat → β)
def bIn (x : α) (w : β) : Nat → Nat → List α × List β → List α × List β
  | 0, _, s => s
  | j + 1, a, s => if nxt x a ∈ s.1 then bIn x w j (a + 1) s else bIn x w j (a + 1) (s.1 ++ [nxt x a], s.2 ++ [ext w a])
def bfs (stop : α → Bool) (k : Nat) : Nat → Nat → List α × List β → Option β
  | 0, _, _ => none
  | f + 1, i, s => match s.1[i]?, s.2[i]? with
    | some x, some w => if stop x = true then some w else bfs stop k f (i + 1) (bIn nxt ext x w k 0 s)
    | _, _ => none
structure BOk (ok : α → Prop) (ln : β → Nat) (s : List α × List β) : Prop where
  nd : s.1.Nodup
  all : ∀ x ∈ s.1, ok x
  len : s.1.length = s.2.length
  wl : ∀ w ∈ s.2, ln w ≤ s.2.length
theorem bok_add {ok : α → Prop} {ln : β → Nat} {s : List α × List β} (h : BOk ok ln s) {x : α} {w : β} (hx : ok x) (hn : x ∉ s.1) (hw : ln w ≤ s.2.length + 1) : BOk ok ln (s.1 ++ [x], s.2 ++ [w]) := by
  refine ⟨?_, ?_, by simp [h.len], ?_⟩
  · rw [List.nodup_append]
    refine ⟨h.nd, by simp, ?_⟩
    intro a ha b hb
    simp at hb
    subst hb
    exact fun e => hn (e ▸ ha)
  · intro y hy
    rcases List.mem_append.1 hy with hy | hy
    · exact h.all y hy
    · simp at hy; rw [hy]; exact hx
  · intro y hy
    rcases List.mem_append.1 hy with hy | hy
    · have := h.wl y hy; simp; omega
    · simp at hy; rw [hy]; simpa using hw
theorem bIn_pre (x : α) (w : β) : ∀ (j a : Nat) (s : List α × List β), ∃ p q, (bIn nxt ext x w j a s).1 = s.1 ++ p ∧ (bIn nxt ext x w j a s).2 = s.2 ++ q
  | 0, _, s => ⟨[], [], by simp [bIn], by simp [bIn]⟩
  | j + 1, a, s => by
    rw [bIn]
    split
    · exact bIn_pre x w j (a + 1) s
    · obtain ⟨p, q, h1, h2⟩ := bIn_pre x w j (a + 1) (s.1 ++ [nxt x a], s.2 ++ [ext w a])
      exact ⟨nxt x a :: p, ext w a :: q, by rw [h1]; simp, by rw [h2]; simp⟩
theorem bIn_ok {ok : α → Prop} {ln : β → Nat} {k : Nat} (hnx : ∀ x a, ok x → a < k → ok (nxt x a)) (hex : ∀ w a, ln (ext w a) ≤ ln w + 1) (x : α) (w : β) (hx : ok x) : ∀ (j a : Nat) (s : List α × List β), a + j ≤ k → BOk ok ln s → ln w ≤ s.2.length → BOk ok ln (bIn nxt ext x w j a s)
  | 0, _, s, _, h, _ => h
  | j + 1, a, s, ha, h, hw => by
    rw [bIn]
    split
    · exact bIn_ok hnx hex x w hx j (a + 1) s (by omega) h hw
    · rename_i hn
      exact bIn_ok hnx hex x w hx j (a + 1) _ (by omega) (bok_add h (hnx x a hx (by omega)) hn (by have := hex w a; omega)) (by simp; omega)
end
theorem nodup_sub {α : Type} [DecidableEq α] : ∀ {l L : List α}, l.Nodup → (∀ x ∈ l, x ∈ L) → l.length ≤ L.length
  | [], _, _, _ => by simp
  | a :: l, L, hn, hs => by
    rw [List.nodup_cons] at hn
    have ha := hs a (by simp)
    have ih := nodup_sub (l := l) (L := L.erase a) hn.2 fun x hx => by
      have : x ≠ a := fun e => hn.1 (e ▸ hx)
      exact (List.mem_erase_of_ne this).2 (hs x (by simp [hx]))
    rw [List.length_erase_of_mem ha] at ih
    have : 0 < L.length := List.length_pos_of_mem ha
    simp; omega
end Go.Proofs.Ythnpflkpjimkfaa

/-
  BODIES OF FUNCTIONS OF THE PROGRAM AS SMALL OPERATIONS (written by gen.py; checked by the kernel against the program). Conditions: none.
-/
namespace Go.Proofs.Ythnpflkpjimkfaa
open Go.AM
open Go.Proofs.Try (prog)
set_option maxRecDepth 100000
set_option linter.all false
namespace brand_letter
noncomputable section
variable (K : List Item) (s : St)
def b : Code := (Try.f59.body).getD .skip
theorem hf : prog.funcs[59]? = some Try.f59 := by kernel_rfl
def r0 := findReg b 0
def r1 := findReg b 1
theorem b_eq : den prog ann 59 (.code b :: K) s = den prog ann 59 (.code r0 :: .code r1 :: .code .ret :: K) s := den_flat hf (l := [r0, r1, .ret]) (by kernel_rfl) K s
theorem r0_eq : den prog ann 59 (.code r0 :: K) s = mreg prog ann 59 none [] none [] [qF 2 fun s => some (.str [])] K s := (den_reg hf _ K s).trans (by kernel_rfl)
theorem r1_eq : den prog ann 59 (.code r1 :: K) s = mreg prog ann 59 none [] none [] [qC 3 0,qA 4 (convInt .u8) 3,qA 5 (binA prog .add 5 (.int .u8 97)) 4,⟨some 6, none, .w false none fun s => bslM s.m 1 (bslA 1 1 [.int .u8 0] [(0, (s.get 5))])⟩,qF 7 fun s => convStr s.m (s.get 6),qC 2 7] K s := (den_reg hf _ K s).trans (by kernel_rfl)
theorem ret_eq : den prog ann 59 (.code .ret :: K) s = finM true [fun s => some (s.get 2)] s := (den_ret hf K s).trans (by kernel_rfl)
theorem nil_eq (s : St) : den prog ann 59 [] s = finM true [fun s => some (s.get 2)] s := (den_nil hf s).trans (by kernel_rfl)
theorem inBlock_eq (id : Nat) (K : List Item) (s : St) : den prog ann 59 (.inBlock id :: K) s = den prog ann 59 K s := den_inBlock hf id K s
theorem exit_eq (id : Nat) (K : List Item) (s : St) : den prog ann 59 (.code (.exit id) :: K) s = exitV prog ann 59 (exitTo id K) s := den_exitV hf id K s
theorem call_eq (v0 : AV) (m : Mem) (h : closedL [v0] = true) : denC prog ann 59 [v0] m = (den prog ann 59 [.code b] ⟨[(0, v0)], 8, Mem.empty⟩).bind fun r => some (r.1, m) := (denC_pure hf (b := b) (by kernel_rfl) (by kernel_rfl) (by kernel_rfl) h m).trans (by kernel_rfl)
theorem pure_eq : (ann 59).pure = true := by kernel_rfl
attribute [simp] b_eq r0_eq r1_eq ret_eq nil_eq inBlock_eq exit_eq pure_eq
end
end brand_letter
end Go.Proofs.Ythnpflkpjimkfaa

/-
  LETTERS AS STRINGS: the code's and the specification's. Conditions: none.
-/
namespace Go.Proofs.Ythnpflkpjimkfaa
open Go.AM
open Go.Proofs.Try (prog)
set_option linter.all false
set_option maxRecDepth 100000
set_option maxHeartbeats 4000000
def ltr (a : Nat) : List UInt8 := [UInt8.ofNat (97 + a)]
theorem letter_spec {a : Nat} (h : a < 3) (m : Mem) : denC prog ann 59 [.int .i64 a] m = some (.str (ltr a), m) := by
  rw [brand_letter.call_eq _ _ (by simp)]
  rcases (by omega : a = 0 ∨ a = 1 ∨ a = 2) with rfl | rfl | rfl
  · simp [ltr, convStr, bytesOf, sliceStr, bnds, bnd, IntKind.wrap, IntKind.min, IntKind.max, IntKind.signed, IntKind.bits]; done
  · simp [ltr, convStr, bytesOf, sliceStr, bnds, bnd, IntKind.wrap, IntKind.min, IntKind.max, IntKind.signed, IntKind.bits]; done
  · simp [ltr, convStr, bytesOf, sliceStr, bnds, bnd, IntKind.wrap, IntKind.min, IntKind.max, IntKind.signed, IntKind.bits]; done
end Go.Proofs.Ythnpflkpjimkfaa

/-
  PAIRS OF STATES AS CELLS AND AS KEYS. Conditions: none.
-/
namespace Go.Proofs.Ythnpflkpjimkfaa
open Go.AM
open Go.Proofs.Try (prog)
set_option linter.all false
set_option maxRecDepth 100000
set_option maxHeartbeats 4000000
@[simp] theorem neqB (a b : Bool) : binA prog .neq 4 (.bool a) (.bool b) = some (.bool (!(a == b))) := by simp [binA, eqT, eqA, u4']
abbrev PN := Nat × Nat
def cP (x : PN) : List AV := [.int .i64 ((x.1 : Nat) : Int), .int .i64 ((x.2 : Nat) : Int)]
def encP (x : PN) : AV := .agg (cP x)
def flP : List PN → List AV
  | [] => []
  | x :: l => cP x ++ flP l
@[simp] theorem cP_len (x : PN) : (cP x).length = 2 := rfl
@[simp] theorem flP_len : ∀ l : List PN, (flP l).length = l.length * 2
  | [] => rfl
  | x :: l => by rw [flP, List.length_append, flP_len l, cP_len, List.length_cons]; omega
theorem sc3 (n : Int) : scV prog 3 (.int .i64 n) = true := by simp [scV, u3]
end Go.Proofs.Ythnpflkpjimkfaa

/-
  SETS OF STATES AS BITS OF A NUMBER. Conditions: none.
-/
namespace Go.Proofs.Ythnpflkpjimkfaa
open Go.AM
open Go.Proofs.Try (prog)
set_option linter.all false
set_option maxRecDepth 100000
set_option maxHeartbeats 4000000
theorem wrapN {x : Nat} (h : x < 4096) : IntKind.wrap .i64 (x : Int) = x := wrap_id (by omega) (by omega)
theorem bvN (x : Nat) : BitVec.ofInt (IntKind.bits .i64) (x : Int) = BitVec.ofNat (IntKind.bits .i64) x := BitVec.ofInt_natCast _ x
theorem and_b {x y : Nat} (hx : x < 4096) (hy : y < 4096) : binA prog .and 3 (.int .i64 (x : Int)) (.int .i64 (y : Int)) = some (.int .i64 ((x &&& y : Nat) : Int)) := by
  have h : (BitVec.ofNat (IntKind.bits .i64) x &&& BitVec.ofNat (IntKind.bits .i64) y).toNat = x &&& y := by
    rw [BitVec.toNat_and, BitVec.toNat_ofNat, BitVec.toNat_ofNat, Nat.mod_eq_of_lt (Nat.lt_of_lt_of_le hx (by decide)), Nat.mod_eq_of_lt (Nat.lt_of_lt_of_le hy (by decide))]
  have hl : x &&& y < 4096 := Nat.and_lt_two_pow x (n := 12) hy
  rw [binA_and, bvN, bvN, h, wrapN hl]
theorem or_b {x y : Nat} (hx : x < 4096) (hy : y < 4096) : binA prog .or 3 (.int .i64 (x : Int)) (.int .i64 (y : Int)) = some (.int .i64 ((x ||| y : Nat) : Int)) := by
  have h : (BitVec.ofNat (IntKind.bits .i64) x ||| BitVec.ofNat (IntKind.bits .i64) y).toNat = x ||| y := by
    rw [BitVec.toNat_or, BitVec.toNat_ofNat, BitVec.toNat_ofNat, Nat.mod_eq_of_lt (Nat.lt_of_lt_of_le hx (by decide)), Nat.mod_eq_of_lt (Nat.lt_of_lt_of_le hy (by decide))]
  have hl : x ||| y < 4096 := Nat.or_lt_two_pow (n := 12) hx hy
  rw [binA_or, bvN, bvN, h, wrapN hl]
def pwB (t : Nat) : Nat := 2 ^ t
def shB (x s : Nat) : Nat := x / 2 ^ s
def lowB (x : Nat) : Nat := x &&& (x - 1)
theorem pwB_lt {t : Nat} (h : t < 6) : pwB t < 64 := Nat.pow_lt_pow_right (a := 2) (n := 6) (by omega) h
theorem shB_lt {x s : Nat} (h : x < 64) : shB x s < 64 := Nat.lt_of_le_of_lt (Nat.div_le_self _ _) h
theorem shl_b {n : Nat} (hn : n ≤ 6) : binA prog .shl 3 (.int .i64 1) (.int .i64 (n : Int)) = some (.int .i64 (pwB n : Int)) := by
  have : n = 0 ∨ n = 1 ∨ n = 2 ∨ n = 3 ∨ n = 4 ∨ n = 5 ∨ n = 6 := by omega
  rw [binA_shl]
  rcases this with rfl | rfl | rfl | rfl | rfl | rfl | rfl <;> rfl
theorem shr_b {x s : Nat} (hx : x < 64) (hs : s < 6) : binA prog .shr 3 (.int .i64 (x : Int)) (.int .i64 (s : Int)) = some (.int .i64 (shB x s : Int)) := by
  have h0 : ¬ ((s : Int) < 0) := by omega
  have h1 : min (s : Int).toNat (IntKind.bits .i64) = s := by
    show min (s : Int).toNat 64 = s
    omega
  rw [binA_shr, h1]
  have e : (x : Int).fdiv (2 ^ s) = (shB x s : Int) := by
    rw [Int.fdiv_eq_ediv_of_nonneg _ (Int.pow_nonneg (by omega)), shB]
    simp
  simp [h0, e]
theorem low_b {x : Nat} (hx : x < 64) : binA prog .and 3 (.int .i64 (x : Int)) (.int .i64 (IntKind.wrap .i64 ((x : Int) - 1))) = some (.int .i64 (lowB x : Int)) := by
  by_cases h : x = 0
  · subst h; rw [binA_and]; rfl
  · have e : IntKind.wrap .i64 ((x : Int) - 1) = ((x - 1 : Nat) : Int) := by
      rw [wrap_id (by omega) (by omega)]; omega
    rw [e, and_b (by omega) (by omega)]; rfl
theorem one_b {x s : Nat} (hx : x < 64) : binA prog .and 3 (.int .i64 (shB x s : Int)) (.int .i64 1) = some (.int .i64 (if shB x s % 2 = 1 then 1 else 0)) := by
  have h := and_b (x := shB x s) (y := 1) (by have := shB_lt (s := s) hx; omega) (by omega)
  rw [Nat.and_one_is_mod] at h
  refine h.trans ?_
  rcases Nat.mod_two_eq_zero_or_one (shB x s) with e | e <;> rw [e] <;> rfl
def stepB (rows : List (List Int)) (x a : Nat) : Nat → Nat → Nat → Nat
  | 0, _, y => y
  | j + 1, s, y => stepB rows x a j (s + 1) (if shB x s % 2 = 1 then y ||| pwB (nx rows s a) else y)
theorem stepB_lt {rows : List (List Int)} {good : List Bool} {k : Nat} (v : VB rows good k) {x a : Nat} (ha : a < k) : ∀ (j s y : Nat), s + j = rows.length → y < 64 → stepB rows x a j s y < 64
  | 0, _, y, _, h => h
  | j + 1, s, y, h1, h => by
    rw [stepB]
    refine stepB_lt v ha j (s + 1) _ (by omega) ?_
    split
    · have := (nx_lt v (show s < rows.length by omega) ha).1
      have h6 := v.n6
      exact Nat.or_lt_two_pow (n := 6) h (pwB_lt (by omega))
    · exact h
def nxS (rows : List (List Int)) (x a : Nat) : Nat := stepB rows x a rows.length 0 0
def encS (x : Nat) : AV := .int .i64 (x : Int)
theorem keysS (ok : Nat → Prop) : Keys 3 encS ok := by
  refine ⟨fun a b _ _ => ?_, fun a _ => sc3 a⟩
  by_cases e : a = b
  · simp [keyEq, encS, sc3, eqSc, e]
  · have : ((a : Int) == (b : Int)) = false := by rw [beq_eq_false_iff_ne]; omega
    simp [keyEq, encS, sc3, eqSc, e, this]
theorem sets_few {l : List Nat} (hn : l.Nodup) (ha : ∀ x ∈ l, x < 64) : l.length ≤ 64 := by
  have := nodup_sub hn (L := List.range 64) fun x hx => List.mem_range.2 (ha x hx)
  simpa using this
def stS (x : Nat) : Bool := decide (lowB x = 0)
def rstW (rows : List (List Int)) (k : Nat) : Option (List UInt8) := bfs (nxS rows) (fun w a => w ++ ltr a) stS k 65 0 ([pwB rows.length - 1], [[]])
end Go.Proofs.Ythnpflkpjimkfaa

/-
  ALIKE STATES: those from which the same words lead to good ones; what marking unlike ones again and again ends in. Conditions: none.
-/
namespace Go.Proofs.Ythnpflkpjimkfaa
open Go.AM
open Go.Proofs.Try (prog)
set_option linter.all false
set_option maxRecDepth 100000
set_option maxHeartbeats 4000000
def gow (rows : List (List Int)) (s : Nat) (w : List Nat) : Nat := w.foldl (nx rows) s
def alk (rows : List (List Int)) (good : List Bool) (k i j : Nat) : Prop := ∀ w : List Nat, (∀ a ∈ w, a < k) → bnth good (gow rows i w) = bnth good (gow rows j w)
open Classical in
noncomputable def alB (rows : List (List Int)) (good : List Bool) (k i j : Nat) : Bool := decide (alk rows good k i j)
section
variable {rows : List (List Int)} {good : List Bool} {k : Nat}
theorem alB_iff {i j : Nat} : alB rows good k i j = true ↔ alk rows good k i j := by simp [alB]
end
abbrev MB := List (List Bool)
def brw (D : MB) (i : Nat) : List Bool := D.getD i []
def mth (D : MB) (i j : Nat) : Bool := bnth (brw D i) j
def setM (D : MB) (i j : Nat) (b : Bool) : MB := D.set i ((brw D i).set j b)
structure Wf (n : Nat) (D : MB) : Prop where
  l : D.length = n
  r : ∀ i, i < n → (brw D i).length = n
theorem brw_set {D : MB} {i i' : Nat} {r : List Bool} (h : i < D.length) : brw (D.set i r) i' = if i = i' then r else brw D i' := by
  simp only [brw, List.getD_eq_getElem?_getD, List.getElem?_set]
  by_cases e : i = i'
  · subst e; simp [h]
  · simp [e]
theorem bnth_set {l : List Bool} {j j' : Nat} {b : Bool} (h : j < l.length) : bnth (l.set j b) j' = if j = j' then b else bnth l j' := by
  simp only [bnth, List.getD_eq_getElem?_getD, List.getElem?_set]
  by_cases e : j = j'
  · subst e; simp [h]
  · simp [e]
theorem Wf.set {n : Nat} {D : MB} (h : Wf n D) {i j : Nat} (b : Bool) (hi : i < n) : Wf n (setM D i j b) := by
  refine ⟨by simp [setM, h.l], fun i' hi' => ?_⟩
  rw [setM, brw_set (by rw [h.l]; exact hi)]
  split
  · rw [List.length_set]; exact h.r i hi
  · exact h.r i' hi'
theorem Wf.get {n : Nat} {D : MB} (h : Wf n D) {i j i' j' : Nat} {b : Bool} (hi : i < n) (hj : j < n) : mth (setM D i j b) i' j' = if i = i' ∧ j = j' then b else mth D i' j' := by
  rw [mth, setM, brw_set (by rw [h.l]; exact hi)]
  by_cases e : i = i'
  · subst e
    rw [if_pos rfl, bnth_set (by rw [h.r i hi]; exact hj)]
    by_cases e' : j = j'
    · simp [e']
    · simp [e', mth]
  · simp [e, mth]
section
variable {S α : Type} (I : S → Prop) (μ : S → Nat) (Q : α → S → Prop) (step : S → α → S)
end
end Go.Proofs.Ythnpflkpjimkfaa

/-
  MARKING UNLIKE STATES: the program's way and the specification's end in the same. Conditions: none.
-/
namespace Go.Proofs.Ythnpflkpjimkfaa
open Go.AM
open Go.Proofs.Try (prog)
set_option linter.all false
set_option maxRecDepth 100000
set_option maxHeartbeats 4000000
section
variable {rows : List (List Int)} {good : List Bool} {k : Nat}
structure Mkd (rows : List (List Int)) (good : List Bool) (k : Nat) (D : MB) : Prop where
  wf : Wf rows.length D
  snd : ∀ i j, i < rows.length → j < rows.length → mth D i j = true → ¬ alk rows good k i j
  bas : ∀ i j, i < rows.length → j < rows.length → bnth good i ≠ bnth good j → mth D i j = true
structure Lkd (rows : List (List Int)) (good : List Bool) (k : Nat) (L : MB) : Prop where
  wf : Wf rows.length L
  snd : ∀ i j, i < rows.length → j < rows.length → mth L i j = false → ¬ alk rows good k i j
  bas : ∀ i j, i < rows.length → j < rows.length → bnth good i ≠ bnth good j → mth L i j = false
end
end Go.Proofs.Ythnpflkpjimkfaa

/-
  NUMBERING STATES UP TO LIKENESS: taking representatives as they come, and taking all states and leaving out later ones that are alike, is the same. Conditions: none.
-/
namespace Go.Proofs.Ythnpflkpjimkfaa
open Go.AM
open Go.Proofs.Try (prog)
set_option linter.all false
set_option maxRecDepth 100000
set_option maxHeartbeats 4000000
def idxA (al : Nat → Nat → Bool) (P : List Nat) (s : Nat) : Nat := P.findIdx (al s)
section
variable {al : Nat → Nat → Bool} {nxt : Nat → Nat → Nat} {k : Nat}
structure Lik (al : Nat → Nat → Bool) (nxt : Nat → Nat → Nat) (k n : Nat) : Prop where
  rf : ∀ s, s < n → al s s = true
  sy : ∀ s t, s < n → t < n → al s t = true → al t s = true
  tr : ∀ s t u, s < n → t < n → u < n → al s t = true → al t u = true → al s u = true
  st : ∀ s t a, s < n → t < n → a < k → al s t = true → al (nxt s a) (nxt t a) = true
  cl : ∀ s a, s < n → a < k → nxt s a < n
variable {n : Nat}
variable {β : Type} {ext : β → Nat → β}
end
end Go.Proofs.Ythnpflkpjimkfaa

/-
  LISTS THAT ARE NIL OR AN OBJECT OF THEIR OWN. Conditions: none.
-/
namespace Go.Proofs.Ythnpflkpjimkfaa
open Go.AM
open Go.Proofs.Try (prog)
set_option linter.all false
set_option maxRecDepth 100000
set_option maxHeartbeats 4000000
theorem Gl.oid {m : Mem} {v : AV} {id sz n : Nat} {xs : List AV} (h : Gl m v id sz n xs) : objId v = some id := by
  obtain ⟨⟨pre, rfl, hm⟩, hn, hl⟩ := h; rfl
def Nl (h : Nat → Option AObj) (v : AV) (xs : List AV) (lo hi : Nat) : Prop := (v = .nils ∧ xs = []) ∨ ∃ R, v = .sl R 1 0 xs.length xs.length ∧ h R = some (.cells xs) ∧ lo ≤ R ∧ R < hi
section
variable {h h' : Nat → Option AObj} {v : AV} {xs : List AV} {lo hi hi' : Nat}
theorem Nl.nil : Nl h .nils [] lo hi := .inl ⟨rfl, rfl⟩
theorem Nl.fr (n : Nl h v xs lo hi) (e : ∀ y, lo ≤ y → y < hi → objId v = some y → h' y = h y) (l : hi ≤ hi') : Nl h' v xs lo hi' := by
  rcases n with ⟨rfl, rfl⟩ | ⟨R, rfl, h1, h2, h3⟩
  · exact .nil
  · exact .inr ⟨R, rfl, by rw [e R h2 h3 rfl, h1], h2, by omega⟩
theorem Nl.one (n : Nl h v xs lo hi) : v.one = true := by
  rcases n with ⟨rfl, rfl⟩ | ⟨R, rfl, h1, h2, h3⟩ <;> rfl
theorem Nl.cells (n : Nl h v xs lo hi) : v.cells = [v] := by
  rcases n with ⟨rfl, rfl⟩ | ⟨R, rfl, h1, h2, h3⟩ <;> rfl
theorem Nl.oid (n : Nl h v xs lo hi) {y : Nat} (e : objId v = some y) : lo ≤ y ∧ y < hi := by
  rcases n with ⟨rfl, rfl⟩ | ⟨R, rfl, h1, h2, h3⟩
  · cases e
  · simp [objId] at e; omega
theorem Nl.len (n : Nl h v xs lo hi) : lenSl v = some (.int .i64 xs.length) := by
  rcases n with ⟨rfl, rfl⟩ | ⟨R, rfl, h1, h2, h3⟩ <;> rfl
theorem mapO_same {f : AV → Option AV} : ∀ l : List AV, (∀ x ∈ l, f x = some x) → mapO f l = some l
  | [], _ => rfl
  | a :: l, q => by simp [mapO, q a (by simp), mapO_same l (fun x hx => q x (by simp [hx]))]
theorem Nl.deep (n : Nl h v xs lo hi) (d : Nat) (hd : ∀ x ∈ xs, AM.deep h d x = some x) (h0 : v ≠ .nils) : AM.deep h (d + 1) v = some (.fsl false xs.length xs) := by
  rcases n with ⟨rfl, rfl⟩ | ⟨R, rfl, h1, h2, h3⟩
  · exact absurd rfl h0
  · simp [AM.deep, h1, mapO_same xs hd]
theorem Nl.nn (n : Nl h v xs lo hi) (h0 : xs ≠ []) : v ≠ .nils := by
  rcases n with ⟨rfl, rfl⟩ | ⟨R, rfl, h1, h2, h3⟩
  · exact absurd rfl h0
  · simp
theorem Nl.sl (n : Nl h v xs lo hi) (h0 : v ≠ .nils) : ∃ R, v = .sl R 1 0 xs.length xs.length ∧ h R = some (.cells xs) ∧ lo ≤ R ∧ R < hi := by
  rcases n with ⟨rfl, rfl⟩ | h
  · exact absurd rfl h0
  · exact h
theorem Nl.app {nx by' : Nat} (n : Nl h v xs lo hi) (hh : hi ≤ nx) (hl : lo ≤ nx) (hr : room (xs.length + 1) by' = true) (y : AV) :
    ∃ v' h' nx', appT 1 by' ⟨h, nx⟩ v (some (1, [y])) = some (v', ⟨h', nx'⟩) ∧ Nl h' v' (xs ++ [y]) lo nx' ∧ nx ≤ nx' ∧ nx' ≤ nx + 1 ∧ (∀ z, objId v' = some z → objId v = some z ∨ z = nx) ∧ (∀ z, objId v' ≠ some z → h' z = h z) ∧ v' ≠ .nils := by
  rcases n with ⟨rfl, rfl⟩ | ⟨R, rfl, h1, h2, h3⟩
  · refine ⟨.sl nx 1 0 1 1, upd h nx (some (.cells [y])), nx + 1, ?_, .inr ⟨nx, rfl, by simp, hl, by omega⟩, by omega, by omega, fun z e => .inr (by simp [objId] at e; omega), fun z e => updNe (fun q => e (by rw [q]; rfl)), by simp⟩
    simp at hr
    simp [Mem.new, hr]
  · refine ⟨.sl R 1 0 (xs.length + 1) (xs.length + 1), upd h R (some (.cells (xs ++ [y]))), nx, ?_, .inr ⟨R, by simp, by simp, h2, by omega⟩, by omega, by omega, fun z e => .inl e, fun z e => updNe (fun q => e (by rw [q]; rfl)), by simp⟩
    simp at hr
    simp [h1, hr.1, hr.2]
end
end Go.Proofs.Ythnpflkpjimkfaa

/-
  THE LEAST WORD THAT ONLY ONE OF TWO BRANDS ACCEPTS: the program's search. Conditions: none.
-/
namespace Go.Proofs.Ythnpflkpjimkfaa
open Go.AM
open Go.Proofs.Try (prog)
set_option linter.all false
set_option maxRecDepth 100000
set_option maxHeartbeats 8000000
def extL (w : List UInt8) (a : Nat) : List UInt8 := w ++ ltr a
def resP : Option (List UInt8) → AV
  | some w => .tup [.str w, .int .i64 0]
  | none => .tup [.str [], .int .i64 5]
end Go.Proofs.Ythnpflkpjimkfaa
