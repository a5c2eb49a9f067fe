/-
  THE LIBRARY'S COMPARISON AND SORT OF STRINGS, AS THEOREMS OF THIS PROGRAM (the shelf's contract). Conditions: none.
-/
import Derived.Shelf.Small.Strs
import Derived.Shelf.Sort.Plain
import Derived.Test.YthnpflkpjimkfaaKAmH
import Derived.Test.YthnpflkpjimkfaaKAmC
import Derived.Test.YthnpflkpjimkfaaKAmG
import Derived.Test.YthnpflkpjimkfaaKAmF
import Derived.Test.YthnpflkpjimkfaaKAmE
set_option linter.all false
namespace Go.Proofs.Ythnpflkpjimkfaa
open Go.Shelf Go.Proofs Go.AM
open Go.Proofs.Try (prog)
set_option maxRecDepth 100000
def cmpRen : Go.Shelf.Ren := ⟨fun | 106 => 86 | 213 => 94 | 265 => 108 | n => n, fun n => n, fun n => n⟩
theorem cmpLays : Lays.n106 Try.prog cmpRen where
  mixed := by kernel_rfl
  f106 := Try.func86.trans (congrArg some (by kernel_rfl))
  f213 := Try.func94.trans (congrArg some (by kernel_rfl))
  f265 := Try.func108.trans (congrArg some (by kernel_rfl))
  t3 := Try.underlying3
  a3 := Try.isAgg3
  z3 := Try.sizeOf3
  v3 := Try.zeroValue3
  t9 := Try.underlying9
  a9 := Try.isAgg9
  z9 := Try.sizeOf9
  v9 := Try.zeroValue9
theorem cmp_same : ∀ a b : List UInt8, Lib.compareBytes a b = cmpL a b
  | [], [] => rfl
  | [], _ :: _ => rfl
  | _ :: _, [] => rfl
  | a :: x, b :: y => by rw [Lib.compareBytes, cmpL, cmp_same x y]
def sortRen : Go.Shelf.Ren := ⟨fun | 190 => 85 | 125 => 93 | 258 => 92 | 128 => 106 | 129 => 107 | 302 => 97 | 303 => 98 | 304 => 99 | 305 => 100 | 306 => 101 | 307 => 102 | 308 => 103 | 309 => 104 | 310 => 105 | 333 => 109 | 329 => 110 | 330 => 111 | 334 => 112 | 335 => 113 | 336 => 114 | 344 => 115 | n => n, fun | 31 => 57 | 9 => 9 | 3 => 3 | 46 => 151 | 0 => 0 | 51 => 161 | 53 => 163 | 4 => 4 | 183 => 155 | 182 => 154 | 131 => 84 | 5 => 5 | 218 => 164 | 222 => 168 | 228 => 171 | 229 => 172 | n => n, fun n => n⟩
theorem sortLays : Lays.n190 Try.prog sortRen where
  mixed := by kernel_rfl
  f125 := Try.func93.trans (congrArg some (by kernel_rfl))
  f128 := Try.func106.trans (congrArg some (by kernel_rfl))
  f129 := Try.func107.trans (congrArg some (by kernel_rfl))
  f190 := Try.func85.trans (congrArg some (by kernel_rfl))
  f258 := Try.func92.trans (congrArg some (by kernel_rfl))
  f302 := Try.func97.trans (congrArg some (by kernel_rfl))
  f303 := Try.func98.trans (congrArg some (by kernel_rfl))
  f304 := Try.func99.trans (congrArg some (by kernel_rfl))
  f305 := Try.func100.trans (congrArg some (by kernel_rfl))
  f306 := Try.func101.trans (congrArg some (by kernel_rfl))
  f307 := Try.func102.trans (congrArg some (by kernel_rfl))
  f308 := Try.func103.trans (congrArg some (by kernel_rfl))
  f309 := Try.func104.trans (congrArg some (by kernel_rfl))
  f310 := Try.func105.trans (congrArg some (by kernel_rfl))
  f329 := Try.func110.trans (congrArg some (by kernel_rfl))
  f330 := Try.func111.trans (congrArg some (by kernel_rfl))
  f333 := Try.func109.trans (congrArg some (by kernel_rfl))
  f334 := Try.func112.trans (congrArg some (by kernel_rfl))
  f335 := Try.func113.trans (congrArg some (by kernel_rfl))
  f336 := Try.func114.trans (congrArg some (by kernel_rfl))
  f344 := Try.func115.trans (congrArg some (by kernel_rfl))
  t0 := Try.underlying0
  a0 := Try.isAgg0
  z0 := Try.sizeOf0
  v0 := Try.zeroValue0
  t3 := Try.underlying3
  a3 := Try.isAgg3
  z3 := Try.sizeOf3
  v3 := Try.zeroValue3
  t4 := Try.underlying4
  a4 := Try.isAgg4
  z4 := Try.sizeOf4
  v4 := Try.zeroValue4
  t5 := Try.underlying5
  a5 := Try.isAgg5
  z5 := Try.sizeOf5
  v5 := Try.zeroValue5
  t9 := Try.underlying9
  a9 := Try.isAgg9
  z9 := Try.sizeOf9
  v9 := Try.zeroValue9
  t31 := Try.underlying57
  a31 := Try.isAgg57
  z31 := Try.sizeOf57
  v31 := Try.zeroValue57
  t46 := Try.underlying151
  a46 := Try.isAgg151
  z46 := Try.sizeOf151
  v46 := Try.zeroValue151
  t51 := Try.underlying161
  a51 := Try.isAgg161
  z51 := Try.sizeOf161
  v51 := Try.zeroValue161
  t53 := Try.underlying163
  a53 := Try.isAgg163
  z53 := Try.sizeOf163
  v53 := Try.zeroValue163
  t131 := Try.underlying84
  a131 := Try.isAgg84
  z131 := Try.sizeOf84
  v131 := Try.zeroValue84
  t182 := Try.underlying154
  a182 := Try.isAgg154
  z182 := Try.sizeOf154
  v182 := Try.zeroValue154
  t183 := Try.underlying155
  a183 := Try.isAgg155
  z183 := Try.sizeOf155
  v183 := Try.zeroValue155
  t218 := Try.underlying164
  a218 := Try.isAgg164
  z218 := Try.sizeOf164
  v218 := Try.zeroValue164
  t222 := Try.underlying168
  a222 := Try.isAgg168
  z222 := Try.sizeOf168
  v222 := Try.zeroValue168
  t228 := Try.underlying171
  a228 := Try.isAgg171
  z228 := Try.sizeOf171
  v228 := Try.zeroValue171
  t229 := Try.underlying172
  a229 := Try.isAgg172
  z229 := Try.sizeOf172
  v229 := Try.zeroValue172
theorem libS : ∀ g, (ann g).srt = true → LibCalls prog ann g := fun g h => by
  have := srt_only (l := annL) (d := ⟨false, [], [], [], []⟩) rfl (fun g => g == 86 || g == 85) (by kernel_rfl) g h
  have e : g = 86 ∨ g = 85 := by simpa using this
  rcases e with rfl | rfl
  · refine ⟨fun _ a b w => ?_, fun h => ?_, fun h => ?_⟩
    · refine (Any.strings_Compare cmpLays a b w).mono ?_
      rintro e w' ⟨rfl, rfl⟩
      exact ⟨by rw [cmp_same], rfl⟩
    · have : (ann 86).cmp = true := by kernel_rfl
      rw [this] at h; cases h
    · have : (ann 86).cmp = true := by kernel_rfl
      rw [this] at h; cases h
  · refine ⟨fun h => ?_, fun _ _ => ?_, fun _ h => ?_⟩
    · have : (ann 85).cmp = false := by kernel_rfl
      rw [this] at h; cases h
    · exact fun blk off cap zs w hH hblk hsz => Any.slices_Sort_string sortLays blk off cap zs w hH hblk hsz
    · have : (ann 85).sts = true := by kernel_rfl
      rw [this] at h; cases h
end Go.Proofs.Ythnpflkpjimkfaa

/-
  SLICES WHOSE ELEMENTS ARE THEMSELVES SLICES, AS VALUES. Conditions: none.
-/
namespace Go.AM
set_option linter.all false
def cAt (cs : List AV) (i : Nat) : AV := cs.getD i .undef
theorem cAt_eq {cs : List AV} {i : Nat} (h : i < cs.length) : cs[i]? = some (cAt cs i) := by
  rw [List.getElem?_eq_getElem h]; simp [cAt, List.getD, List.getElem?_eq_getElem h]
theorem cAt_load {cs : List AV} {i : Nat} (h : i < cs.length) : loadF false 1 (.fptr (cs.drop i)) = some (cAt cs i) := by
  simp [List.head?_drop, cAt_eq h]
def gth {α : Type} [Inhabited α] (l : List α) (i : Nat) : α := l.getD i default
structure IsVec {α : Type} [Inhabited α] (R : AV → α → Prop) (v : AV) (cs : List AV) (l : List α) : Prop where
  n : cs.length = l.length
  rel : ∀ i, i < l.length → R (cAt cs i) (gth l i)
  cl : closedL cs = true
  v : (v = .nils ∧ l = []) ∨ ∃ ex, v = .fsl ex l.length cs
section
variable {α : Type} [Inhabited α] {R : AV → α → Prop} {v : AV} {cs : List AV} {l : List α}
theorem IsVec.closed (h : IsVec R v cs l) : v.closed = true := by rcases h.v with ⟨rfl, _⟩ | ⟨_, rfl⟩ <;> rfl
theorem IsVec.one (h : IsVec R v cs l) : v.one = true := by rcases h.v with ⟨rfl, _⟩ | ⟨_, rfl⟩ <;> rfl
theorem IsVec.cells (h : IsVec R v cs l) : v.cells = [v] := by rcases h.v with ⟨rfl, _⟩ | ⟨_, rfl⟩ <;> rfl
theorem IsVec.len (h : IsVec R v cs l) : lenSl v = some (.int .i64 l.length) := by rcases h.v with ⟨rfl, rfl⟩ | ⟨_, rfl⟩ <;> simp
theorem IsVec.deep (h : IsVec R v cs l) (hp : Nat → Option AObj) (d : Nat) : AM.deep hp (d + 1) v = some v := by rcases h.v with ⟨rfl, _⟩ | ⟨_, rfl⟩ <;> rfl
theorem IsVec.frz (h : IsVec R v cs l) (m : Mem) : frzV v m = some (v, m) := by rcases h.v with ⟨rfl, _⟩ | ⟨_, rfl⟩ <;> rfl
theorem IsVec.idx (h : IsVec R v cs l) {i : Nat} (hi : i < l.length) (k : IntKind) : idxSl 1 v (.int k (i : Int)) = some (.fptr (cs.drop i)) := by
  rcases h.v with ⟨rfl, rfl⟩ | ⟨_, rfl⟩
  · simp at hi
  · simp [hi]
theorem IsVec.load (h : IsVec R v cs l) {i : Nat} (hi : i < l.length) : loadF false 1 (.fptr (cs.drop i)) = some (cAt cs i) := cAt_load (by rw [h.n]; exact hi)
theorem IsVec.at (h : IsVec R v cs l) {i : Nat} (hi : i < l.length) : R (cAt cs i) (gth l i) := h.rel i hi
end
def bnth (l : List Bool) (i : Nat) : Bool := l.getD i false
end Go.AM

/-
  LISTS OF NUMBERS: what all laws share. Conditions: none.
-/
namespace Go.AM
set_option linter.all false
theorem updNe {h : Nat → Option AObj} {i j : Nat} {o : Option AObj} (e : j ≠ i) : upd h i o j = h j := by simp [upd, show (j == i) = false from beq_eq_false_iff_ne.2 e]
theorem nth_set (l : List Int) (i j : Nat) (v : Int) : nth (l.set i v) j = if i = j ∧ i < l.length then v else nth l j := by
  simp only [nth, List.getD, List.getElem?_set]
  by_cases h : i = j
  · subst h
    by_cases h2 : i < l.length
    · simp [h2]
    · simp [h2, List.getElem?_eq_none (show l.length ≤ i by omega)]
  · simp [h]
theorem appV_nothing (size by' : Nat) (h : size ≠ 0) : appV size by' (.fsl true 0 []) .nils = some (.fsl true 0 []) := by
  have h' : (size == 0) = false := by simpa using h
  simp [appV, appF, h']
theorem appV_full {size by' n : Nat} {ex : Bool} {cs : List AV} (h : size ≠ 0) (hl : cs.length = n * size) (hc : closedL cs = true) (hr : room n by' = true) (hn : n ≠ 0) :
    appV size by' (.fsl true 0 []) (.fsl ex n cs) = some (.fsl false n cs) := by
  have h' : (size == 0) = false := by simpa using h
  have hn' : (n == 0) = false := by simpa using hn
  have hr' := hr
  simp at hr'
  simp [appV, appF, h', hl, hn', hr', hc]
  simp [← hl]
theorem app_ints {v : AV} {l : List Int} (h : IsInts v l) (hl : l.length ≤ 1000000) : ∃ v', appV 1 8 (.fsl true 0 []) v = some v' ∧ IsInts v' l := by
  rcases h with ⟨rfl, rfl⟩ | ⟨ex, rfl⟩
  · exact ⟨_, appV_nothing 1 8 (by omega), .inr ⟨true, rfl⟩⟩
  · by_cases e : l.length = 0
    · have : l = [] := List.length_eq_zero_iff.1 e
      subst this
      exact ⟨.fsl true 0 [], by simp [appV, appF], .inr ⟨true, rfl⟩⟩
    · exact ⟨_, appV_full (size := 1) (by' := 8) (n := l.length) (ex := ex) (cs := ints l) (by omega) (by simp) (by simp) (by simp [room]; omega) e, .inr ⟨false, rfl⟩⟩
theorem slice_ints {v : AV} {l : List Int} (h : IsInts v l) {j : Int} (h0 : 0 ≤ j) (h1 : j ≤ l.length) : ∃ v', sliceSl 1 v none (some (.int .i64 j)) = some v' ∧ IsInts v' (l.take j.toNat) := by
  rcases h with ⟨rfl, rfl⟩ | ⟨ex, rfl⟩
  · have : j = 0 := by simp at h1; omega
    subst this
    exact ⟨.nils, by simp [sliceSl, bnds, bnd], .inl ⟨rfl, by simp⟩⟩
  · refine ⟨.fsl (ex && j.toNat == l.length) j.toNat (ints (l.take j.toNat)), by simp [sliceSl, bnds, bnd, h0, h1], .inr ⟨ex && j.toNat == l.length, by simp [show min j.toNat l.length = j.toNat by omega]⟩⟩
theorem take_min {α : Type} (l : List α) (n : Nat) : l.take (min (l.length : Int) n).toNat = l.take n := by
  rcases Nat.le_total l.length n with h | h
  · rw [List.take_of_length_le h, List.take_of_length_le (by omega)]
  · rw [show (min (l.length : Int) n).toNat = n by omega]
end Go.AM

/-
  BODIES OF FUNCTIONS OF THE PROGRAM AS SMALL OPERATIONS (written by gen.py; checked by the kernel against the program). Conditions: none.
-/
namespace Go.Proofs.Ythnpflkpjimkfaa
open Go.AM
open Go.Proofs.Try (prog)
set_option maxRecDepth 100000
set_option linter.all false
namespace l07_cut
noncomputable section
variable (K : List Item) (s : St)
def b : Code := (Try.f17.body).getD .skip
theorem hf : prog.funcs[17]? = some Try.f17 := by kernel_rfl
def r0 := findReg b 0
def r1 := findReg b 1
def r2 := findReg b 2
def k0 := findBlk b 0
def l0 := loopOf k0
def L0 (x1 x2 x3 x4 : AV) (m : Mem) (K : List Item) : Option Res := den prog ann 17 (.code l0 :: .inLoop l0 :: .inBlock 0 :: K) ⟨[(1, x1), (2, x2), (3, x3), (4, x4)], 47, m⟩
def r3 := findReg b 3
def i0 := findCond b 0
def i0t := thenOf i0
def i0e := elseOf i0
def k1 := findBlk b 1
def r5 := findReg b 5
def r4 := findReg b 4
def r6 := findReg b 6
theorem b_eq : den prog ann 17 (.code b :: K) s = den prog ann 17 (.code r0 :: .code r1 :: .code r2 :: .code k0 :: .code r6 :: .code .ret :: K) s := den_flat hf (l := [r0, r1, r2, k0, r6, .ret]) (by kernel_rfl) K s
theorem r0_eq : den prog ann 17 (.code r0 :: K) s = mreg prog ann 17 none [] none [] [qA 1 frozenPtr 0,⟨some 2, none, .w false none fun s => newPtr s.m [.nils, .nils]⟩] K s := (den_reg hf _ K s).trans (by kernel_rfl)
theorem r1_eq : den prog ann 17 (.code r1 :: K) s = mreg prog ann 17 none [] none [] [qF 5 fun s => bslF 0 (bslA 1 0 [.bool false] []),qA 6 (fieldA 1) 1,qA 7 (loadF false 1) 6,qA 8 (fieldA 1) 1,qA 9 (loadF false 1) 8,qA 10 lenSl 9,qF 11 fun s => foldA min2A (s.get 10) [(.int .i64 7)],qF 12 fun s => sliceSl 1 (s.get 7) none (some (s.get 11)),qB 13 (appV 1 1) 5 12,qF 14 fun s => bldA (plc [(0, 1), (1, 1)]) [.nils, .nils] [(1, (s.get 13))],⟨some 3, none, .w false none fun s => newPtr s.m [.nils, .nils]⟩,⟨none, none, .w false none fun s => stA true 2 s.m (s.get 3) (s.get 14)⟩] K s := (den_reg hf _ K s).trans (by kernel_rfl)
theorem r2_eq : den prog ann 17 (.code r2 :: K) s = mreg prog ann 17 none [] none [] [qF 4 fun s => some (.int .i64 0)] K s := (den_reg hf _ K s).trans (by kernel_rfl)
theorem k0_eq (K : List Item) (t : List (Nat × AV)) (m : Mem) : den prog ann 17 (.code k0 :: K) ⟨t, 47, m⟩ = L0 (get t 1) (get t 2) (get t 3) (get t 4) m K := den_loop_enter hf (b := l0) (id := 3) (l := [1, 2, 3, 4]) (by kernel_rfl) (by kernel_rfl) (by kernel_rfl) K _
theorem l0_eq (K : List Item) (t : List (Nat × AV)) (m : Mem) : den prog ann 17 (.inLoop l0 :: .inBlock 0 :: K) ⟨t, 47, m⟩ = L0 (get t 1) (get t 2) (get t 3) (get t 4) m K := den_loop_again hf (id := 3) (l := [1, 2, 3, 4]) (by kernel_rfl) (by kernel_rfl) (.inBlock 0 :: K) _
theorem L0_eq (x1 x2 x3 x4 : AV) (m : Mem) (K : List Item) : L0 x1 x2 x3 x4 m K = den prog ann 17 (.code r3 :: .code i0 :: .code k1 :: .code r4 :: .inLoop l0 :: .inBlock 0 :: K) ⟨[(1, x1), (2, x2), (3, x3), (4, x4)], 47, m⟩ := den_flat hf (l := [r3, i0, k1, r4]) (by kernel_rfl) _ _
theorem r3_eq : den prog ann 17 (.code r3 :: K) s = mreg prog ann 17 (some [1, 2, 3, 4]) [] none [] [qC 15 4,qA 16 (fieldA 0) 1,qA 17 (loadF false 1) 16,qA 18 lenSl 17,qB 19 (binA prog .lss 3) 15 18,qC 20 19,⟨some 21, some (20, true), .v fun s => some (s.get 4)⟩,⟨some 22, some (20, true), .v fun s => binA prog .leq 3 (s.get 21) (.int .i64 6)⟩,qF 23 fun s => pickA (s.get 20) (s.get 22) (.bool false)] K s := (den_reg hf _ K s).trans (by kernel_rfl)
theorem i0_eq : den prog ann 17 (.code i0 :: K) s = ifV prog ann 17 23 i0t i0e K s (s.get 23) := den_if hf (by kernel_rfl) K s
theorem i0t_eq : den prog ann 17 (.code i0t :: K) s = den prog ann 17 (K) s := den_flat hf (l := []) (by kernel_rfl) K s
theorem i0e_eq : den prog ann 17 (.code i0e :: K) s = den prog ann 17 (.code (.exit 0) :: K) s := den_flat hf (l := [(.exit 0)]) (by kernel_rfl) K s
theorem k1_eq : den prog ann 17 (.code k1 :: K) s = den prog ann 17 (.code r5 :: .inBlock 1 :: K) s := den_blk hf (b := blkOf k1) (l := [r5]) (by kernel_rfl) (by kernel_rfl) K s
theorem r5_draw : drawOk (fun g => (ann g).pure) (modeOf (ann 17) (idOf r5)) (frzOf (ann 17) (idOf r5)) (opsOf r5) = true := drawOk_of (an := [0, 1, 0, 0, 8, 0, 56, 120, 0, 256, 0, 1792, 3840, 7936, 16128, 32760, 65532, 131068, 262143, 524287, 1048575]) (by kernel_rfl) (by kernel_rfl)
theorem r5_eq : den prog ann 17 (.code r5 :: K) s = mreg prog ann 17 none [] (some 21) [] [qA 26 (fieldA 0) 3,qF 27 fun s => loadA false 1 s.m (s.get 26),qF 28 fun s => bslF 0 (bslA 1 0 [.int .i64 0] []),qA 29 (fieldA 0) 1,qA 30 (loadF false 1) 29,qC 31 4,qB 32 (idxSl 1) 30 31,qA 33 (loadF false 1) 32,qA 34 (fieldA 0) 1,qA 35 (loadF false 1) 34,qC 36 4,qB 37 (idxSl 1) 35 36,qA 38 (loadF false 1) 37,qA 39 lenSl 38,qF 40 fun s => foldA min2A (s.get 39) [(.int .i64 4)],qF 41 fun s => sliceSl 1 (s.get 33) none (some (s.get 40)),qB 42 (appV 1 8) 28 41,qF 43 fun s => bslF 1 (bslA 1 1 [.nils] [(0, (s.get 42))]),⟨some 44, none, .w false (some 18) fun s => appendA 1 24 s.m (s.get 27) (s.get 43)⟩,qA 45 (fieldA 0) 3,⟨none, none, .w false (some 20) fun s => stA false 1 s.m (s.get 45) (s.get 44)⟩] K s := (den_regD hf r5_draw K s).trans (by kernel_rfl)
theorem r4_eq : den prog ann 17 (.code r4 :: K) s = mreg prog ann 17 (some [1, 2, 3, 4]) [] none [] [qC 24 4,qF 25 fun s => binA prog .add 3 (s.get 24) (.int .i64 1),qC 4 25] K s := (den_reg hf _ K s).trans (by kernel_rfl)
theorem r6_eq : den prog ann 17 (.code r6 :: K) s = mreg prog ann 17 (some [2, 3]) [] none [] [qF 46 fun s => loadA true 2 s.m (s.get 3),⟨none, none, .w false none fun s => stA true 2 s.m (s.get 2) (s.get 46)⟩] K s := (den_reg hf _ K s).trans (by kernel_rfl)
theorem ret_eq : den prog ann 17 (.code .ret :: K) s = finM true [fun s => loadA true 2 s.m (s.get 2)] s := (den_ret hf K s).trans (by kernel_rfl)
theorem nil_eq (s : St) : den prog ann 17 [] s = finM true [fun s => loadA true 2 s.m (s.get 2)] s := (den_nil hf s).trans (by kernel_rfl)
theorem inBlock_eq (id : Nat) (K : List Item) (s : St) : den prog ann 17 (.inBlock id :: K) s = den prog ann 17 K s := den_inBlock hf id K s
theorem exit_eq (id : Nat) (K : List Item) (s : St) : den prog ann 17 (.code (.exit id) :: K) s = exitV prog ann 17 (exitTo id K) s := den_exitV hf id K s
theorem call_eq (v0 : AV) (m : Mem) (h : closedL [v0] = true) : denC prog ann 17 [v0] m = (den prog ann 17 [.code b] ⟨[(0, v0)], 47, Mem.empty⟩).bind fun r => some (r.1, m) := (denC_pure hf (b := b) (by kernel_rfl) (by kernel_rfl) (by kernel_rfl) h m).trans (by kernel_rfl)
theorem pure_eq : (ann 17).pure = true := by kernel_rfl
attribute [simp] b_eq r0_eq r1_eq r2_eq k0_eq l0_eq r3_eq i0_eq i0t_eq i0e_eq k1_eq r5_eq r4_eq r6_eq ret_eq nil_eq inBlock_eq exit_eq pure_eq
end
end l07_cut
namespace r07_Valid
noncomputable section
variable (K : List Item) (s : St)
def b : Code := (Try.f19.body).getD .skip
theorem hf : prog.funcs[19]? = some Try.f19 := by kernel_rfl
def r0 := findReg b 0
def r1 := findReg b 1
def r2 := findReg b 2
def i0 := findCond b 0
def i0t := thenOf i0
def i0e := elseOf i0
def r3 := findReg b 3
def r4 := findReg b 4
def k0 := findBlk b 0
def l0 := loopOf k0
def L0 (x1 x3 x4 : AV) (m : Mem) (K : List Item) : Option Res := den prog ann 19 (.code l0 :: .inLoop l0 :: .inBlock 0 :: K) ⟨[(1, x1), (3, x3), (4, x4)], 67, m⟩
def r5 := findReg b 5
def i1 := findCond b 1
def i1t := thenOf i1
def i1e := elseOf i1
def k1 := findBlk b 1
def r7 := findReg b 7
def i2 := findCond b 2
def i2t := thenOf i2
def i2e := elseOf i2
def r8 := findReg b 8
def r9 := findReg b 9
def k2 := findBlk b 2
def l2 := loopOf k2
def L2 (x1 x3 x4 x5 : AV) (m : Mem) (K : List Item) : Option Res := den prog ann 19 (.code l2 :: .inLoop l2 :: .inBlock 2 :: K) ⟨[(1, x1), (3, x3), (4, x4), (5, x5)], 67, m⟩
def r10 := findReg b 10
def i3 := findCond b 3
def i3t := thenOf i3
def i3e := elseOf i3
def k3 := findBlk b 3
def r12 := findReg b 12
def i4 := findCond b 4
def i4t := thenOf i4
def i4e := elseOf i4
def r13 := findReg b 13
def r11 := findReg b 11
def r6 := findReg b 6
def r14 := findReg b 14
theorem b_eq : den prog ann 19 (.code b :: K) s = den prog ann 19 (.code r0 :: .code r1 :: .code r2 :: .code i0 :: .code r4 :: .code k0 :: .code r14 :: .code .ret :: K) s := den_flat hf (l := [r0, r1, r2, i0, r4, k0, r14, .ret]) (by kernel_rfl) K s
theorem r0_eq : den prog ann 19 (.code r0 :: K) s = mreg prog ann 19 none [] none [] [qA 1 frozenPtr 0,qF 2 fun s => some (.bool false)] K s := (den_reg hf _ K s).trans (by kernel_rfl)
theorem r1_eq : den prog ann 19 (.code r1 :: K) s = mreg prog ann 19 none [] none [] [qA 6 (fieldA 0) 1,qA 7 (loadF false 1) 6,qA 8 lenSl 7,qC 3 8] K s := (den_reg hf _ K s).trans (by kernel_rfl)
theorem r2_eq : den prog ann 19 (.code r2 :: K) s = mreg prog ann 19 none [] none [] [qC 9 3,⟨some 10, none, .c 0 (fun s => (.fn 62 [] [])) fun s => [(s.get 9), (.int .i64 1), (.int .i64 6)]⟩,qA 11 (unA .not) 10,qC 12 11,⟨some 13, some (12, false), .v fun s => fieldA 1 (s.get 1)⟩,⟨some 14, some (12, false), .v fun s => loadF false 1 (s.get 13)⟩,⟨some 15, some (12, false), .v fun s => lenSl (s.get 14)⟩,⟨some 16, some (12, false), .v fun s => some (s.get 3)⟩,⟨some 17, some (12, false), .v fun s => binA prog .neq 3 (s.get 15) (s.get 16)⟩,qF 18 fun s => pickA (s.get 12) (.bool true) (s.get 17),qC 19 18,⟨some 20, some (19, false), .v fun s => fieldA 0 (s.get 1)⟩,⟨some 21, some (19, false), .v fun s => loadF false 1 (s.get 20)⟩,⟨some 22, some (19, false), .v fun s => idxSl 1 (s.get 21) (.int .i64 0)⟩,⟨some 23, some (19, false), .v fun s => loadF false 1 (s.get 22)⟩,⟨some 24, some (19, false), .v fun s => lenSl (s.get 23)⟩,⟨some 25, some (19, false), .c 0 (fun s => (.fn 62 [] [])) fun s => [(s.get 24), (.int .i64 1), (.int .i64 3)]⟩,⟨some 26, some (19, false), .v fun s => unA .not (s.get 25)⟩,qF 27 fun s => pickA (s.get 19) (.bool true) (s.get 26)] K s := (den_reg hf _ K s).trans (by kernel_rfl)
theorem i0_eq : den prog ann 19 (.code i0 :: K) s = ifV prog ann 19 27 i0t i0e K s (s.get 27) := den_if hf (by kernel_rfl) K s
theorem i0t_eq : den prog ann 19 (.code i0t :: K) s = den prog ann 19 (.code r3 :: .code .ret :: K) s := den_flat hf (l := [r3, .ret]) (by kernel_rfl) K s
theorem r3_eq : den prog ann 19 (.code r3 :: K) s = mreg prog ann 19 none [] none [] [qF 2 fun s => some (.bool false)] K s := (den_reg hf _ K s).trans (by kernel_rfl)
theorem i0e_eq : den prog ann 19 (.code i0e :: K) s = den prog ann 19 (K) s := den_flat hf (l := []) (by kernel_rfl) K s
theorem r4_eq : den prog ann 19 (.code r4 :: K) s = mreg prog ann 19 none [] none [] [qF 4 fun s => some (.int .i64 0)] K s := (den_reg hf _ K s).trans (by kernel_rfl)
theorem k0_eq (K : List Item) (t : List (Nat × AV)) (m : Mem) : den prog ann 19 (.code k0 :: K) ⟨t, 67, m⟩ = L0 (get t 1) (get t 3) (get t 4) m K := den_loop_enter hf (b := l0) (id := 5) (l := [1, 3, 4]) (by kernel_rfl) (by kernel_rfl) (by kernel_rfl) K _
theorem l0_eq (K : List Item) (t : List (Nat × AV)) (m : Mem) : den prog ann 19 (.inLoop l0 :: .inBlock 0 :: K) ⟨t, 67, m⟩ = L0 (get t 1) (get t 3) (get t 4) m K := den_loop_again hf (id := 5) (l := [1, 3, 4]) (by kernel_rfl) (by kernel_rfl) (.inBlock 0 :: K) _
theorem L0_eq (x1 x3 x4 : AV) (m : Mem) (K : List Item) : L0 x1 x3 x4 m K = den prog ann 19 (.code r5 :: .code i1 :: .code k1 :: .code r6 :: .inLoop l0 :: .inBlock 0 :: K) ⟨[(1, x1), (3, x3), (4, x4)], 67, m⟩ := den_flat hf (l := [r5, i1, k1, r6]) (by kernel_rfl) _ _
theorem r5_eq : den prog ann 19 (.code r5 :: K) s = mreg prog ann 19 (some [1, 3, 4]) [] none [] [qC 28 4,qC 29 3,qB 30 (binA prog .lss 3) 28 29] K s := (den_reg hf _ K s).trans (by kernel_rfl)
theorem i1_eq : den prog ann 19 (.code i1 :: K) s = ifV prog ann 19 30 i1t i1e K s (s.get 30) := den_if hf (by kernel_rfl) K s
theorem i1t_eq : den prog ann 19 (.code i1t :: K) s = den prog ann 19 (K) s := den_flat hf (l := []) (by kernel_rfl) K s
theorem i1e_eq : den prog ann 19 (.code i1e :: K) s = den prog ann 19 (.code (.exit 0) :: K) s := den_flat hf (l := [(.exit 0)]) (by kernel_rfl) K s
theorem k1_eq : den prog ann 19 (.code k1 :: K) s = den prog ann 19 (.code r7 :: .code i2 :: .code r9 :: .code k2 :: .inBlock 1 :: K) s := den_blk hf (b := blkOf k1) (l := [r7, i2, r9, k2]) (by kernel_rfl) (by kernel_rfl) K s
theorem r7_draw : drawOk (fun g => (ann g).pure) (modeOf (ann 19) (idOf r7)) (frzOf (ann 19) (idOf r7)) (opsOf r7) = true := drawOk_of (an := [0, 1, 0, 7, 15, 31, 0, 64, 192, 448, 960, 2047]) (by kernel_rfl) (by kernel_rfl)
theorem r7_eq : den prog ann 19 (.code r7 :: K) s = mreg prog ann 19 none [] (some 12) [] [qA 33 (fieldA 0) 1,qA 34 (loadF false 1) 33,qC 35 4,qB 36 (idxSl 1) 34 35,qA 37 (loadF false 1) 36,qA 38 lenSl 37,qA 39 (fieldA 0) 1,qA 40 (loadF false 1) 39,qF 41 fun s => idxSl 1 (s.get 40) (.int .i64 0),qA 42 (loadF false 1) 41,qA 43 lenSl 42,qB 44 (binA prog .neq 3) 38 43] K s := (den_regD hf r7_draw K s).trans (by kernel_rfl)
theorem i2_eq : den prog ann 19 (.code i2 :: K) s = ifV prog ann 19 44 i2t i2e K s (s.get 44) := den_if hf (by kernel_rfl) K s
theorem i2t_eq : den prog ann 19 (.code i2t :: K) s = den prog ann 19 (.code r8 :: .code .ret :: K) s := den_flat hf (l := [r8, .ret]) (by kernel_rfl) K s
theorem r8_eq : den prog ann 19 (.code r8 :: K) s = mreg prog ann 19 none [] none [] [qF 2 fun s => some (.bool false)] K s := (den_reg hf _ K s).trans (by kernel_rfl)
theorem i2e_eq : den prog ann 19 (.code i2e :: K) s = den prog ann 19 (K) s := den_flat hf (l := []) (by kernel_rfl) K s
theorem r9_eq : den prog ann 19 (.code r9 :: K) s = mreg prog ann 19 none [] none [] [qF 5 fun s => some (.int .i64 0)] K s := (den_reg hf _ K s).trans (by kernel_rfl)
theorem k2_eq (K : List Item) (t : List (Nat × AV)) (m : Mem) : den prog ann 19 (.code k2 :: K) ⟨t, 67, m⟩ = L2 (get t 1) (get t 3) (get t 4) (get t 5) m K := den_loop_enter hf (b := l2) (id := 10) (l := [1, 3, 4, 5]) (by kernel_rfl) (by kernel_rfl) (by kernel_rfl) K _
theorem l2_eq (K : List Item) (t : List (Nat × AV)) (m : Mem) : den prog ann 19 (.inLoop l2 :: .inBlock 2 :: K) ⟨t, 67, m⟩ = L2 (get t 1) (get t 3) (get t 4) (get t 5) m K := den_loop_again hf (id := 10) (l := [1, 3, 4, 5]) (by kernel_rfl) (by kernel_rfl) (.inBlock 2 :: K) _
theorem L2_eq (x1 x3 x4 x5 : AV) (m : Mem) (K : List Item) : L2 x1 x3 x4 x5 m K = den prog ann 19 (.code r10 :: .code i3 :: .code k3 :: .code r11 :: .inLoop l2 :: .inBlock 2 :: K) ⟨[(1, x1), (3, x3), (4, x4), (5, x5)], 67, m⟩ := den_flat hf (l := [r10, i3, k3, r11]) (by kernel_rfl) _ _
theorem r10_eq : den prog ann 19 (.code r10 :: K) s = mreg prog ann 19 (some [1, 3, 4, 5]) [] none [] [qC 45 5,qA 46 (fieldA 0) 1,qA 47 (loadF false 1) 46,qC 48 4,qB 49 (idxSl 1) 47 48,qA 50 (loadF false 1) 49,qA 51 lenSl 50,qB 52 (binA prog .lss 3) 45 51] K s := (den_reg hf _ K s).trans (by kernel_rfl)
theorem i3_eq : den prog ann 19 (.code i3 :: K) s = ifV prog ann 19 52 i3t i3e K s (s.get 52) := den_if hf (by kernel_rfl) K s
theorem i3t_eq : den prog ann 19 (.code i3t :: K) s = den prog ann 19 (K) s := den_flat hf (l := []) (by kernel_rfl) K s
theorem i3e_eq : den prog ann 19 (.code i3e :: K) s = den prog ann 19 (.code (.exit 2) :: K) s := den_flat hf (l := [(.exit 2)]) (by kernel_rfl) K s
theorem k3_eq : den prog ann 19 (.code k3 :: K) s = den prog ann 19 (.code r12 :: .code i4 :: .inBlock 3 :: K) s := den_blk hf (b := blkOf k3) (l := [r12, i4]) (by kernel_rfl) (by kernel_rfl) K s
theorem r12_eq : den prog ann 19 (.code r12 :: K) s = mreg prog ann 19 none [] none [] [qA 55 (fieldA 0) 1,qA 56 (loadF false 1) 55,qC 57 4,qB 58 (idxSl 1) 56 57,qA 59 (loadF false 1) 58,qC 60 5,qB 61 (idxSl 1) 59 60,qA 62 (loadF false 1) 61,qC 63 3,qF 64 fun s => binA prog .sub 3 (s.get 63) (.int .i64 1),⟨some 65, none, .c 0 (fun s => (.fn 62 [] [])) fun s => [(s.get 62), (.int .i64 0), (s.get 64)]⟩,qA 66 (unA .not) 65] K s := (den_reg hf _ K s).trans (by kernel_rfl)
theorem i4_eq : den prog ann 19 (.code i4 :: K) s = ifV prog ann 19 66 i4t i4e K s (s.get 66) := den_if hf (by kernel_rfl) K s
theorem i4t_eq : den prog ann 19 (.code i4t :: K) s = den prog ann 19 (.code r13 :: .code .ret :: K) s := den_flat hf (l := [r13, .ret]) (by kernel_rfl) K s
theorem r13_eq : den prog ann 19 (.code r13 :: K) s = mreg prog ann 19 none [] none [] [qF 2 fun s => some (.bool false)] K s := (den_reg hf _ K s).trans (by kernel_rfl)
theorem i4e_eq : den prog ann 19 (.code i4e :: K) s = den prog ann 19 (K) s := den_flat hf (l := []) (by kernel_rfl) K s
theorem r11_eq : den prog ann 19 (.code r11 :: K) s = mreg prog ann 19 (some [1, 3, 4, 5]) [] none [] [qC 53 5,qF 54 fun s => binA prog .add 3 (s.get 53) (.int .i64 1),qC 5 54] K s := (den_reg hf _ K s).trans (by kernel_rfl)
theorem r6_eq : den prog ann 19 (.code r6 :: K) s = mreg prog ann 19 (some [1, 3, 4]) [] none [] [qC 31 4,qF 32 fun s => binA prog .add 3 (s.get 31) (.int .i64 1),qC 4 32] K s := (den_reg hf _ K s).trans (by kernel_rfl)
theorem r14_eq : den prog ann 19 (.code r14 :: K) s = mreg prog ann 19 (some []) [] none [] [qF 2 fun s => some (.bool true)] K s := (den_reg hf _ K s).trans (by kernel_rfl)
theorem ret_eq : den prog ann 19 (.code .ret :: K) s = finM true [fun s => some (s.get 2)] s := (den_ret hf K s).trans (by kernel_rfl)
theorem nil_eq (s : St) : den prog ann 19 [] s = finM true [fun s => some (s.get 2)] s := (den_nil hf s).trans (by kernel_rfl)
theorem inBlock_eq (id : Nat) (K : List Item) (s : St) : den prog ann 19 (.inBlock id :: K) s = den prog ann 19 K s := den_inBlock hf id K s
theorem exit_eq (id : Nat) (K : List Item) (s : St) : den prog ann 19 (.code (.exit id) :: K) s = exitV prog ann 19 (exitTo id K) s := den_exitV hf id K s
theorem call_eq (v0 : AV) (m : Mem) (h : closedL [v0] = true) : denC prog ann 19 [v0] m = (den prog ann 19 [.code b] ⟨[(0, v0)], 67, Mem.empty⟩).bind fun r => some (r.1, m) := (denC_pure hf (b := b) (by kernel_rfl) (by kernel_rfl) (by kernel_rfl) h m).trans (by kernel_rfl)
theorem pure_eq : (ann 19).pure = true := by kernel_rfl
attribute [simp] b_eq r0_eq r1_eq r2_eq i0_eq i0t_eq r3_eq i0e_eq r4_eq k0_eq l0_eq r5_eq i1_eq i1t_eq i1e_eq k1_eq r7_eq i2_eq i2t_eq r8_eq i2e_eq r9_eq k2_eq l2_eq r10_eq i3_eq i3t_eq i3e_eq k3_eq r12_eq i4_eq i4t_eq r13_eq i4e_eq r11_eq r6_eq r14_eq ret_eq nil_eq inBlock_eq exit_eq pure_eq
end
end r07_Valid
namespace r07_in
noncomputable section
variable (K : List Item) (s : St)
def b : Code := (Try.f62.body).getD .skip
theorem hf : prog.funcs[62]? = some Try.f62 := by kernel_rfl
def r0 := findReg b 0
def r1 := findReg b 1
theorem b_eq : den prog ann 62 (.code b :: K) s = den prog ann 62 (.code r0 :: .code r1 :: .code .ret :: K) s := den_flat hf (l := [r0, r1, .ret]) (by kernel_rfl) K s
theorem r0_eq : den prog ann 62 (.code r0 :: K) s = mreg prog ann 62 none [] none [] [qF 6 fun s => some (.bool false)] K s := (den_reg hf _ K s).trans (by kernel_rfl)
theorem r1_eq : den prog ann 62 (.code r1 :: K) s = mreg prog ann 62 none [] none [] [qC 7 0,qC 8 1,qB 9 (binA prog .geq 3) 7 8,qC 10 9,⟨some 11, some (10, true), .v fun s => some (s.get 0)⟩,⟨some 12, some (10, true), .v fun s => some (s.get 2)⟩,⟨some 13, some (10, true), .v fun s => binA prog .leq 3 (s.get 11) (s.get 12)⟩,qF 14 fun s => pickA (s.get 10) (s.get 13) (.bool false),qC 6 14] K s := (den_reg hf _ K s).trans (by kernel_rfl)
theorem ret_eq : den prog ann 62 (.code .ret :: K) s = finM true [fun s => some (s.get 6)] s := (den_ret hf K s).trans (by kernel_rfl)
theorem nil_eq (s : St) : den prog ann 62 [] s = finM true [fun s => some (s.get 6)] s := (den_nil hf s).trans (by kernel_rfl)
theorem inBlock_eq (id : Nat) (K : List Item) (s : St) : den prog ann 62 (.inBlock id :: K) s = den prog ann 62 K s := den_inBlock hf id K s
theorem exit_eq (id : Nat) (K : List Item) (s : St) : den prog ann 62 (.code (.exit id) :: K) s = exitV prog ann 62 (exitTo id K) s := den_exitV hf id K s
theorem call_eq (v0 v1 v2 : AV) (m : Mem) (h : closedL [v0, v1, v2] = true) : denC prog ann 62 [v0, v1, v2] m = (den prog ann 62 [.code b] ⟨[(0, v0), (1, v1), (2, v2)], 15, Mem.empty⟩).bind fun r => some (r.1, m) := (denC_pure hf (b := b) (by kernel_rfl) (by kernel_rfl) (by kernel_rfl) h m).trans (by kernel_rfl)
theorem pure_eq : (ann 62).pure = true := by kernel_rfl
attribute [simp] b_eq r0_eq r1_eq ret_eq nil_eq inBlock_eq exit_eq pure_eq
end
end r07_in
namespace brand_valid
noncomputable section
variable (K : List Item) (s : St)
def b : Code := (Try.f55.body).getD .skip
theorem hf : prog.funcs[55]? = some Try.f55 := by kernel_rfl
def r0 := findReg b 0
def r1 := findReg b 1
def r2 := findReg b 2
def i0 := findCond b 0
def i0t := thenOf i0
def i0e := elseOf i0
def r3 := findReg b 3
def r4 := findReg b 4
def r5 := findReg b 5
def i1 := findCond b 1
def i1t := thenOf i1
def i1e := elseOf i1
def r6 := findReg b 6
def r7 := findReg b 7
def k0 := findBlk b 0
def l0 := loopOf k0
def L0 (x3 x4 x35 x36 x37 : AV) (m : Mem) (K : List Item) : Option Res := den prog ann 55 (.code l0 :: .inLoop l0 :: .inBlock 0 :: K) ⟨[(3, x3), (4, x4), (35, x35), (36, x36), (37, x37)], 57, m⟩
def r8 := findReg b 8
def i2 := findCond b 2
def i2t := thenOf i2
def i2e := elseOf i2
def k1 := findBlk b 1
def r9 := findReg b 9
def r10 := findReg b 10
def i3 := findCond b 3
def i3t := thenOf i3
def i3e := elseOf i3
def r11 := findReg b 11
def r12 := findReg b 12
def r13 := findReg b 13
theorem b_eq : den prog ann 55 (.code b :: K) s = den prog ann 55 (.code r0 :: .code r1 :: .code r2 :: .code i0 :: .code r4 :: .code r5 :: .code i1 :: .code r7 :: .code k0 :: .code r13 :: .code .ret :: K) s := den_flat hf (l := [r0, r1, r2, i0, r4, r5, i1, r7, k0, r13, .ret]) (by kernel_rfl) K s
theorem r0_eq : den prog ann 55 (.code r0 :: K) s = mreg prog ann 55 none [] none [] [qA 1 frozenPtr 0,qF 2 fun s => some (.bool false)] K s := (den_reg hf _ K s).trans (by kernel_rfl)
theorem r1_eq : den prog ann 55 (.code r1 :: K) s = mreg prog ann 55 none [] none [] [qA 7 (fieldA 0) 1,qA 8 (loadF false 1) 7,qA 9 lenSl 8,qC 3 9] K s := (den_reg hf _ K s).trans (by kernel_rfl)
theorem r2_eq : den prog ann 55 (.code r2 :: K) s = mreg prog ann 55 none [] none [] [qC 10 3,qF 11 fun s => binA prog .lss 3 (s.get 10) (.int .i64 1),qC 12 11,⟨some 13, some (12, false), .v fun s => some (s.get 3)⟩,⟨some 14, some (12, false), .v fun s => binA prog .gtr 3 (s.get 13) (.int .i64 6)⟩,qF 15 fun s => pickA (s.get 12) (.bool true) (s.get 14),qC 16 15,⟨some 17, some (16, false), .v fun s => fieldA 1 (s.get 1)⟩,⟨some 18, some (16, false), .v fun s => loadF false 1 (s.get 17)⟩,⟨some 19, some (16, false), .v fun s => lenSl (s.get 18)⟩,⟨some 20, some (16, false), .v fun s => some (s.get 3)⟩,⟨some 21, some (16, false), .v fun s => binA prog .neq 3 (s.get 19) (s.get 20)⟩,qF 22 fun s => pickA (s.get 16) (.bool true) (s.get 21)] K s := (den_reg hf _ K s).trans (by kernel_rfl)
theorem i0_eq : den prog ann 55 (.code i0 :: K) s = ifV prog ann 55 22 i0t i0e K s (s.get 22) := den_if hf (by kernel_rfl) K s
theorem i0t_eq : den prog ann 55 (.code i0t :: K) s = den prog ann 55 (.code r3 :: .code .ret :: K) s := den_flat hf (l := [r3, .ret]) (by kernel_rfl) K s
theorem r3_eq : den prog ann 55 (.code r3 :: K) s = mreg prog ann 55 none [] none [] [qF 2 fun s => some (.bool false)] K s := (den_reg hf _ K s).trans (by kernel_rfl)
theorem i0e_eq : den prog ann 55 (.code i0e :: K) s = den prog ann 55 (K) s := den_flat hf (l := []) (by kernel_rfl) K s
theorem r4_eq : den prog ann 55 (.code r4 :: K) s = mreg prog ann 55 none [] none [] [qA 23 (fieldA 0) 1,qA 24 (loadF false 1) 23,qF 25 fun s => idxSl 1 (s.get 24) (.int .i64 0),qA 26 (loadF false 1) 25,qA 27 lenSl 26,qC 4 27] K s := (den_reg hf _ K s).trans (by kernel_rfl)
theorem r5_eq : den prog ann 55 (.code r5 :: K) s = mreg prog ann 55 none [] none [] [qC 28 4,qF 29 fun s => binA prog .lss 3 (s.get 28) (.int .i64 1),qC 30 29,⟨some 31, some (30, false), .v fun s => some (s.get 4)⟩,⟨some 32, some (30, false), .v fun s => binA prog .gtr 3 (s.get 31) (.int .i64 3)⟩,qF 33 fun s => pickA (s.get 30) (.bool true) (s.get 32)] K s := (den_reg hf _ K s).trans (by kernel_rfl)
theorem i1_eq : den prog ann 55 (.code i1 :: K) s = ifV prog ann 55 33 i1t i1e K s (s.get 33) := den_if hf (by kernel_rfl) K s
theorem i1t_eq : den prog ann 55 (.code i1t :: K) s = den prog ann 55 (.code r6 :: .code .ret :: K) s := den_flat hf (l := [r6, .ret]) (by kernel_rfl) K s
theorem r6_eq : den prog ann 55 (.code r6 :: K) s = mreg prog ann 55 none [] none [] [qF 2 fun s => some (.bool false)] K s := (den_reg hf _ K s).trans (by kernel_rfl)
theorem i1e_eq : den prog ann 55 (.code i1e :: K) s = den prog ann 55 (K) s := den_flat hf (l := []) (by kernel_rfl) K s
theorem r7_eq : den prog ann 55 (.code r7 :: K) s = mreg prog ann 55 none [] none [] [qA 34 (fieldA 0) 1,qA 35 (loadF false 1) 34,qA 36 lenSl 35,qF 37 fun s => some (.int .i64 0)] K s := (den_reg hf _ K s).trans (by kernel_rfl)
theorem k0_eq (K : List Item) (t : List (Nat × AV)) (m : Mem) : den prog ann 55 (.code k0 :: K) ⟨t, 57, m⟩ = L0 (get t 3) (get t 4) (get t 35) (get t 36) (get t 37) m K := den_loop_enter hf (b := l0) (id := 8) (l := [3, 4, 35, 36, 37]) (by kernel_rfl) (by kernel_rfl) (by kernel_rfl) K _
theorem l0_eq (K : List Item) (t : List (Nat × AV)) (m : Mem) : den prog ann 55 (.inLoop l0 :: .inBlock 0 :: K) ⟨t, 57, m⟩ = L0 (get t 3) (get t 4) (get t 35) (get t 36) (get t 37) m K := den_loop_again hf (id := 8) (l := [3, 4, 35, 36, 37]) (by kernel_rfl) (by kernel_rfl) (.inBlock 0 :: K) _
theorem L0_eq (x3 x4 x35 x36 x37 : AV) (m : Mem) (K : List Item) : L0 x3 x4 x35 x36 x37 m K = den prog ann 55 (.code r8 :: .code i2 :: .code k1 :: .code r12 :: .inLoop l0 :: .inBlock 0 :: K) ⟨[(3, x3), (4, x4), (35, x35), (36, x36), (37, x37)], 57, m⟩ := den_flat hf (l := [r8, i2, k1, r12]) (by kernel_rfl) _ _
theorem r8_eq : den prog ann 55 (.code r8 :: K) s = mreg prog ann 55 (some [3, 4, 35, 36, 37]) [] none [] [qB 38 (binA prog .lss 3) 37 36] K s := (den_reg hf _ K s).trans (by kernel_rfl)
theorem i2_eq : den prog ann 55 (.code i2 :: K) s = ifV prog ann 55 38 i2t i2e K s (s.get 38) := den_if hf (by kernel_rfl) K s
theorem i2t_eq : den prog ann 55 (.code i2t :: K) s = den prog ann 55 (K) s := den_flat hf (l := []) (by kernel_rfl) K s
theorem i2e_eq : den prog ann 55 (.code i2e :: K) s = den prog ann 55 (.code (.exit 0) :: K) s := den_flat hf (l := [(.exit 0)]) (by kernel_rfl) K s
theorem k1_eq : den prog ann 55 (.code k1 :: K) s = den prog ann 55 (.code r9 :: .code r10 :: .code i3 :: .inBlock 1 :: K) s := den_blk hf (b := blkOf k1) (l := [r9, r10, i3]) (by kernel_rfl) (by kernel_rfl) K s
theorem r9_eq : den prog ann 55 (.code r9 :: K) s = mreg prog ann 55 none [] none [] [qB 39 (idxSl 1) 35 37,qA 40 (loadF false 1) 39,qC 6 40] K s := (den_reg hf _ K s).trans (by kernel_rfl)
theorem r10_eq : den prog ann 55 (.code r10 :: K) s = mreg prog ann 55 none [] none [] [qC 41 6,qA 42 lenSl 41,qC 43 4,qB 44 (binA prog .neq 3) 42 43,qC 45 44,⟨some 46, some (45, false), .v fun s => some (s.get 6)⟩,⟨some 47, some (45, false), .c 0 (fun s => (.fn 78 [] [])) fun s => [(s.get 46)]⟩,⟨some 48, some (45, false), .v fun s => binA prog .lss 3 (s.get 47) (.int .i64 0)⟩,qF 49 fun s => pickA (s.get 45) (.bool true) (s.get 48),qC 50 49,⟨some 51, some (50, false), .v fun s => some (s.get 6)⟩,⟨some 52, some (50, false), .c 0 (fun s => (.fn 79 [] [])) fun s => [(s.get 51)]⟩,⟨some 53, some (50, false), .v fun s => some (s.get 3)⟩,⟨some 54, some (50, false), .v fun s => binA prog .geq 3 (s.get 52) (s.get 53)⟩,qF 55 fun s => pickA (s.get 50) (.bool true) (s.get 54)] K s := (den_reg hf _ K s).trans (by kernel_rfl)
theorem i3_eq : den prog ann 55 (.code i3 :: K) s = ifV prog ann 55 55 i3t i3e K s (s.get 55) := den_if hf (by kernel_rfl) K s
theorem i3t_eq : den prog ann 55 (.code i3t :: K) s = den prog ann 55 (.code r11 :: .code .ret :: K) s := den_flat hf (l := [r11, .ret]) (by kernel_rfl) K s
theorem r11_eq : den prog ann 55 (.code r11 :: K) s = mreg prog ann 55 none [] none [] [qF 2 fun s => some (.bool false)] K s := (den_reg hf _ K s).trans (by kernel_rfl)
theorem i3e_eq : den prog ann 55 (.code i3e :: K) s = den prog ann 55 (K) s := den_flat hf (l := []) (by kernel_rfl) K s
theorem r12_eq : den prog ann 55 (.code r12 :: K) s = mreg prog ann 55 (some [3, 4, 35, 36, 37]) [] none [] [qF 56 fun s => binA prog .add 3 (s.get 37) (.int .i64 1),qC 37 56] K s := (den_reg hf _ K s).trans (by kernel_rfl)
theorem r13_eq : den prog ann 55 (.code r13 :: K) s = mreg prog ann 55 (some []) [] none [] [qF 2 fun s => some (.bool true)] K s := (den_reg hf _ K s).trans (by kernel_rfl)
theorem ret_eq : den prog ann 55 (.code .ret :: K) s = finM true [fun s => some (s.get 2)] s := (den_ret hf K s).trans (by kernel_rfl)
theorem nil_eq (s : St) : den prog ann 55 [] s = finM true [fun s => some (s.get 2)] s := (den_nil hf s).trans (by kernel_rfl)
theorem inBlock_eq (id : Nat) (K : List Item) (s : St) : den prog ann 55 (.inBlock id :: K) s = den prog ann 55 K s := den_inBlock hf id K s
theorem exit_eq (id : Nat) (K : List Item) (s : St) : den prog ann 55 (.code (.exit id) :: K) s = exitV prog ann 55 (exitTo id K) s := den_exitV hf id K s
theorem call_eq (v0 : AV) (m : Mem) (h : closedL [v0] = true) : denC prog ann 55 [v0] m = (den prog ann 55 [.code b] ⟨[(0, v0)], 57, Mem.empty⟩).bind fun r => some (r.1, m) := (denC_pure hf (b := b) (by kernel_rfl) (by kernel_rfl) (by kernel_rfl) h m).trans (by kernel_rfl)
theorem pure_eq : (ann 55).pure = true := by kernel_rfl
attribute [simp] b_eq r0_eq r1_eq r2_eq i0_eq i0t_eq r3_eq i0e_eq r4_eq r5_eq i1_eq i1t_eq r6_eq i1e_eq r7_eq k0_eq l0_eq r8_eq i2_eq i2t_eq i2e_eq k1_eq r9_eq r10_eq i3_eq i3t_eq r11_eq i3e_eq r12_eq r13_eq ret_eq nil_eq inBlock_eq exit_eq pure_eq
end
end brand_valid
namespace slices_Min_int
noncomputable section
variable (K : List Item) (s : St)
def b : Code := (Try.f78.body).getD .skip
theorem hf : prog.funcs[78]? = some Try.f78 := by kernel_rfl
def r0 := findReg b 0
def r1 := findReg b 1
def i0 := findCond b 0
def i0t := thenOf i0
def i0e := elseOf i0
def r2 := findReg b 2
def r3 := findReg b 3
def r4 := findReg b 4
def k0 := findBlk b 0
def l0 := loopOf k0
def L0 (x0 x3 x4 : AV) (m : Mem) (K : List Item) : Option Res := den prog ann 78 (.code l0 :: .inLoop l0 :: .inBlock 0 :: K) ⟨[(0, x0), (3, x3), (4, x4)], 25, m⟩
def r5 := findReg b 5
def i1 := findCond b 1
def i1t := thenOf i1
def i1e := elseOf i1
def k1 := findBlk b 1
def r7 := findReg b 7
def r6 := findReg b 6
def r8 := findReg b 8
theorem b_eq : den prog ann 78 (.code b :: K) s = den prog ann 78 (.code r0 :: .code r1 :: .code i0 :: .code r3 :: .code r4 :: .code k0 :: .code r8 :: .code .ret :: K) s := den_flat hf (l := [r0, r1, i0, r3, r4, k0, r8, .ret]) (by kernel_rfl) K s
theorem r0_eq : den prog ann 78 (.code r0 :: K) s = mreg prog ann 78 none [] none [] [qF 2 fun s => some (.int .i64 0)] K s := (den_reg hf _ K s).trans (by kernel_rfl)
theorem r1_eq : den prog ann 78 (.code r1 :: K) s = mreg prog ann 78 none [] none [] [qC 5 0,qA 6 lenSl 5,qF 7 fun s => binA prog .lss 3 (s.get 6) (.int .i64 1)] K s := (den_reg hf _ K s).trans (by kernel_rfl)
theorem i0_eq : den prog ann 78 (.code i0 :: K) s = ifV prog ann 78 7 i0t i0e K s (s.get 7) := den_if hf (by kernel_rfl) K s
theorem i0t_eq : den prog ann 78 (.code i0t :: K) s = den prog ann 78 (.code r2 :: K) s := den_flat hf (l := [r2]) (by kernel_rfl) K s
theorem i0e_eq : den prog ann 78 (.code i0e :: K) s = den prog ann 78 (K) s := den_flat hf (l := []) (by kernel_rfl) K s
theorem r3_eq : den prog ann 78 (.code r3 :: K) s = mreg prog ann 78 (some [0]) [] none [] [qC 9 0,qF 10 fun s => idxSl 1 (s.get 9) (.int .i64 0),qA 11 (loadF false 1) 10,qC 3 11] K s := (den_reg hf _ K s).trans (by kernel_rfl)
theorem r4_eq : den prog ann 78 (.code r4 :: K) s = mreg prog ann 78 none [] none [] [qF 4 fun s => some (.int .i64 1)] K s := (den_reg hf _ K s).trans (by kernel_rfl)
theorem k0_eq (K : List Item) (t : List (Nat × AV)) (m : Mem) : den prog ann 78 (.code k0 :: K) ⟨t, 25, m⟩ = L0 (get t 0) (get t 3) (get t 4) m K := den_loop_enter hf (b := l0) (id := 5) (l := [0, 3, 4]) (by kernel_rfl) (by kernel_rfl) (by kernel_rfl) K _
theorem l0_eq (K : List Item) (t : List (Nat × AV)) (m : Mem) : den prog ann 78 (.inLoop l0 :: .inBlock 0 :: K) ⟨t, 25, m⟩ = L0 (get t 0) (get t 3) (get t 4) m K := den_loop_again hf (id := 5) (l := [0, 3, 4]) (by kernel_rfl) (by kernel_rfl) (.inBlock 0 :: K) _
theorem L0_eq (x0 x3 x4 : AV) (m : Mem) (K : List Item) : L0 x0 x3 x4 m K = den prog ann 78 (.code r5 :: .code i1 :: .code k1 :: .code r6 :: .inLoop l0 :: .inBlock 0 :: K) ⟨[(0, x0), (3, x3), (4, x4)], 25, m⟩ := den_flat hf (l := [r5, i1, k1, r6]) (by kernel_rfl) _ _
theorem r5_eq : den prog ann 78 (.code r5 :: K) s = mreg prog ann 78 (some [0, 3, 4]) [] none [] [qC 12 4,qC 13 0,qA 14 lenSl 13,qB 15 (binA prog .lss 3) 12 14] K s := (den_reg hf _ K s).trans (by kernel_rfl)
theorem i1_eq : den prog ann 78 (.code i1 :: K) s = ifV prog ann 78 15 i1t i1e K s (s.get 15) := den_if hf (by kernel_rfl) K s
theorem i1t_eq : den prog ann 78 (.code i1t :: K) s = den prog ann 78 (K) s := den_flat hf (l := []) (by kernel_rfl) K s
theorem i1e_eq : den prog ann 78 (.code i1e :: K) s = den prog ann 78 (.code (.exit 0) :: K) s := den_flat hf (l := [(.exit 0)]) (by kernel_rfl) K s
theorem k1_eq : den prog ann 78 (.code k1 :: K) s = den prog ann 78 (.code r7 :: .inBlock 1 :: K) s := den_blk hf (b := blkOf k1) (l := [r7]) (by kernel_rfl) (by kernel_rfl) K s
theorem r7_eq : den prog ann 78 (.code r7 :: K) s = mreg prog ann 78 none [] none [] [qC 18 3,qC 19 0,qC 20 4,qB 21 (idxSl 1) 19 20,qA 22 (loadF false 1) 21,qF 23 fun s => foldA min2A (s.get 18) [(s.get 22)],qC 3 23] K s := (den_reg hf _ K s).trans (by kernel_rfl)
theorem r6_eq : den prog ann 78 (.code r6 :: K) s = mreg prog ann 78 (some [0, 3, 4]) [] none [] [qC 16 4,qF 17 fun s => binA prog .add 3 (s.get 16) (.int .i64 1),qC 4 17] K s := (den_reg hf _ K s).trans (by kernel_rfl)
theorem r8_eq : den prog ann 78 (.code r8 :: K) s = mreg prog ann 78 (some [3]) [] none [] [qC 24 3,qC 2 24] K s := (den_reg hf _ K s).trans (by kernel_rfl)
theorem ret_eq : den prog ann 78 (.code .ret :: K) s = finM true [fun s => some (s.get 2)] s := (den_ret hf K s).trans (by kernel_rfl)
theorem nil_eq (s : St) : den prog ann 78 [] s = finM true [fun s => some (s.get 2)] s := (den_nil hf s).trans (by kernel_rfl)
theorem inBlock_eq (id : Nat) (K : List Item) (s : St) : den prog ann 78 (.inBlock id :: K) s = den prog ann 78 K s := den_inBlock hf id K s
theorem exit_eq (id : Nat) (K : List Item) (s : St) : den prog ann 78 (.code (.exit id) :: K) s = exitV prog ann 78 (exitTo id K) s := den_exitV hf id K s
theorem call_eq (v0 : AV) (m : Mem) (h : closedL [v0] = true) : denC prog ann 78 [v0] m = (den prog ann 78 [.code b] ⟨[(0, v0)], 25, Mem.empty⟩).bind fun r => some (r.1, m) := (denC_pure hf (b := b) (by kernel_rfl) (by kernel_rfl) (by kernel_rfl) h m).trans (by kernel_rfl)
theorem pure_eq : (ann 78).pure = true := by kernel_rfl
attribute [simp] b_eq r0_eq r1_eq i0_eq i0t_eq i0e_eq r3_eq r4_eq k0_eq l0_eq r5_eq i1_eq i1t_eq i1e_eq k1_eq r7_eq r6_eq r8_eq ret_eq nil_eq inBlock_eq exit_eq pure_eq
end
end slices_Min_int
namespace slices_Max_int
noncomputable section
variable (K : List Item) (s : St)
def b : Code := (Try.f79.body).getD .skip
theorem hf : prog.funcs[79]? = some Try.f79 := by kernel_rfl
def r0 := findReg b 0
def r1 := findReg b 1
def i0 := findCond b 0
def i0t := thenOf i0
def i0e := elseOf i0
def r2 := findReg b 2
def r3 := findReg b 3
def r4 := findReg b 4
def k0 := findBlk b 0
def l0 := loopOf k0
def L0 (x0 x3 x4 : AV) (m : Mem) (K : List Item) : Option Res := den prog ann 79 (.code l0 :: .inLoop l0 :: .inBlock 0 :: K) ⟨[(0, x0), (3, x3), (4, x4)], 25, m⟩
def r5 := findReg b 5
def i1 := findCond b 1
def i1t := thenOf i1
def i1e := elseOf i1
def k1 := findBlk b 1
def r7 := findReg b 7
def r6 := findReg b 6
def r8 := findReg b 8
theorem b_eq : den prog ann 79 (.code b :: K) s = den prog ann 79 (.code r0 :: .code r1 :: .code i0 :: .code r3 :: .code r4 :: .code k0 :: .code r8 :: .code .ret :: K) s := den_flat hf (l := [r0, r1, i0, r3, r4, k0, r8, .ret]) (by kernel_rfl) K s
theorem r0_eq : den prog ann 79 (.code r0 :: K) s = mreg prog ann 79 none [] none [] [qF 2 fun s => some (.int .i64 0)] K s := (den_reg hf _ K s).trans (by kernel_rfl)
theorem r1_eq : den prog ann 79 (.code r1 :: K) s = mreg prog ann 79 none [] none [] [qC 5 0,qA 6 lenSl 5,qF 7 fun s => binA prog .lss 3 (s.get 6) (.int .i64 1)] K s := (den_reg hf _ K s).trans (by kernel_rfl)
theorem i0_eq : den prog ann 79 (.code i0 :: K) s = ifV prog ann 79 7 i0t i0e K s (s.get 7) := den_if hf (by kernel_rfl) K s
theorem i0t_eq : den prog ann 79 (.code i0t :: K) s = den prog ann 79 (.code r2 :: K) s := den_flat hf (l := [r2]) (by kernel_rfl) K s
theorem i0e_eq : den prog ann 79 (.code i0e :: K) s = den prog ann 79 (K) s := den_flat hf (l := []) (by kernel_rfl) K s
theorem r3_eq : den prog ann 79 (.code r3 :: K) s = mreg prog ann 79 (some [0]) [] none [] [qC 9 0,qF 10 fun s => idxSl 1 (s.get 9) (.int .i64 0),qA 11 (loadF false 1) 10,qC 3 11] K s := (den_reg hf _ K s).trans (by kernel_rfl)
theorem r4_eq : den prog ann 79 (.code r4 :: K) s = mreg prog ann 79 none [] none [] [qF 4 fun s => some (.int .i64 1)] K s := (den_reg hf _ K s).trans (by kernel_rfl)
theorem k0_eq (K : List Item) (t : List (Nat × AV)) (m : Mem) : den prog ann 79 (.code k0 :: K) ⟨t, 25, m⟩ = L0 (get t 0) (get t 3) (get t 4) m K := den_loop_enter hf (b := l0) (id := 5) (l := [0, 3, 4]) (by kernel_rfl) (by kernel_rfl) (by kernel_rfl) K _
theorem l0_eq (K : List Item) (t : List (Nat × AV)) (m : Mem) : den prog ann 79 (.inLoop l0 :: .inBlock 0 :: K) ⟨t, 25, m⟩ = L0 (get t 0) (get t 3) (get t 4) m K := den_loop_again hf (id := 5) (l := [0, 3, 4]) (by kernel_rfl) (by kernel_rfl) (.inBlock 0 :: K) _
theorem L0_eq (x0 x3 x4 : AV) (m : Mem) (K : List Item) : L0 x0 x3 x4 m K = den prog ann 79 (.code r5 :: .code i1 :: .code k1 :: .code r6 :: .inLoop l0 :: .inBlock 0 :: K) ⟨[(0, x0), (3, x3), (4, x4)], 25, m⟩ := den_flat hf (l := [r5, i1, k1, r6]) (by kernel_rfl) _ _
theorem r5_eq : den prog ann 79 (.code r5 :: K) s = mreg prog ann 79 (some [0, 3, 4]) [] none [] [qC 12 4,qC 13 0,qA 14 lenSl 13,qB 15 (binA prog .lss 3) 12 14] K s := (den_reg hf _ K s).trans (by kernel_rfl)
theorem i1_eq : den prog ann 79 (.code i1 :: K) s = ifV prog ann 79 15 i1t i1e K s (s.get 15) := den_if hf (by kernel_rfl) K s
theorem i1t_eq : den prog ann 79 (.code i1t :: K) s = den prog ann 79 (K) s := den_flat hf (l := []) (by kernel_rfl) K s
theorem i1e_eq : den prog ann 79 (.code i1e :: K) s = den prog ann 79 (.code (.exit 0) :: K) s := den_flat hf (l := [(.exit 0)]) (by kernel_rfl) K s
theorem k1_eq : den prog ann 79 (.code k1 :: K) s = den prog ann 79 (.code r7 :: .inBlock 1 :: K) s := den_blk hf (b := blkOf k1) (l := [r7]) (by kernel_rfl) (by kernel_rfl) K s
theorem r7_eq : den prog ann 79 (.code r7 :: K) s = mreg prog ann 79 none [] none [] [qC 18 3,qC 19 0,qC 20 4,qB 21 (idxSl 1) 19 20,qA 22 (loadF false 1) 21,qF 23 fun s => foldA max2A (s.get 18) [(s.get 22)],qC 3 23] K s := (den_reg hf _ K s).trans (by kernel_rfl)
theorem r6_eq : den prog ann 79 (.code r6 :: K) s = mreg prog ann 79 (some [0, 3, 4]) [] none [] [qC 16 4,qF 17 fun s => binA prog .add 3 (s.get 16) (.int .i64 1),qC 4 17] K s := (den_reg hf _ K s).trans (by kernel_rfl)
theorem r8_eq : den prog ann 79 (.code r8 :: K) s = mreg prog ann 79 (some [3]) [] none [] [qC 24 3,qC 2 24] K s := (den_reg hf _ K s).trans (by kernel_rfl)
theorem ret_eq : den prog ann 79 (.code .ret :: K) s = finM true [fun s => some (s.get 2)] s := (den_ret hf K s).trans (by kernel_rfl)
theorem nil_eq (s : St) : den prog ann 79 [] s = finM true [fun s => some (s.get 2)] s := (den_nil hf s).trans (by kernel_rfl)
theorem inBlock_eq (id : Nat) (K : List Item) (s : St) : den prog ann 79 (.inBlock id :: K) s = den prog ann 79 K s := den_inBlock hf id K s
theorem exit_eq (id : Nat) (K : List Item) (s : St) : den prog ann 79 (.code (.exit id) :: K) s = exitV prog ann 79 (exitTo id K) s := den_exitV hf id K s
theorem call_eq (v0 : AV) (m : Mem) (h : closedL [v0] = true) : denC prog ann 79 [v0] m = (den prog ann 79 [.code b] ⟨[(0, v0)], 25, Mem.empty⟩).bind fun r => some (r.1, m) := (denC_pure hf (b := b) (by kernel_rfl) (by kernel_rfl) (by kernel_rfl) h m).trans (by kernel_rfl)
theorem pure_eq : (ann 79).pure = true := by kernel_rfl
attribute [simp] b_eq r0_eq r1_eq i0_eq i0t_eq i0e_eq r3_eq r4_eq k0_eq l0_eq r5_eq i1_eq i1t_eq i1e_eq k1_eq r7_eq r6_eq r8_eq ret_eq nil_eq inBlock_eq exit_eq pure_eq
end
end slices_Max_int
end Go.Proofs.Ythnpflkpjimkfaa

/-
  THE LEAST AND THE GREATEST NUMBER OF A LIST. Conditions: none.
-/
namespace Go.Proofs.Ythnpflkpjimkfaa
open Go.AM
open Go.Proofs.Try (prog)
set_option linter.all false
set_option maxRecDepth 100000
set_option maxHeartbeats 4000000
def maxL (c : List Int) : Int := (c.drop 1).foldl max (nth c 0)
theorem max_loop {w : AV} {c : List Int} (hw0 : IsInts w c) (hcl : c.length ≤ 1001) : ∀ (k i : Nat) (x : Int) (m : Mem), i + k = c.length →
    slices_Max_int.L0 w (.int .i64 x) (.int .i64 i) m [.code slices_Max_int.r8, .code .ret] = some (.int .i64 ((c.drop i).foldl max x), Mem.empty) := by
  intro k
  induction k with
  | zero =>
    intro i x m h1
    have e : i = c.length := by omega
    subst e
    rw [slices_Max_int.L0_eq]
    simp [hw0.len]
    done
  | succ k ih =>
    intro i x m h1
    have hi : i < c.length := by omega
    have hw : IntKind.wrap .i64 ((i : Int) + 1) = (i : Int) + 1 := wrap_id (by omega) (by omega)
    have hst := ih (i + 1) (max x (nth c i)) m (by omega)
    simp only [Int.natCast_add, Int.cast_ofNat_Int] at hst
    rw [drop_nth hi, List.foldl_cons, slices_Max_int.L0_eq]
    simp [hi, hw0.len, hw0.idx hi, ints_head hi, hw, hst]
    done
theorem max_spec {w : AV} {c : List Int} (hw0 : IsInts w c) (hcl : c.length ≤ 1001) (h0 : 0 < c.length) (m : Mem) : denC prog ann 79 [w] m = some (.int .i64 (maxL c), m) := by
  have lp := max_loop hw0 hcl (c.length - 1) 1 (nth c 0) Mem.empty (by omega)
  simp only [Int.cast_ofNat_Int] at lp
  have i0 := hw0.idx h0 .i64
  have i1 := ints_head h0
  simp only [Int.ofNat_zero, Int.cast_ofNat_Int, List.drop_zero] at i0 i1
  rw [slices_Max_int.call_eq _ _ (by simp [hw0.closed])]
  have hn : ¬ (c.length : Int) < 1 := by omega
  simp [hw0.len, hn, i0, i1, lp, maxL]
  done
def minL (c : List Int) : Int := (c.drop 1).foldl min (nth c 0)
theorem min_loop {w : AV} {c : List Int} (hw0 : IsInts w c) (hcl : c.length ≤ 1001) : ∀ (k i : Nat) (x : Int) (m : Mem), i + k = c.length →
    slices_Min_int.L0 w (.int .i64 x) (.int .i64 i) m [.code slices_Min_int.r8, .code .ret] = some (.int .i64 ((c.drop i).foldl min x), Mem.empty) := by
  intro k
  induction k with
  | zero =>
    intro i x m h1
    have e : i = c.length := by omega
    subst e
    rw [slices_Min_int.L0_eq]
    simp [hw0.len]
    done
  | succ k ih =>
    intro i x m h1
    have hi : i < c.length := by omega
    have hw : IntKind.wrap .i64 ((i : Int) + 1) = (i : Int) + 1 := wrap_id (by omega) (by omega)
    have hst := ih (i + 1) (min x (nth c i)) m (by omega)
    simp only [Int.natCast_add, Int.cast_ofNat_Int] at hst
    rw [drop_nth hi, List.foldl_cons, slices_Min_int.L0_eq]
    simp [hi, hw0.len, hw0.idx hi, ints_head hi, hw, hst]
    done
theorem min_spec {w : AV} {c : List Int} (hw0 : IsInts w c) (hcl : c.length ≤ 1001) (h0 : 0 < c.length) (m : Mem) : denC prog ann 78 [w] m = some (.int .i64 (minL c), m) := by
  have lp := min_loop hw0 hcl (c.length - 1) 1 (nth c 0) Mem.empty (by omega)
  simp only [Int.cast_ofNat_Int] at lp
  have i0 := hw0.idx h0 .i64
  have i1 := ints_head h0
  simp only [Int.ofNat_zero, Int.cast_ofNat_Int, List.drop_zero] at i0 i1
  rw [slices_Min_int.call_eq _ _ (by simp [hw0.closed])]
  have hn : ¬ (c.length : Int) < 1 := by omega
  simp [hw0.len, hn, i0, i1, lp, minL]
  done
end Go.Proofs.Ythnpflkpjimkfaa

/-
  BRANDS AS VALUES: rows of numbers, truth values, bytes of a string. Conditions: none.
-/
namespace Go.Proofs.Ythnpflkpjimkfaa
open Go.AM
open Go.Proofs.Try (prog)
set_option linter.all false
set_option maxRecDepth 100000
set_option maxHeartbeats 4000000
def bls (bs : List Bool) : List AV := bs.map fun b => AV.bool b
def bnth (bs : List Bool) (i : Nat) : Bool := bs.getD i false
@[simp] theorem bls_len (bs : List Bool) : (bls bs).length = bs.length := by simp [bls]
@[simp] theorem bls_closed (bs : List Bool) : closedL (bls bs) = true := by induction bs <;> simp [bls, closedL, AV.closed] at *; assumption
@[simp] theorem bls_take (bs : List Bool) (n : Nat) : (bls bs).take n = bls (bs.take n) := by simp [bls, List.map_take]
theorem bls_head {bs : List Bool} {i : Nat} (h : i < bs.length) : ((bls bs).drop i).head? = some (.bool (bnth bs i)) := by
  simp [bls, bnth, h]
def IsB (v : AV) (bs : List Bool) : Prop := (v = .nils ∧ bs = []) ∨ ∃ ex, v = .fsl ex bs.length (bls bs)
theorem IsB.closed {v : AV} {l : List Bool} (h : IsB v l) : v.closed = true := by rcases h with ⟨rfl, _⟩ | ⟨_, rfl⟩ <;> rfl
theorem IsB.len {v : AV} {l : List Bool} (h : IsB v l) : lenSl v = some (.int .i64 l.length) := by rcases h with ⟨rfl, rfl⟩ | ⟨_, rfl⟩ <;> simp
theorem IsB.idx {v : AV} {l : List Bool} (h : IsB v l) {i : Nat} (hi : i < l.length) (k : IntKind) : idxSl 1 v (.int k (i : Int)) = some (.fptr ((bls l).drop i)) := by
  rcases h with ⟨rfl, rfl⟩ | ⟨_, rfl⟩
  · simp at hi
  · simp [hi]
def pth (ps : List AV) (i : Nat) : AV := ps.getD i .undef
structure IsRows (v : AV) (ps : List AV) (rows : List (List Int)) : Prop where
  len0 : ps.length = rows.length
  row : ∀ i, i < rows.length → IsInts (pth ps i) (cth rows i)
  val : (v = .nils ∧ rows = []) ∨ ∃ ex, v = .fsl ex rows.length ps
theorem IsRows.closed {v : AV} {ps : List AV} {rows : List (List Int)} (h : IsRows v ps rows) : v.closed = true := by rcases h.val with ⟨rfl, _⟩ | ⟨_, rfl⟩ <;> rfl
theorem IsRows.len {v : AV} {ps : List AV} {rows : List (List Int)} (h : IsRows v ps rows) : lenSl v = some (.int .i64 rows.length) := by rcases h.val with ⟨rfl, rfl⟩ | ⟨_, rfl⟩ <;> simp
theorem IsRows.idx {v : AV} {ps : List AV} {rows : List (List Int)} (h : IsRows v ps rows) {i : Nat} (hi : i < rows.length) (k : IntKind) : idxSl 1 v (.int k (i : Int)) = some (.fptr (ps.drop i)) := by
  rcases h.val with ⟨rfl, rfl⟩ | ⟨_, rfl⟩
  · simp at hi
  · simp [hi]
theorem IsRows.head {v : AV} {ps : List AV} {rows : List (List Int)} (h : IsRows v ps rows) {i : Nat} (hi : i < rows.length) : (ps.drop i).head? = some (pth ps i) := by
  have := h.len0
  have hp : i < ps.length := by omega
  simp [pth, hp]
def byt (s : List UInt8) (i : Nat) : Nat := (s.getD i 0).toNat
def rowOk (n k : Nat) (r : List Int) : Bool := decide (r.length = k) && r.all fun x => decide (0 ≤ x) && decide (x < n)
def validB (rows : List (List Int)) (good : List Bool) : Bool :=
  decide (1 ≤ rows.length ∧ rows.length ≤ 6) && (decide (good.length = rows.length) && (decide (1 ≤ (cth rows 0).length ∧ (cth rows 0).length ≤ 3) && rows.all (rowOk rows.length (cth rows 0).length)))
end Go.Proofs.Ythnpflkpjimkfaa

/-
  VALID BRANDS: the code's test and the specification's are one. Conditions: none.
-/
namespace Go.Proofs.Ythnpflkpjimkfaa
open Go.AM
open Go.Proofs.Try (prog)
set_option linter.all false
set_option maxRecDepth 100000
set_option maxHeartbeats 4000000
theorem IsRows.one {v : AV} {ps : List AV} {rows : List (List Int)} (h : IsRows v ps rows) : v.one = true := by rcases h.val with ⟨rfl, _⟩ | ⟨_, rfl⟩ <;> rfl
theorem IsB.one {v : AV} {l : List Bool} (h : IsB v l) : v.one = true := by rcases h with ⟨rfl, _⟩ | ⟨_, rfl⟩ <;> rfl
theorem le_fmin : ∀ (L : List Int) (x a : Int), a ≤ L.foldl min x ↔ a ≤ x ∧ ∀ y ∈ L, a ≤ y
  | [], x, a => by simp
  | b :: L, x, a => by
    rw [List.foldl_cons, le_fmin L]
    constructor
    · rintro ⟨h1, h2⟩
      refine ⟨by omega, fun y hy => ?_⟩
      rcases List.mem_cons.1 hy with rfl | hy
      · omega
      · exact h2 y hy
    · rintro ⟨h1, h2⟩
      have := h2 b (by simp)
      exact ⟨by omega, fun y hy => h2 y (by simp [hy])⟩
theorem fmax_lt : ∀ (L : List Int) (x a : Int), L.foldl max x < a ↔ x < a ∧ ∀ y ∈ L, y < a
  | [], x, a => by simp
  | b :: L, x, a => by
    rw [List.foldl_cons, fmax_lt L]
    constructor
    · rintro ⟨h1, h2⟩
      refine ⟨by omega, fun y hy => ?_⟩
      rcases List.mem_cons.1 hy with rfl | hy
      · omega
      · exact h2 y hy
    · rintro ⟨h1, h2⟩
      have := h2 b (by simp)
      exact ⟨by omega, fun y hy => h2 y (by simp [hy])⟩
theorem cons_nth {c : List Int} (h : 0 < c.length) : c = nth c 0 :: c.drop 1 := by
  have := drop_nth (l := c) (i := 0) h
  simpa using this
theorem rowOk_iff {r : List Int} {n k : Nat} (hk : r.length = k) (h0 : 0 < k) : rowOk n k r = true ↔ ¬ minL r < 0 ∧ ¬ (n : Int) ≤ maxL r := by
  have h1 := le_fmin (r.drop 1) (nth r 0) 0
  have h2 := fmax_lt (r.drop 1) (nth r 0) n
  have hc := cons_nth (c := r) (by omega)
  unfold rowOk minL maxL
  simp only [hk, decide_true, Bool.true_and, List.all_eq_true, Bool.and_eq_true, decide_eq_true_eq]
  have e : (∀ x ∈ r, 0 ≤ x ∧ x < (n : Int)) ↔ (0 ≤ nth r 0 ∧ ∀ y ∈ r.drop 1, 0 ≤ y) ∧ (nth r 0 < n ∧ ∀ y ∈ r.drop 1, y < (n : Int)) := by
    constructor
    · intro h
      rw [hc] at h
      exact ⟨⟨(h _ (by simp)).1, fun y hy => (h y (List.mem_cons_of_mem _ hy)).1⟩, (h _ (by simp)).2, fun y hy => (h y (List.mem_cons_of_mem _ hy)).2⟩
    · rintro ⟨⟨a, b⟩, c, d⟩ x hx
      rw [hc] at hx
      rcases List.mem_cons.1 hx with rfl | hx
      · exact ⟨a, c⟩
      · exact ⟨b x hx, d x hx⟩
  rw [e, ← h1, ← h2]
  omega
theorem drop_cth {rows : List (List Int)} {i : Nat} (h : i < rows.length) : rows.drop i = cth rows i :: rows.drop (i + 1) := by
  rw [List.drop_eq_getElem_cons h]
  congr 1
  simp [cth, h]
theorem val_loop {nv : AV} {ps : List AV} {rows : List (List Int)} {n k : Nat} (hn : IsRows nv ps rows) (hl : rows.length ≤ 1000) (hr : ∀ i, i < rows.length → (cth rows i).length ≤ 1000) (hk : 1 ≤ k) : ∀ (j i : Nat) (m : Mem), i + j = rows.length →
    brand_valid.L0 (.int .i64 n) (.int .i64 k) nv (.int .i64 rows.length) (.int .i64 i) m [.code brand_valid.r13, .code .ret] = some (.bool ((rows.drop i).all (rowOk n k)), Mem.empty) := by
  intro j
  induction j with
  | zero =>
    intro i m h1
    have e : i = rows.length := by omega
    subst e
    rw [brand_valid.L0_eq]
    simp
    done
  | succ j ih =>
    intro i m h1
    have hi : i < rows.length := by omega
    have hw : IntKind.wrap .i64 ((i : Int) + 1) = (i : Int) + 1 := wrap_id (by omega) (by omega)
    have iw := hn.row i hi
    have hrl := hr i hi
    have st := fun m => ih (i + 1) m (by omega)
    simp only [Int.natCast_add, Int.cast_ofNat_Int] at st
    rw [drop_cth hi, List.all_cons, brand_valid.L0_eq]
    by_cases c1 : (cth rows i).length = k
    · have c1' : ((cth rows i).length : Int) = k := by omega
      have hmn := fun m => min_spec iw (by omega) (by omega) m
      have hmx := fun m => max_spec iw (by omega) (by omega) m
      have hro := rowOk_iff (r := cth rows i) (n := n) c1 (by omega)
      by_cases c2 : minL (cth rows i) < 0
      · have : rowOk n k (cth rows i) = false := by
          cases h : rowOk n k (cth rows i) with
          | false => rfl
          | true => exact absurd c2 (hro.1 h).1
        simp [hi, hn.idx hi, hn.head hi, iw.len, c1, c1', iw.closed, hmn, c2, this]
        done
      · by_cases c3 : (n : Int) ≤ maxL (cth rows i)
        · have : rowOk n k (cth rows i) = false := by
            cases h : rowOk n k (cth rows i) with
            | false => rfl
            | true => exact absurd c3 (hro.1 h).2
          simp [hi, hn.idx hi, hn.head hi, iw.len, c1, c1', iw.closed, hmn, hmx, c2, c3, this]
          done
        · have : rowOk n k (cth rows i) = true := hro.2 ⟨c2, c3⟩
          simp [hi, hn.idx hi, hn.head hi, iw.len, c1, c1', iw.closed, hmn, hmx, c2, c3, this, hw, st]
          done
    · have c1' : ¬ ((cth rows i).length : Int) = k := by omega
      have : rowOk n k (cth rows i) = false := by simp [rowOk, c1]
      simp [hi, hn.idx hi, hn.head hi, iw.len, c1, c1', this]
      done
theorem valid_spec {nv gv : AV} {ps : List AV} {rows : List (List Int)} {good : List Bool} (hn : IsRows nv ps rows) (hg : IsB gv good) (hl : rows.length ≤ 1000) (hgl : good.length ≤ 1000) (hr : ∀ i, i < rows.length → (cth rows i).length ≤ 1000) (m : Mem) :
    denC prog ann 55 [.agg [nv, gv]] m = some (.bool (validB rows good), m) := by
  rw [brand_valid.call_eq _ _ (by simp [hn.closed, hg.closed])]
  unfold validB
  by_cases c1 : rows.length < 1
  · have : ¬ 1 ≤ rows.length := by omega
    simp [hn.one, hg.one, hn.closed, hg.closed, hn.len, c1, show (rows.length : Int) < 1 by omega, show ¬ 1 ≤ rows.length by omega]
    done
  · by_cases c2 : 6 < rows.length
    · simp [hn.one, hg.one, hn.closed, hg.closed, hn.len, show ¬ (rows.length : Int) < 1 by omega, show (6 : Int) < rows.length by omega, show ¬ rows.length ≤ 6 by omega]
      done
    · by_cases c3 : good.length = rows.length
      · have hi : 0 < rows.length := by omega
        have iw := hn.row 0 hi
        have i0 := hn.idx hi .i64
        have h0 := hn.head hi
        simp only [Int.ofNat_zero, Int.cast_ofNat_Int, List.drop_zero] at i0 h0
        have hr0 := hr 0 hi
        by_cases c4 : (cth rows 0).length < 1
        · simp [hn.one, hg.one, hn.closed, hg.closed, hn.len, hg.len, c3, show ¬ (rows.length : Int) < 1 by omega, show ¬ (6 : Int) < rows.length by omega, i0, h0, iw.len, show ((cth rows 0).length : Int) < 1 by omega, show ¬ 1 ≤ (cth rows 0).length by omega, show 1 ≤ rows.length by omega, show rows.length ≤ 6 by omega]
          done
        · by_cases c5 : 3 < (cth rows 0).length
          · simp [hn.one, hg.one, hn.closed, hg.closed, hn.len, hg.len, c3, show ¬ (rows.length : Int) < 1 by omega, show ¬ (6 : Int) < rows.length by omega, i0, h0, iw.len, show ¬ ((cth rows 0).length : Int) < 1 by omega, show (3 : Int) < (cth rows 0).length by omega, show ¬ (cth rows 0).length ≤ 3 by omega, show 1 ≤ rows.length by omega, show rows.length ≤ 6 by omega]
            done
          · have lp := fun m => val_loop (n := rows.length) (k := (cth rows 0).length) hn hl hr (by omega) rows.length 0 m (by omega)
            simp only [Int.ofNat_zero, Int.cast_ofNat_Int, List.drop_zero] at lp
            simp [hn.one, hg.one, hn.closed, hg.closed, hn.len, hg.len, c3, show ¬ (rows.length : Int) < 1 by omega, show ¬ (6 : Int) < rows.length by omega, i0, h0, iw.len, show ¬ ((cth rows 0).length : Int) < 1 by omega, show ¬ (3 : Int) < (cth rows 0).length by omega, show (cth rows 0).length ≤ 3 by omega, show 1 ≤ (cth rows 0).length by omega, show 1 ≤ rows.length by omega, show rows.length ≤ 6 by omega, lp]
            done
      · simp [hn.one, hg.one, hn.closed, hg.closed, hn.len, hg.len, c3, show ¬ (rows.length : Int) < 1 by omega, show ¬ (6 : Int) < rows.length by omega, show ¬ (good.length : Int) = rows.length by omega]
        done
theorem in_spec (a b c : Int) (m : Mem) : denC prog ann 62 [.int .i64 a, .int .i64 b, .int .i64 c] m = some (.bool (decide (b ≤ a) && decide (a ≤ c)), m) := by
  rw [r07_in.call_eq _ _ _ _ (by simp)]
  by_cases h : b ≤ a <;> simp [h]
theorem rv_in {nv gv : AV} {ps : List AV} {rows : List (List Int)} {n : Nat} (hn : IsRows nv ps rows) (hnn : n ≤ 1000) (hl : rows.length ≤ 1000) {i : Nat} (hi : i < rows.length) (hr : (cth rows i).length ≤ 1000) (K : List Item) : ∀ (j p : Nat) (m : Mem), p + j = (cth rows i).length →
    ∃ m', r07_Valid.L2 (.fptr [nv, gv]) (.int .i64 n) (.int .i64 i) (.int .i64 p) m (.inBlock 1 :: .code r07_Valid.r6 :: .inLoop r07_Valid.l0 :: .inBlock 0 :: K) =
      if ((cth rows i).drop p).all (fun x => decide (0 ≤ x) && decide (x < n)) = true then r07_Valid.L0 (.fptr [nv, gv]) (.int .i64 n) (.int .i64 ((i : Int) + 1)) m' K else some (.bool false, Mem.empty) := by
  intro j
  have iw := hn.row i hi
  have hw0 : IntKind.wrap .i64 ((n : Int) - 1) = (n : Int) - 1 := wrap_id (by omega) (by omega)
  have hwi : IntKind.wrap .i64 ((i : Int) + 1) = (i : Int) + 1 := wrap_id (by omega) (by omega)
  induction j with
  | zero =>
    intro p m h1
    have e : p = (cth rows i).length := by omega
    subst e
    refine ⟨m, ?_⟩
    rw [r07_Valid.L2_eq]
    simp [hn.idx hi, hn.head hi, iw.len, hwi]
    done
  | succ j ih =>
    intro p m h1
    have hp : p < (cth rows i).length := by omega
    have hwp : IntKind.wrap .i64 ((p : Int) + 1) = (p : Int) + 1 := wrap_id (by omega) (by omega)
    obtain ⟨m', g⟩ := ih (p + 1) m (by omega)
    simp only [Int.natCast_add, Int.cast_ofNat_Int] at g
    refine ⟨m', ?_⟩
    rw [drop_nth hp, List.all_cons, r07_Valid.L2_eq]
    by_cases c1 : 0 ≤ nth (cth rows i) p
    · by_cases c2 : nth (cth rows i) p < n
      · rw [decide_eq_true c1, decide_eq_true c2, Bool.true_and, Bool.true_and, ← g]
        simp [hp, hn.idx hi, hn.head hi, iw.len, iw.idx hp, ints_head hp, hw0, in_spec, c1, show nth (cth rows i) p ≤ (n : Int) - 1 by omega, hwp]
        done
      · rw [decide_eq_true c1, decide_eq_false c2]
        simp [hp, hn.idx hi, hn.head hi, iw.len, iw.idx hp, ints_head hp, hw0, in_spec, c1, show ¬ nth (cth rows i) p ≤ (n : Int) - 1 by omega]
        done
    · rw [decide_eq_false c1]
      simp [hp, hn.idx hi, hn.head hi, iw.len, iw.idx hp, ints_head hp, hw0, in_spec, c1]
      done
theorem rv_out {nv gv : AV} {ps : List AV} {rows : List (List Int)} (hn : IsRows nv ps rows) (hl : rows.length ≤ 1000) (h0 : 0 < rows.length) (hr : ∀ i, i < rows.length → (cth rows i).length ≤ 1000) : ∀ (j i : Nat) (m : Mem), i + j = rows.length →
    r07_Valid.L0 (.fptr [nv, gv]) (.int .i64 rows.length) (.int .i64 i) m [.code r07_Valid.r14, .code .ret] = some (.bool ((rows.drop i).all (rowOk rows.length (cth rows 0).length)), Mem.empty) := by
  intro j
  have iw0 := hn.row 0 h0
  have i0 := hn.idx h0 .i64
  have hh0 := hn.head h0
  simp only [Int.ofNat_zero, Int.cast_ofNat_Int, List.drop_zero] at i0 hh0
  induction j with
  | zero =>
    intro i m h1
    have e : i = rows.length := by omega
    subst e
    rw [r07_Valid.L0_eq]
    simp
    done
  | succ j ih =>
    intro i m h1
    have hi : i < rows.length := by omega
    have iw := hn.row i hi
    obtain ⟨m', g⟩ := rv_in (gv := gv) hn hl hl hi (hr i hi) [.code r07_Valid.r14, .code .ret] (cth rows i).length 0 { h := m.h, nx := m.nx + 12 } (by omega)
    simp only [Int.ofNat_zero, Int.cast_ofNat_Int, List.drop_zero] at g
    have st := ih (i + 1) m' (by omega)
    simp only [Int.natCast_add, Int.cast_ofNat_Int] at st
    rw [st] at g
    rw [drop_cth hi, List.all_cons, r07_Valid.L0_eq]
    unfold rowOk at g ⊢
    by_cases c1 : (cth rows i).length = (cth rows 0).length
    · have c1' : ((cth rows i).length : Int) = (cth rows 0).length := by omega
      rw [decide_eq_true c1, Bool.true_and]
      simp [hi, hn.idx hi, hn.head hi, iw.len, i0, hh0, iw0.len, c1']
      rw [g]
      cases q : ((cth rows i).all fun x => decide (0 ≤ x) && decide (x < (rows.length : Int))) with
      | true => rw [if_pos rfl, Bool.true_and]
      | false => rw [if_neg (by decide), Bool.false_and]
    · have c1' : ¬ ((cth rows i).length : Int) = (cth rows 0).length := by omega
      rw [decide_eq_false c1]
      simp [hi, hn.idx hi, hn.head hi, iw.len, i0, hh0, iw0.len, c1']
      done
theorem rvalid_spec {nv gv : AV} {ps : List AV} {rows : List (List Int)} {good : List Bool} (hn : IsRows nv ps rows) (hg : IsB gv good) (hl : rows.length ≤ 1000) (hgl : good.length ≤ 1000) (hr : ∀ i, i < rows.length → (cth rows i).length ≤ 1000) (m : Mem) :
    denC prog ann 19 [.agg [nv, gv]] m = some (.bool (validB rows good), m) := by
  rw [r07_Valid.call_eq _ _ (by simp [hn.closed, hg.closed])]
  unfold validB
  by_cases c1 : 1 ≤ rows.length
  · by_cases c2 : rows.length ≤ 6
    · by_cases c3 : good.length = rows.length
      · have hi : 0 < rows.length := by omega
        have iw := hn.row 0 hi
        have i0 := hn.idx hi .i64
        have h0 := hn.head hi
        simp only [Int.ofNat_zero, Int.cast_ofNat_Int, List.drop_zero] at i0 h0
        have lp := fun m => rv_out (gv := gv) hn hl hi hr rows.length 0 m (by omega)
        simp only [Int.ofNat_zero, Int.cast_ofNat_Int, List.drop_zero] at lp
        by_cases c4 : 1 ≤ (cth rows 0).length
        · by_cases c5 : (cth rows 0).length ≤ 3
          · simp [hn.one, hg.one, hn.closed, hg.closed, hn.len, hg.len, c3, in_spec, show (1 : Int) ≤ rows.length by omega, show (rows.length : Int) ≤ 6 by omega, i0, h0, iw.len, show (1 : Int) ≤ (cth rows 0).length by omega, show ((cth rows 0).length : Int) ≤ 3 by omega, c1, c2, c4, c5, lp]
            done
          · simp [hn.one, hg.one, hn.closed, hg.closed, hn.len, hg.len, c3, in_spec, show (1 : Int) ≤ rows.length by omega, show (rows.length : Int) ≤ 6 by omega, i0, h0, iw.len, show (1 : Int) ≤ (cth rows 0).length by omega, show ¬ ((cth rows 0).length : Int) ≤ 3 by omega, c1, c2, c4, c5]
            done
        · simp [hn.one, hg.one, hn.closed, hg.closed, hn.len, hg.len, c3, in_spec, show (1 : Int) ≤ rows.length by omega, show (rows.length : Int) ≤ 6 by omega, i0, h0, iw.len, show ¬ (1 : Int) ≤ (cth rows 0).length by omega, c1, c2, c4]
          done
      · simp [hn.one, hg.one, hn.closed, hg.closed, hn.len, hg.len, c3, in_spec, show (1 : Int) ≤ rows.length by omega, show (rows.length : Int) ≤ 6 by omega, c1, c2, show ¬ (good.length : Int) = rows.length by omega]
        done
    · simp [hn.one, hg.one, hn.closed, hg.closed, hn.len, in_spec, show (1 : Int) ≤ rows.length by omega, show ¬ (rows.length : Int) ≤ 6 by omega, c1, c2]
      done
  · simp [hn.one, hg.one, hn.closed, hg.closed, hn.len, in_spec, show ¬ (1 : Int) ≤ rows.length by omega, c1]
    done
end Go.Proofs.Ythnpflkpjimkfaa

/-
  WORDS: whether a string is one, and the state to which it leads: the code's and the specification's. Conditions: none.
-/
namespace Go.Proofs.Ythnpflkpjimkfaa
open Go.AM
open Go.Proofs.Try (prog)
set_option linter.all false
set_option maxRecDepth 100000
set_option maxHeartbeats 4000000
structure VB (rows : List (List Int)) (good : List Bool) (k : Nat) : Prop where
  n1 : 1 ≤ rows.length
  n6 : rows.length ≤ 6
  gl : good.length = rows.length
  k1 : 1 ≤ k
  k3 : k ≤ 3
  rl : ∀ i, i < rows.length → (cth rows i).length = k
  rg : ∀ i j, i < rows.length → j < k → 0 ≤ nth (cth rows i) j ∧ nth (cth rows i) j < rows.length
theorem VB.of {rows : List (List Int)} {good : List Bool} (h : validB rows good = true) : VB rows good (cth rows 0).length := by
  unfold validB at h
  simp only [Bool.and_eq_true, decide_eq_true_eq, List.all_eq_true] at h
  obtain ⟨⟨h1, h2⟩, h3, ⟨h4, h5⟩, h6⟩ := h
  have key : ∀ i, i < rows.length → rowOk rows.length (cth rows 0).length (cth rows i) = true := fun i hi => h6 _ (cth_mem hi)
  refine ⟨h1, h2, h3, h4, h5, fun i hi => ?_, fun i j hi hj => ?_⟩
  · have := key i hi
    unfold rowOk at this
    simp only [Bool.and_eq_true, decide_eq_true_eq] at this
    exact this.1
  · have := key i hi
    unfold rowOk at this
    simp only [Bool.and_eq_true, decide_eq_true_eq, List.all_eq_true] at this
    have hm : nth (cth rows i) j ∈ cth rows i := by rw [← nth_get (by omega : j < (cth rows i).length)]; exact List.getElem_mem _
    exact this.2 _ hm
def letB (k : Nat) (s : List UInt8) (i : Nat) : Bool := decide (97 ≤ byt s i) && decide (byt s i - 97 < k)
def letF (k : Nat) (s : List UInt8) (j i : Nat) : Bool := (List.range' i j).all (letB k s)
theorem letF_succ (k : Nat) (s : List UInt8) (j i : Nat) : letF k s (j + 1) i = (letB k s i && letF k s j (i + 1)) := by simp [letF, List.range'_succ]
def nx (rows : List (List Int)) (st a : Nat) : Nat := (nth (cth rows st) a).toNat
def goF (rows : List (List Int)) (s : List UInt8) : Nat → Nat → Nat → Nat
  | 0, _, st => st
  | j + 1, i, st => goF rows s j (i + 1) (nx rows st (byt s i - 97))
def goL (rows : List (List Int)) : List UInt8 → Nat → Nat
  | [], st => st
  | c :: r, st => goL rows r (nx rows st (c.toNat - 97))
theorem goF_goL (rows : List (List Int)) (s : List UInt8) : ∀ (j i st : Nat), i + j = s.length → goF rows s j i st = goL rows (s.drop i) st
  | 0, i, st, h => by rw [List.drop_of_length_le (by omega)]; rfl
  | j + 1, i, st, h => by
    have hi : i < s.length := by omega
    rw [List.drop_eq_getElem_cons hi, goL, goF, goF_goL rows s j (i + 1) _ (by omega)]
    congr 2
    simp [byt, hi]
theorem nx_lt {rows : List (List Int)} {good : List Bool} {k : Nat} (v : VB rows good k) {st a : Nat} (h : st < rows.length) (ha : a < k) : nx rows st a < rows.length ∧ nth (cth rows st) a = (nx rows st a : Nat) := by
  have := v.rg st a h ha
  unfold nx
  omega
theorem goL_lt {rows : List (List Int)} {good : List Bool} {k : Nat} (v : VB rows good k) (s : List UInt8) : ∀ (j i st : Nat), i + j = s.length → st < rows.length → letF k s j i = true → goF rows s j i st < rows.length
  | 0, i, st, _, h, _ => h
  | j + 1, i, st, h1, h, hl => by
    rw [letF_succ, Bool.and_eq_true, letB, Bool.and_eq_true, decide_eq_true_eq, decide_eq_true_eq] at hl
    exact goL_lt v s j (i + 1) _ (by omega) (nx_lt v h hl.1.2).1 hl.2
end Go.Proofs.Ythnpflkpjimkfaa

/-
  ACCEPTS: the code's and the specification's; and what the laws cut off a brand and a string. Conditions: none.
-/
namespace Go.Proofs.Ythnpflkpjimkfaa
open Go.AM
open Go.Proofs.Try (prog)
set_option linter.all false
set_option maxRecDepth 100000
set_option maxHeartbeats 4000000
theorem u4 : prog.underlying 4 = some .bool := by kernel_rfl
@[simp] theorem eql_bool (a b : Bool) : binA prog .eql 4 (.bool a) (.bool b) = some (.bool (a == b)) := by simp [binA, eqT, eqA, u4]
end Go.Proofs.Ythnpflkpjimkfaa

/-
  WHAT THE LAWS CUT OFF A BRAND AND A STRING. Conditions: none.
-/
namespace Go.Proofs.Ythnpflkpjimkfaa
open Go.AM
open Go.Proofs.Try (prog)
set_option linter.all false
set_option maxRecDepth 100000
set_option maxHeartbeats 4000000
theorem appV_nothing (k b : Nat) (hk : k ≠ 0) : appV k b (.fsl true 0 []) .nils = some (.fsl true 0 []) := by
  have h' : (k == 0) = false := by simpa using hk
  simp [appV, appF, h']
theorem appV_full {size by' n : Nat} {ex : Bool} {cs : List AV} (h : size ≠ 0) (hl : cs.length = n * size) (hc : closedL cs = true) (hr : room n by' = true) (hn : n ≠ 0) :
    appV size by' (.fsl true 0 []) (.fsl ex n cs) = some (.fsl false n cs) := by
  have h' : (size == 0) = false := by simpa using h
  have hn' : (n == 0) = false := by simpa using hn
  have hr' := hr
  simp [room] at hr'
  have ht : cs.take (n * size) = cs := by rw [← hl]; exact List.take_length
  simp [appV, appF, h', hl, hn', hr', hc, ht]
theorem app_ints {v : AV} {l : List Int} (h : IsInts v l) (hl : l.length ≤ 1000000) : ∃ v', appV 1 8 (.fsl true 0 []) v = some v' ∧ IsInts v' l := by
  rcases h with ⟨rfl, rfl⟩ | ⟨ex, rfl⟩
  · exact ⟨_, appV_nothing 1 8 (by omega), .inr ⟨true, rfl⟩⟩
  · by_cases h0 : l.length = 0
    · have : l = [] := List.eq_nil_of_length_eq_zero h0
      subst this
      exact ⟨.fsl true 0 [], by simp [appV, appF], .inr ⟨true, rfl⟩⟩
    · exact ⟨_, appV_full (by omega) (by simp) (by simp) (by simp [room]; omega) h0, .inr ⟨false, rfl⟩⟩
theorem app_bls {v : AV} {l : List Bool} (h : IsB v l) (hl : l.length ≤ 1000000) : ∃ v', appV 1 1 (.fsl true 0 []) v = some v' ∧ IsB v' l := by
  rcases h with ⟨rfl, rfl⟩ | ⟨ex, rfl⟩
  · exact ⟨_, appV_nothing 1 1 (by omega), .inr ⟨true, rfl⟩⟩
  · by_cases h0 : l.length = 0
    · have : l = [] := List.eq_nil_of_length_eq_zero h0
      subst this
      exact ⟨.fsl true 0 [], by simp [appV, appF, bls], .inr ⟨true, rfl⟩⟩
    · exact ⟨_, appV_full (by omega) (by simp) (by simp) (by simp [room]; omega) h0, .inr ⟨false, rfl⟩⟩
theorem slice_ints {v : AV} {l : List Int} (h : IsInts v l) {j : Int} (h0 : 0 ≤ j) (h1 : j ≤ l.length) : ∃ v', sliceSl 1 v none (some (.int .i64 j)) = some v' ∧ IsInts v' (l.take j.toNat) := by
  rcases h with ⟨rfl, rfl⟩ | ⟨ex, rfl⟩
  · have : j = 0 := by simp at h1; omega
    subst this
    exact ⟨.nils, by simp [sliceSl, bnds, bnd], .inl ⟨rfl, by simp⟩⟩
  · refine ⟨.fsl (ex && j.toNat == l.length) j.toNat (ints (l.take j.toNat)), by simp [sliceSl, bnds, bnd, h0, h1], .inr ⟨ex && j.toNat == l.length, by simp [show min j.toNat l.length = j.toNat by omega]⟩⟩
theorem slice_bls {v : AV} {l : List Bool} (h : IsB v l) {j : Int} (h0 : 0 ≤ j) (h1 : j ≤ l.length) : ∃ v', sliceSl 1 v none (some (.int .i64 j)) = some v' ∧ IsB v' (l.take j.toNat) := by
  rcases h with ⟨rfl, rfl⟩ | ⟨ex, rfl⟩
  · have : j = 0 := by simp at h1; omega
    subst this
    exact ⟨.nils, by simp [sliceSl, bnds, bnd], .inl ⟨rfl, by simp⟩⟩
  · refine ⟨.fsl (ex && j.toNat == l.length) j.toNat (bls (l.take j.toNat)), by simp [sliceSl, bnds, bnd, h0, h1], .inr ⟨ex && j.toNat == l.length, by simp [show min j.toNat l.length = j.toNat by omega]⟩⟩
theorem take_min {α : Type} (l : List α) (n : Nat) : l.take (min (l.length : Int) n).toNat = l.take n := by
  rcases Nat.le_total l.length n with h | h
  · rw [List.take_of_length_le h, List.take_of_length_le (by omega)]
  · rw [show (min (l.length : Int) n).toNat = n by omega]
theorem pth_app {acc : List AV} {w : AV} {p : Nat} : pth (acc ++ [w]) p = if p < acc.length then pth acc p else if p = acc.length then w else .undef := by
  unfold pth
  rw [List.getD_eq_getElem?_getD, List.getD_eq_getElem?_getD, List.getElem?_append]
  by_cases h : p < acc.length
  · rw [if_pos h, if_pos h]
  · rw [if_neg h, if_neg h]
    by_cases h2 : p = acc.length
    · rw [if_pos h2, h2, Nat.sub_self]; rfl
    · rw [if_neg h2, List.getElem?_eq_none (by simp; omega)]; rfl
theorem cut_rows {rows : List (List Int)} {p : Nat} (h : p < min rows.length 7) : cth (List.take 7 (List.map (fun r => List.take 4 r) rows)) p = (cth rows p).take 4 := by
  unfold cth
  have h1 : p < rows.length := by omega
  have h2 : p < 7 := by omega
  simp [List.getD_eq_getElem?_getD, List.getElem?_take, h1, h2]
theorem cut_loop {nv gv gw : AV} {ps : List AV} {rows : List (List Int)} (hn : IsRows nv ps rows) (hrl : ∀ i, i < rows.length → ((cth rows i).length : Int) ≤ 9223372036854775807) (hgw : gw.one = true) (hgc : gw.closed = true) (hgd : ∀ (h : Nat → Option AObj) d, deep h (d + 1) gw = some gw) : ∀ (j i oid : Nat) (acc : List AV) (m : Mem), i + j = min rows.length 7 → acc.length = i → (∀ p, p < i → IsInts (pth acc p) ((cth rows p).take 4)) →
    m.h 1 = some (.cells [if acc = [] then .nils else .sl oid 1 0 i i, gw]) → (acc ≠ [] → m.h oid = some (.cells acc) ∧ oid ≠ 1 ∧ oid ≠ 0) → 2 ≤ m.nx → (∃ x y, m.h 0 = some (.cells [x, y])) →
    ∃ nv' ps', IsRows nv' ps' (List.take 7 (List.map (fun r => List.take 4 r) rows)) ∧ l07_cut.L0 (.fptr [nv, gv]) (.ptr 0 0 2) (.ptr 1 0 2) (.int .i64 i) m [.code l07_cut.r6, .code .ret] = some (.agg [nv', gw], Mem.empty) := by
  intro j
  induction j with
  | zero =>
    intro i oid acc m h1 ha hacc hm1 hmo hnx hm0
    obtain ⟨x0, y0, hm0⟩ := hm0
    have hend : ¬ (i < rows.length ∧ i ≤ 6) := by omega
    have hlen : (List.take 7 (List.map (fun r => List.take 4 r) rows)).length = i := by simp; omega
    by_cases hz : acc = []
    · subst hz
      have : i = 0 := by simpa using ha.symm
      subst this
      have hr0 : rows.length = 0 := by omega
      have hr0' : rows = [] := List.eq_nil_of_length_eq_zero hr0
      subst hr0'
      rw [if_pos rfl] at hm1
      refine ⟨.nils, [], ⟨rfl, fun i h => by simp at h, .inl ⟨rfl, by simp⟩⟩, ?_⟩
      rw [l07_cut.L0_eq]
      simp [hn.len, hm1, hm0, hgw, hgd]
      done
    · rw [if_neg hz] at hm1
      obtain ⟨g1, g2, g3⟩ := hmo hz
      have hdp : ∀ (h : Nat → Option AObj) d, mapO (deep h (d + 1)) acc = some acc := fun h d => mapO_fix fun a hax => by
        obtain ⟨p, hp, e⟩ := List.getElem_of_mem hax
        have := hacc p (by omega)
        have e2 : pth acc p = a := by simp [pth, hp, e]
        rw [e2] at this
        exact this.deep h d
      refine ⟨.fsl false i acc, acc, ⟨by rw [hlen, ha], fun p hp => ?_, .inr ⟨false, by rw [hlen]⟩⟩, ?_⟩
      · rw [hlen] at hp
        rw [cut_rows (by omega)]
        exact hacc p hp
      · rw [l07_cut.L0_eq]
        by_cases q : i < rows.length
        · simp [hn.len, q, show ¬ i ≤ 6 by omega, show ¬ (i : Int) ≤ 6 by omega, hm1, hm0, hgw, hgd, g1, updNe g3, show (oid == 0) = false by simpa using g3, ha, hdp, List.take_of_length_le (Nat.le_of_eq ha)]
          done
        · simp [hn.len, q, hm1, hm0, hgw, hgd, g1, updNe g3, show (oid == 0) = false by simpa using g3, ha, hdp, List.take_of_length_le (Nat.le_of_eq ha)]
          done
  | succ j ih =>
    intro i oid acc m h1 ha hacc hm1 hmo hnx hm0
    have hi : i < rows.length := by omega
    have hi6 : i ≤ 6 := by omega
    have hwi : IntKind.wrap .i64 ((i : Int) + 1) = (i : Int) + 1 := wrap_id (by omega) (by omega)
    have iw := hn.row i hi
    obtain ⟨w1, a1, a2⟩ := slice_ints iw (j := min ((cth rows i).length : Int) 4) (by omega) (by omega)
    have e1 := take_min (cth rows i) 4
    simp only [Int.cast_ofNat_Int] at e1
    rw [e1] at a2
    obtain ⟨w2, c1, c2⟩ := app_ints a2 (by simp; omega)
    have hx := hn.idx hi .i64
    have hy := hn.head hi
    by_cases hz : acc = []
    · subst hz
      have : i = 0 := by simpa using ha.symm
      subst this
      rw [if_pos rfl] at hm1
      simp only [Int.ofNat_zero, Int.cast_ofNat_Int, List.drop_zero] at hx hy ⊢
      rw [l07_cut.L0_eq]
      simp [hn.len, hi, hx, hy, iw.len, a1, c1, c2.closed, c2.one, hm1, c2.cells, hgw]
      have st := ih 1 (m.nx + 18) [w2] ⟨upd (upd m.h (m.nx + 18) (some (AObj.cells [w2]))) 1 (some (AObj.cells [AV.sl (m.nx + 18) 1 0 1 1, gw])), m.nx + 21⟩ (by omega) rfl (fun p hp => by
        have : p = 0 := by omega
        subst this
        exact c2) (by simp) (fun _ => ⟨(by simp [updNe (show m.nx + 18 ≠ 1 by omega)]), by omega, by omega⟩) (by show 2 ≤ m.nx + 21; omega) (by
        obtain ⟨x0, y0, hm0⟩ := hm0
        exact ⟨x0, y0, (by simp [updNe (show 0 ≠ 1 by omega), updNe (show 0 ≠ m.nx + 18 by omega), hm0])⟩)
      obtain ⟨nv', ps', st1, st2⟩ := st
      exact ⟨nv', ⟨ps', st1⟩, st2⟩
    · rw [if_neg hz] at hm1
      obtain ⟨g1, g2, g3⟩ := hmo hz
      rw [l07_cut.L0_eq]
      simp [hn.len, hi, hi6, show (i : Int) ≤ 6 by omega, hx, hy, iw.len, a1, c1, c2.closed, c2.one, hm1, c2.cells, hgw, g1, ha, hwi, show i ≤ 4611686018427387903 by omega, show (i + 1) * 24 ≤ 70368744177664 by omega, show (1 == oid) = false from beq_eq_false_iff_ne.2 (fun h => g2 h.symm)]
      have st := ih (i + 1) oid (acc ++ [w2]) ⟨upd (upd m.h oid (some (AObj.cells (acc ++ [w2])))) 1 (some (AObj.cells [AV.sl oid 1 0 (i + 1) (i + 1), gw])), m.nx + 21⟩ (by omega) (by simp [ha]) (fun p hp => by
        rw [pth_app, ha]
        by_cases q : p < i
        · rw [if_pos q]; exact hacc p q
        · have : p = i := by omega
          subst this
          rw [if_neg q, if_pos rfl]; exact c2) (by simp) (fun _ => ⟨(by show upd (upd m.h oid (some (AObj.cells (acc ++ [w2])))) 1 _ oid = _; rw [updNe g2]; simp), g2, g3⟩) (by show 2 ≤ m.nx + 21; omega) (by
        obtain ⟨x0, y0, hm0⟩ := hm0
        exact ⟨x0, y0, (by rw [show (⟨upd (upd m.h oid (some (AObj.cells (acc ++ [w2])))) 1 (some (AObj.cells [AV.sl oid 1 0 (i + 1) (i + 1), gw])), m.nx + 21⟩ : Mem).h 0 = m.h 0 from by show upd (upd m.h oid (some (AObj.cells (acc ++ [w2])))) 1 (some (AObj.cells [AV.sl oid 1 0 (i + 1) (i + 1), gw])) 0 = m.h 0; rw [updNe (by omega), updNe (fun h => g3 h.symm)]]; exact hm0)⟩)
      obtain ⟨nv', ps', st1, st2⟩ := st
      simp only [Int.natCast_add, Int.cast_ofNat_Int] at st2
      exact ⟨nv', ⟨ps', st1⟩, st2⟩
end Go.Proofs.Ythnpflkpjimkfaa

/-
  THE LAWS' EXAMPLES HOLD. Conditions: none.
-/
namespace Go.Proofs.Ythnpflkpjimkfaa
open Go.AM
open Go.Proofs.Try (prog)
set_option linter.all false
set_option maxRecDepth 1000000
def isT (r : Option Res) : Bool := match r with
  | some (.bool b, _) => b
  | _ => false
theorem lives_run : isT (callN prog ann 3000 21 [] Mem.empty) = true := by kernel_rfl
@[simp] theorem lives_pure : (ann 21).pure = true := by kernel_rfl
theorem f21_at : prog.funcs[21]? = some Try.f21 := by kernel_rfl
theorem f21_some : Try.f21.body.isSome = true := by kernel_rfl
theorem lives_spec (m : Mem) : denC prog ann 21 [] m = some (.bool true, m) := by
  have hb : Try.f21.body = some (Try.f21.body.getD .skip) := by
    cases h : Try.f21.body with
    | none => have := f21_some; rw [h] at this; cases this
    | some b => rfl
  have e := fun m => denC_pure (P := prog) (A := ann) (f := 21) f21_at hb (by kernel_rfl) (by kernel_rfl) (show closedL [] = true from rfl) m
  have h := lives_run
  cases hr : callN prog ann 3000 21 [] Mem.empty with
  | none => rw [hr] at h; cases h
  | some r =>
    rw [hr] at h
    have h2 := denC_of_callN hr
    rw [e] at h2 ⊢
    obtain ⟨q, h3, h4⟩ := Option.bind_eq_some_iff.1 h2
    rw [h3]
    simp at h4
    subst h4
    match q, h with
    | (.bool true, _), _ => rfl
end Go.Proofs.Ythnpflkpjimkfaa

/-
  WHAT THE LAWS' ARGUMENTS ARE: brands, strings, numbers. Conditions: none.
-/
namespace Go.Proofs.Ythnpflkpjimkfaa
open Go.AM
open Go.Proofs.Try (prog)
set_option linter.all false
set_option maxRecDepth 100000
set_option maxHeartbeats 4000000
theorem u3 : prog.underlying 3 = some (.int .i64) := by kernel_rfl
theorem u9 : prog.underlying 9 = some .string := by kernel_rfl
theorem u54 : prog.underlying 54 = some (.slice 3) := by kernel_rfl
theorem u22 : prog.underlying 22 = some (.slice 54) := by kernel_rfl
theorem u23 : prog.underlying 23 = some (.slice 4) := by kernel_rfl
theorem u25 : prog.underlying 25 = some (.struct #[⟨ "Next", 22, 0, false, "", "", 0⟩, ⟨ "Good", 23, 1, false, "", "", 24⟩]) := by kernel_rfl
theorem parts_list {α : Type} (f : α → List AV) (R : List AV → Prop) (hR : ∀ p, R p → ∃ a, p = f a) : ∀ (parts : List (List AV)), (∀ p ∈ parts, R p) → ∃ l : List α, l.length = parts.length ∧ parts.flatten = flatC f l
  | [], _ => ⟨[], rfl, rfl⟩
  | p :: ps, h => by
    obtain ⟨a, e⟩ := hR p (h p (by simp))
    obtain ⟨l, h1, h2⟩ := parts_list f R hR ps (fun q hq => h q (by simp [hq]))
    exact ⟨a :: l, by simp [h1], by rw [List.flatten_cons, flatC_cons, e, h2]⟩
theorem flatC_ints : ∀ l : List Int, flatC (fun n => [AV.int .i64 n]) l = ints l
  | [] => rfl
  | a :: l => by rw [flatC_cons, flatC_ints l]; rfl
theorem flatC_bls : ∀ l : List Bool, flatC (fun n => [AV.bool n]) l = bls l
  | [] => rfl
  | a :: l => by rw [flatC_cons, flatC_bls l]; rfl
theorem mlen : maxLen = 9223372036854775807 := by decide
theorem dat54 {d : Nat} {cs : List AV} (h : Dat prog (d + 2) 54 cs) : ∃ v l, cs = [v] ∧ IsInts v l ∧ (l.length : Int) ≤ 9223372036854775807 := by
  rw [Dat] at h
  simp only [u54] at h
  rcases h with rfl | ⟨parts, rfl, hl, hp⟩
  · exact ⟨.nils, [], rfl, .inl ⟨rfl, rfl⟩, by simp⟩
  · obtain ⟨l, h1, h2⟩ := parts_list (fun n : Int => [AV.int .i64 n]) (fun p => ∃ n, p = [.int .i64 n]) (fun p h => h) parts (fun p hq => by
      have := (hp p hq).2
      simp only [Dat, u3] at this
      obtain ⟨n, e, _⟩ := this
      exact ⟨n, e⟩)
    rw [flatC_ints] at h2
    refine ⟨_, l, rfl, .inr ⟨false, by rw [h1, h2]⟩, ?_⟩
    have := mlen
    omega
theorem u4' : prog.underlying 4 = some .bool := by kernel_rfl
theorem dat23 {d : Nat} {cs : List AV} (h : Dat prog (d + 2) 23 cs) : ∃ v l, cs = [v] ∧ IsB v l ∧ (l.length : Int) ≤ 9223372036854775807 := by
  rw [Dat] at h
  simp only [u23] at h
  rcases h with rfl | ⟨parts, rfl, hl, hp⟩
  · exact ⟨.nils, [], rfl, .inl ⟨rfl, rfl⟩, by simp⟩
  · obtain ⟨l, h1, h2⟩ := parts_list (fun n : Bool => [AV.bool n]) (fun p => ∃ n, p = [.bool n]) (fun p h => h) parts (fun p hq => by
      have := (hp p hq).2
      simp only [Dat, u4'] at this
      exact this)
    rw [flatC_bls] at h2
    refine ⟨_, l, rfl, .inr ⟨false, by rw [h1, h2]⟩, ?_⟩
    have := mlen
    omega
theorem rows_of {d : Nat} : ∀ (parts : List (List AV)), (∀ p ∈ parts, Dat prog (d + 2) 54 p) → ∃ rows : List (List Int), parts.flatten.length = rows.length ∧ (∀ i, i < rows.length → IsInts (pth parts.flatten i) (cth rows i) ∧ ((cth rows i).length : Int) ≤ 9223372036854775807) ∧ rows.length = parts.length
  | [], _ => ⟨[], rfl, fun i h => by simp at h, rfl⟩
  | p :: ps, h => by
    obtain ⟨v, l, rfl, h1, h2⟩ := dat54 (h p (by simp))
    obtain ⟨rows, g1, g2, g3⟩ := rows_of ps (fun q hq => h q (by simp [hq]))
    refine ⟨l :: rows, by simpa using g1, fun i hi => ?_, by simpa using g3⟩
    cases i with
    | zero => exact ⟨h1, h2⟩
    | succ i => exact g2 i (by simpa using hi)
theorem datV25 {d : Nat} {a : AV} (h : DatV prog (d + 4) 25 a) : ∃ nv gv ps rows good, a = .agg [nv, gv] ∧ IsRows nv ps rows ∧ IsB gv good ∧ (good.length : Int) ≤ 9223372036854775807 ∧ ∀ i, i < rows.length → ((cth rows i).length : Int) ≤ 9223372036854775807 := by
  simp only [DatV, u25] at h
  obtain ⟨cs, rfl, h⟩ := h
  rw [Dat] at h
  simp only [u25] at h
  obtain ⟨parts, rfl, hl, hp⟩ := h
  match parts, hl with
  | [a, b], _ =>
    have h1 := (hp 0 _ _ rfl rfl).2
    obtain ⟨v1, good, rfl, h3, h4⟩ := dat23 (d := d + 1) (hp 1 _ _ rfl rfl).2
    have h1' : Dat prog (d + 3) 22 a := h1
    rw [Dat] at h1'
    simp only [u22] at h1'
    rcases h1' with rfl | ⟨parts, rfl, hl, hq⟩
    · exact ⟨.nils, v1, [], [], good, rfl, ⟨rfl, fun i h => by simp at h, .inl ⟨rfl, rfl⟩⟩, h3, h4, fun i h => by simp at h⟩
    · obtain ⟨rows, g1, g2, g3⟩ := rows_of parts (fun p hp => (hq p hp).2)
      exact ⟨_, v1, parts.flatten, rows, good, rfl, ⟨g1, fun i hi => (g2 i hi).1, .inr ⟨false, by rw [g3]⟩⟩, h3, h4, fun i hi => (g2 i hi).2⟩
theorem datV3 {d : Nat} {a : AV} (h : DatV prog (d + 1) 3 a) : ∃ n, a = .int .i64 n := by
  simp only [DatV, u3, Dat] at h
  obtain ⟨n, e, _⟩ := h
  exact ⟨n, by simpa using e⟩
theorem IsB.deep {v : AV} {l : List Bool} (h : IsB v l) (hp : Nat → Option AObj) (d : Nat) : AM.deep hp (d + 1) v = some v := by rcases h with ⟨rfl, _⟩ | ⟨_, rfl⟩ <;> rfl
theorem IsB.cells {v : AV} {l : List Bool} (h : IsB v l) : v.cells = [v] := by rcases h with ⟨rfl, _⟩ | ⟨_, rfl⟩ <;> rfl
def cutR (rows : List (List Int)) : List (List Int) := List.take 7 (List.map (fun r => List.take 4 r) rows)
theorem cutR_len (rows : List (List Int)) : (cutR rows).length ≤ 7 := by simp [cutR]; omega
theorem cutR_row (rows : List (List Int)) (i : Nat) (h : i < (cutR rows).length) : (cth (cutR rows) i).length ≤ 4 := by
  have h' : i < min rows.length 7 := by simp [cutR] at h; omega
  rw [cutR, cut_rows h']
  simp; omega
theorem cut_spec {nv gv : AV} {ps : List AV} {rows : List (List Int)} {good : List Bool} (hn : IsRows nv ps rows) (hg : IsB gv good) (hgl : (good.length : Int) ≤ 9223372036854775807) (hrl : ∀ i, i < rows.length → ((cth rows i).length : Int) ≤ 9223372036854775807) :
    ∃ nv' gv' ps', IsRows nv' ps' (cutR rows) ∧ IsB gv' (good.take 7) ∧ ∀ m, denC prog ann 17 [.agg [nv, gv]] m = some (.agg [nv', gv'], m) := by
  obtain ⟨w1, a1, a2⟩ := slice_bls hg (j := min (good.length : Int) 7) (by omega) (by omega)
  have e1 := take_min good 7
  simp only [Int.cast_ofNat_Int] at e1
  rw [e1] at a2
  obtain ⟨gw, c1, c2⟩ := app_bls a2 (by simp; omega)
  obtain ⟨nv', ps', h1, h2⟩ := cut_loop (gv := gv) (gw := gw) hn hrl c2.one c2.closed c2.deep (min rows.length 7) 0 0 [] ⟨upd (upd Mem.empty.h 0 (some (.cells [.nils, .nils]))) 1 (some (.cells [.nils, gw])), 2⟩ (by omega) rfl (fun p h => by omega) (by simp) (fun h => absurd rfl h) (by simp) ⟨.nils, .nils, by simp⟩
  simp only [Int.ofNat_zero, Int.cast_ofNat_Int] at h2
  refine ⟨nv', gw, ps', h1, c2, fun m => ?_⟩
  rw [l07_cut.call_eq _ _ (by simp [hn.closed, hg.closed])]
  simp [hn.one, hg.one, hn.closed, hg.closed, hg.len, a1, c1, c2.one, c2.cells, h2]
  done
end Go.Proofs.Ythnpflkpjimkfaa

/-
  BODIES OF FUNCTIONS OF THE PROGRAM AS SMALL OPERATIONS (written by gen.py; checked by the kernel against the program). Conditions: none.
-/
namespace Go.Proofs.Ythnpflkpjimkfaa
open Go.AM
open Go.Proofs.Try (prog)
set_option maxRecDepth 100000
set_option linter.all false
end Go.Proofs.Ythnpflkpjimkfaa

/-
  PLANS: numbers from which the laws make brands. Conditions: none.
-/
namespace Go.Proofs.Ythnpflkpjimkfaa
open Go.AM
open Go.Proofs.Try (prog)
set_option linter.all false
set_option maxRecDepth 100000
set_option maxHeartbeats 8000000
theorem u5 : prog.underlying 5 = some (.int .u8) := by kernel_rfl
def bytN (l : List Nat) : List AV := l.map fun x => .int .u8 (x : Nat)
def IsBy (v : AV) (l : List Nat) : Prop := (v = .nils ∧ l = []) ∨ ∃ ex, v = .fsl ex l.length (bytN l)
end Go.Proofs.Ythnpflkpjimkfaa

/-
  LISTS AND MAPS THAT GROW IN MEMORY, AND THE SEARCH LEVEL BY LEVEL. Conditions: none.
-/
namespace Go.Proofs.Ythnpflkpjimkfaa
open Go.AM
open Go.Proofs.Try (prog)
set_option linter.all false
set_option maxRecDepth 100000
set_option maxHeartbeats 4000000
def elP (v : AV) (sz i : Nat) : AV := match v with
  | .sl id es off n top => .ptr id (off + i * sz) top
  | _ => .undef
def tlV (v : AV) (sz : Nat) : AV := match v with
  | .sl id es off n top => .sl id es (off + sz) (n - 1) top
  | _ => .undef
structure Gl (m : Mem) (v : AV) (id sz n : Nat) (xs : List AV) : Prop where
  ex : ∃ pre : List AV, v = .sl id sz pre.length n (pre.length + xs.length) ∧ m.h id = some (.cells (pre ++ xs))
  n : xs.length = n * sz
  lt : id < m.nx
theorem Gl.frame {m m' : Mem} {v : AV} {id sz n : Nat} {xs : List AV} (h : Gl m v id sz n xs) (e : m'.h id = m.h id) (l : m.nx ≤ m'.nx) : Gl m' v id sz n xs := by
  obtain ⟨⟨pre, hv, hm⟩, hn, hl⟩ := h
  exact ⟨⟨pre, hv, by rw [e, hm]⟩, hn, by omega⟩
theorem Gl.fr {m m' : Mem} {v : AV} {id sz n : Nat} {xs : List AV} (h : Gl m v id sz n xs) (e : m'.h id = m.h id) (l : id < m'.nx) : Gl m' v id sz n xs := by
  obtain ⟨⟨pre, hv, hm⟩, hn, hl⟩ := h
  exact ⟨⟨pre, hv, by rw [e, hm]⟩, hn, l⟩
theorem Gl.one {m : Mem} {v : AV} {id sz n : Nat} {xs : List AV} (h : Gl m v id sz n xs) : v.one = true := by
  obtain ⟨⟨pre, rfl, hm⟩, hn, hl⟩ := h; rfl
theorem Gl.cells {m : Mem} {v : AV} {id sz n : Nat} {xs : List AV} (h : Gl m v id sz n xs) : v.cells = [v] := by
  obtain ⟨⟨pre, rfl, hm⟩, hn, hl⟩ := h; rfl
theorem Gl.len {m : Mem} {v : AV} {id sz n : Nat} {xs : List AV} (h : Gl m v id sz n xs) : lenSl v = some (.int .i64 n) := by
  obtain ⟨⟨pre, rfl, hm⟩, hn, hl⟩ := h; rfl
theorem Gl.idx {m : Mem} {v : AV} {id sz n : Nat} {xs : List AV} (h : Gl m v id sz n xs) {i : Nat} (hi : i < n) (k : IntKind) : idxSl sz v (.int k (i : Int)) = some (elP v sz i) := by
  obtain ⟨⟨pre, rfl, hm⟩, hn, hl⟩ := h
  simp [hi, elP]
theorem Gl.load {m : Mem} {v : AV} {id sz n : Nat} {xs : List AV} (h : Gl m v id sz n xs) {i : Nat} (hi : i < n) : loadA true sz m (elP v sz i) = some (.agg ((xs.drop (i * sz)).take sz)) := by
  obtain ⟨⟨pre, rfl, hm⟩, hn, hl⟩ := h
  have : pre.length + i * sz + sz ≤ pre.length + xs.length := by
    rw [hn]
    have := Nat.mul_le_mul_right sz (show i + 1 ≤ n from hi)
    rw [Nat.succ_mul] at this
    omega
  have e : (pre ++ xs).drop (pre.length + i * sz) = xs.drop (i * sz) := by rw [List.drop_append, List.drop_of_length_le (by omega)]; simp
  simp only [elP, loadA_ptr, hm, loadO_cells, e, cond_true]
  simp [this]
theorem Gl.load1 {m : Mem} {v : AV} {id n : Nat} {xs : List AV} (h : Gl m v id 1 n xs) {i : Nat} (hi : i < n) : loadA false 1 m (elP v 1 i) = xs[i]? := by
  obtain ⟨⟨pre, rfl, hm⟩, hn, hl⟩ := h
  simp [elP, hm, List.getElem?_append_right]
theorem Gl.cut {m : Mem} {v : AV} {id sz n : Nat} {xs : List AV} (h : Gl m v id sz n xs) (hi : 0 < n) : sliceSl sz v (some (.int .i64 1)) none = some (tlV v sz) := by
  obtain ⟨⟨pre, rfl, hm⟩, hn, hl⟩ := h
  have : (1 : Int) ≤ n := by omega
  simp [sliceSl, tlV, bnds, bnd, this]
theorem Gl.tail {m : Mem} {v : AV} {id sz n : Nat} {xs : List AV} (h : Gl m v id sz n xs) (hi : 0 < n) : Gl m (tlV v sz) id sz (n - 1) (xs.drop sz) := by
  obtain ⟨⟨pre, rfl, hm⟩, hn, hl⟩ := h
  have hs : sz ≤ xs.length := by
    rw [hn]; exact Nat.le_mul_of_pos_left _ hi
  refine ⟨⟨pre ++ xs.take sz, ?_, ?_⟩, ?_, hl⟩
  · simp [tlV]; omega
  · rw [hm]; simp
  · simp [hn, Nat.sub_mul]
theorem Gl.app {m : Mem} {v : AV} {id sz n by' : Nat} {xs ys : List AV} (h : Gl m v id sz n xs) (hy : ys.length = sz) (hr : room (n + 1) by' = true) :
    ∃ v' m' id', appT sz by' m v (some (1, ys)) = some (v', m') ∧ Gl m' v' id' sz (n + 1) (xs ++ ys) ∧ m.nx ≤ m'.nx ∧ (id' = id ∨ id' = m.nx) ∧ ∀ j, j < m.nx → j ≠ id → m'.h j = m.h j := by
  obtain ⟨⟨pre, rfl, hm⟩, hn, hl⟩ := h
  rw [appT_sl, hm, appO_eq]
  by_cases e : pre.length = 0
  · have : pre = [] := List.length_eq_zero_iff.1 e
    subst this
    refine ⟨.sl id sz 0 (n + 1) (xs ++ ys).length, m.set id (some (.cells (xs ++ ys))), id, ?_, ⟨⟨[], by simp, by simp [Mem.set]⟩, by simp [hn, hy, Nat.succ_mul], hl⟩, Nat.le_refl _, .inl rfl, fun j hj hne => updNe hne⟩
    simp at hr
    simp [hn, hr.1, hr.2]
  · refine ⟨.sl m.nx sz 0 (n + 1) (xs ++ ys).length, (m.set id none).new (.cells (xs ++ ys)), m.nx, ?_, ⟨⟨[], by simp, by simp [Mem.new, Mem.set]⟩, by simp [hn, hy, Nat.succ_mul], by simp [Mem.new, Mem.set]⟩, by simp [Mem.new, Mem.set], .inr rfl, fun j hj hne => ?_⟩
    · simp at hr
      have : (pre.length == 0) = false := by simpa using e
      simp [hn, hr.1, hr.2, this]
    · simp only [Mem.new, Mem.set]
      rw [updNe (by omega), updNe hne]
def Mp (m : Mem) (id : Nat) (ks vs : List AV) : Prop := (∃ g, m.h id = some (.map g ks vs)) ∧ id < m.nx
theorem Mp.frame {m m' : Mem} {id : Nat} {ks vs : List AV} (h : Mp m id ks vs) (e : m'.h id = m.h id) (l : m.nx ≤ m'.nx) : Mp m' id ks vs := by
  obtain ⟨⟨g, hg⟩, hl⟩ := h
  exact ⟨⟨g, by rw [e, hg]⟩, by omega⟩
theorem Mp.fr {m m' : Mem} {id : Nat} {ks vs : List AV} (h : Mp m id ks vs) (e : m'.h id = m.h id) (l : id < m'.nx) : Mp m' id ks vs := by
  obtain ⟨⟨g, hg⟩, hl⟩ := h
  exact ⟨⟨g, by rw [e, hg]⟩, l⟩
structure Keys (t : TypeId) {α : Type} [DecidableEq α] (enc : α → AV) (ok : α → Prop) : Prop where
  eq : ∀ a b, ok a → ok b → keyEq prog t (enc a) (enc b) = some (decide (a = b))
  key : ∀ a, ok a → keyT prog t (enc a) = true
section
variable {t : TypeId} {α β : Type} [DecidableEq α] {enc : α → AV} {ok : α → Prop} {ev : β → AV}
def lkP : List α → List β → α → Option β
  | k :: ks, v :: vs, c => if c = k then some v else lkP ks vs c
  | _, _, _ => none
theorem lkP_none : ∀ {ks : List α} {vs : List β} {c : α}, c ∉ ks → lkP ks vs c = none
  | [], _, _, _ => by simp [lkP]
  | k :: ks, [], _, _ => rfl
  | k :: ks, v :: vs, c, h => by
    simp only [List.mem_cons, not_or] at h
    rw [lkP, if_neg h.1, lkP_none h.2]
theorem lkP_at : ∀ {ks : List α} {vs : List β} {i : Nat} {c : α} {w : β}, ks.Nodup → ks[i]? = some c → vs[i]? = some w → lkP ks vs c = some w
  | [], _, _, _, _, _, h, _ => by simp at h
  | _ :: _, [], _, _, _, _, _, h => by simp at h
  | k :: ks, v :: vs, 0, c, w, _, h1, h2 => by
    simp at h1 h2
    rw [lkP, if_pos h1.symm, h2]
  | k :: ks, v :: vs, i + 1, c, w, hn, h1, h2 => by
    simp at h1 h2
    rw [List.nodup_cons] at hn
    have : c ≠ k := fun e => hn.1 (e ▸ List.mem_of_getElem? h1)
    rw [lkP, if_neg this]
    exact lkP_at hn.2 h1 h2
theorem lkP_tt : ∀ {ks : List α} {c : α}, lkP ks (ks.map fun _ => true) c = if c ∈ ks then some true else none
  | [], _ => by simp [lkP]
  | k :: ks, c => by
    by_cases h : c = k
    · simp [lkP, h]
    · simp only [List.map_cons, lkP, if_neg h, lkP_tt, List.mem_cons]
      simp [h]
theorem findK_of (hk : Keys t enc ok) : ∀ {ks : List α} {vs : List β} {c : α}, (∀ a ∈ ks, ok a) → ok c → ks.length = vs.length → findK prog t (enc c) (ks.map enc) (vs.map ev) = some ((lkP ks vs c).map ev)
  | [], [], c, _, _, _ => rfl
  | [], _ :: _, _, _, _, h => by simp at h
  | _ :: _, [], _, _, _, h => by simp at h
  | k :: ks, v :: vs, c, h, hc, hl => by
    have ih := findK_of hk (ks := ks) (vs := vs) (c := c) (fun a ha => h a (by simp [ha])) hc (by simpa using hl)
    simp only [List.map_cons, findK, hk.eq c k hc (h k (by simp)), Option.bind_some]
    by_cases q : c = k
    · simp [q, lkP]
    · simp [q, lkP, ih]
theorem setK_of (hk : Keys t enc ok) {v : AV} : ∀ {ks : List α} {vs : List AV} {c : α}, (∀ a ∈ ks, ok a) → ok c → ks.length = vs.length → c ∉ ks → setK prog t (enc c) v (ks.map enc) vs = some ((ks ++ [c]).map enc, vs ++ [v])
  | [], [], c, _, _, _, _ => rfl
  | [], _ :: _, _, _, _, h, _ => by simp at h
  | _ :: _, [], _, _, _, h, _ => by simp at h
  | k :: ks, w :: vs, c, h, hc, hl, hm => by
    simp only [List.mem_cons, not_or] at hm
    have ih := setK_of hk (v := v) (ks := ks) (vs := vs) (c := c) (fun a ha => h a (by simp [ha])) hc (by simpa using hl) hm.2
    simp only [List.map_cons, setK, hk.eq c k hc (h k (by simp)), Option.bind_some]
    simp [hm.1, ih]
theorem Mp.look (hk : Keys t enc ok) {m : Mem} {id : Nat} {ks : List α} {vs : List β} (h : Mp m id (ks.map enc) (vs.map ev)) (ha : ∀ a ∈ ks, ok a) (hl : ks.length = vs.length) {c : α} (hc : ok c) (z : AV) (b : Bool) :
    lookP prog m t z (.map id) (enc c) b = some (match lkP ks vs c with | some v => bif b then .tup [ev v, .bool true] else ev v | none => bif b then .tup [z, .bool false] else z) := by
  obtain ⟨⟨g, hg⟩, _⟩ := h
  simp only [lookP, hk.key c hc, cond_true, lookA, hg, findK_of hk ha hc hl, Option.bind_some]
  cases lkP ks vs c <;> rfl
theorem Mp.put (hk : Keys t enc ok) {m : Mem} {id : Nat} {ks : List α} {vs : List β} (h : Mp m id (ks.map enc) (vs.map ev)) (ha : ∀ a ∈ ks, ok a) (hl : ks.length = vs.length) {c : α} (hc : ok c) (hm : c ∉ ks) (v : β) :
    ∃ m', updM prog m t (.map id) (enc c) (ev v) = some (.tup [], m') ∧ Mp m' id ((ks ++ [c]).map enc) ((vs ++ [v]).map ev) ∧ m'.nx = m.nx ∧ ∀ j, j ≠ id → m'.h j = m.h j := by
  obtain ⟨⟨g, hg⟩, hlt⟩ := h
  refine ⟨m.set id (some (.map (g + 1) ((ks ++ [c]).map enc) ((vs ++ [v]).map ev))), ?_, ⟨⟨g + 1, by simp [Mem.set]⟩, hlt⟩, rfl, fun j hj => updNe hj⟩
  simp only [updM, updP, hk.key c hc, cond_true, hg, setK_of hk ha hc (vs := vs.map ev) (by simpa using hl) hm, Option.bind_some, Option.map_some]
  simp
end
section
variable {α β : Type} [DecidableEq α] (nxt : α → Nat → α) (ext : β → Nat → β)
def bIn (x : α) (w : β) : Nat → Nat → List α × List β → List α × List β
  | 0, _, s => s
  | j + 1, a, s => if nxt x a ∈ s.1 then bIn x w j (a + 1) s else bIn x w j (a + 1) (s.1 ++ [nxt x a], s.2 ++ [ext w a])
structure BOk (ok : α → Prop) (ln : β → Nat) (s : List α × List β) : Prop where
  nd : s.1.Nodup
  all : ∀ x ∈ s.1, ok x
  len : s.1.length = s.2.length
  wl : ∀ w ∈ s.2, ln w ≤ s.2.length
theorem bok_add {ok : α → Prop} {ln : β → Nat} {s : List α × List β} (h : BOk ok ln s) {x : α} {w : β} (hx : ok x) (hn : x ∉ s.1) (hw : ln w ≤ s.2.length + 1) : BOk ok ln (s.1 ++ [x], s.2 ++ [w]) := by
  refine ⟨?_, ?_, by simp [h.len], ?_⟩
  · rw [List.nodup_append]
    refine ⟨h.nd, by simp, ?_⟩
    intro a ha b hb
    simp at hb
    subst hb
    exact fun e => hn (e ▸ ha)
  · intro y hy
    rcases List.mem_append.1 hy with hy | hy
    · exact h.all y hy
    · simp at hy; rw [hy]; exact hx
  · intro y hy
    rcases List.mem_append.1 hy with hy | hy
    · have := h.wl y hy; simp; omega
    · simp at hy; rw [hy]; simpa using hw
theorem bIn_pre (x : α) (w : β) : ∀ (j a : Nat) (s : List α × List β), ∃ p q, (bIn nxt ext x w j a s).1 = s.1 ++ p ∧ (bIn nxt ext x w j a s).2 = s.2 ++ q
  | 0, _, s => ⟨[], [], by simp [bIn], by simp [bIn]⟩
  | j + 1, a, s => by
    rw [bIn]
    split
    · exact bIn_pre x w j (a + 1) s
    · obtain ⟨p, q, h1, h2⟩ := bIn_pre x w j (a + 1) (s.1 ++ [nxt x a], s.2 ++ [ext w a])
      exact ⟨nxt x a :: p, ext w a :: q, by rw [h1]; simp, by rw [h2]; simp⟩
theorem bIn_ok {ok : α → Prop} {ln : β → Nat} {k : Nat} (hnx : ∀ x a, ok x → a < k → ok (nxt x a)) (hex : ∀ w a, ln (ext w a) ≤ ln w + 1) (x : α) (w : β) (hx : ok x) : ∀ (j a : Nat) (s : List α × List β), a + j ≤ k → BOk ok ln s → ln w ≤ s.2.length → BOk ok ln (bIn nxt ext x w j a s)
  | 0, _, s, _, h, _ => h
  | j + 1, a, s, ha, h, hw => by
    rw [bIn]
    split
    · exact bIn_ok hnx hex x w hx j (a + 1) s (by omega) h hw
    · rename_i hn
      exact bIn_ok hnx hex x w hx j (a + 1) _ (by omega) (bok_add h (hnx x a hx (by omega)) hn (by have := hex w a; omega)) (by simp; omega)
end
theorem nodup_sub {α : Type} [DecidableEq α] : ∀ {l L : List α}, l.Nodup → (∀ x ∈ l, x ∈ L) → l.length ≤ L.length
  | [], _, _, _ => by simp
  | a :: l, L, hn, hs => by
    rw [List.nodup_cons] at hn
    have ha := hs a (by simp)
    have ih := nodup_sub (l := l) (L := L.erase a) hn.2 fun x hx => by
      have : x ≠ a := fun e => hn.1 (e ▸ hx)
      exact (List.mem_erase_of_ne this).2 (hs x (by simp [hx]))
    rw [List.length_erase_of_mem ha] at ih
    have : 0 < L.length := List.length_pos_of_mem ha
    simp; omega
end Go.Proofs.Ythnpflkpjimkfaa
