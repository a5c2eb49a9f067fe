/-
  THE LIBRARY'S COMPARISON OF STRINGS, AS A THEOREM OF THIS PROGRAM (the shelf's contract). Conditions: none.
-/
import Derived.Shelf.Small.Strs
import Derived.Test.YthnpflkpjimkfaaKAmH
import Derived.Test.YthnpflkpjimkfaaKAmC
import Derived.Test.YthnpflkpjimkfaaKAmG
set_option linter.all false
namespace Go.Proofs.Ythnpflkpjimkfaa
open Go.Shelf Go.Proofs Go.AM
open Go.Proofs.Try (prog)
set_option maxRecDepth 100000
def cmpRen : Go.Shelf.Ren := ⟨fun | 106 => 86 | 213 => 94 | 265 => 108 | n => n, fun n => n, fun n => n⟩
theorem cmpLays : Lays.n106 Try.prog cmpRen where
  mixed := by kernel_rfl
  f106 := Try.func86.trans (congrArg some (by kernel_rfl))
  f213 := Try.func94.trans (congrArg some (by kernel_rfl))
  f265 := Try.func108.trans (congrArg some (by kernel_rfl))
  t3 := Try.underlying3
  a3 := Try.isAgg3
  z3 := Try.sizeOf3
  v3 := Try.zeroValue3
  t9 := Try.underlying9
  a9 := Try.isAgg9
  z9 := Try.sizeOf9
  v9 := Try.zeroValue9
theorem cmp_same : ∀ a b : List UInt8, Lib.compareBytes a b = cmpL a b
  | [], [] => rfl
  | [], _ :: _ => rfl
  | _ :: _, [] => rfl
  | a :: x, b :: y => by rw [Lib.compareBytes, cmpL, cmp_same x y]
theorem libS : ∀ g, (ann g).srt = true → LibCalls prog ann g := fun g h => by
  have := srt_only (l := annL) (d := ⟨false, [], [], [], []⟩) rfl (fun g => g == 86) (by kernel_rfl) g h
  have e : g = 86 := by simpa using this
  subst e
  refine ⟨fun _ a b w => ?_, fun h => ?_⟩
  · refine (Any.strings_Compare cmpLays a b w).mono ?_
    rintro e w' ⟨rfl, rfl⟩
    exact ⟨by rw [cmp_same], rfl⟩
  · have : (ann 86).cmp = true := by kernel_rfl
    rw [this] at h; cases h
end Go.Proofs.Ythnpflkpjimkfaa

/-
  SLICES WHOSE ELEMENTS ARE THEMSELVES SLICES, AS VALUES. Conditions: none.
-/
namespace Go.AM
set_option linter.all false

def cAt (cs : List AV) (i : Nat) : AV := cs.getD i .undef
theorem cAt_eq {cs : List AV} {i : Nat} (h : i < cs.length) : cs[i]? = some (cAt cs i) := by
  rw [List.getElem?_eq_getElem h]; simp [cAt, List.getD, List.getElem?_eq_getElem h]
theorem cAt_load {cs : List AV} {i : Nat} (h : i < cs.length) : loadF false 1 (.fptr (cs.drop i)) = some (cAt cs i) := by
  simp [List.head?_drop, cAt_eq h]
def gth {α : Type} [Inhabited α] (l : List α) (i : Nat) : α := l.getD i default
/-- A slice of cells that stand each for an element. -/
structure IsVec {α : Type} [Inhabited α] (R : AV → α → Prop) (v : AV) (cs : List AV) (l : List α) : Prop where
  n : cs.length = l.length
  rel : ∀ i, i < l.length → R (cAt cs i) (gth l i)
  cl : closedL cs = true
  v : (v = .nils ∧ l = []) ∨ ∃ ex, v = .fsl ex l.length cs
section
variable {α : Type} [Inhabited α] {R : AV → α → Prop} {v : AV} {cs : List AV} {l : List α}
theorem IsVec.closed (h : IsVec R v cs l) : v.closed = true := by rcases h.v with ⟨rfl, _⟩ | ⟨_, rfl⟩ <;> rfl
theorem IsVec.one (h : IsVec R v cs l) : v.one = true := by rcases h.v with ⟨rfl, _⟩ | ⟨_, rfl⟩ <;> rfl
theorem IsVec.cells (h : IsVec R v cs l) : v.cells = [v] := by rcases h.v with ⟨rfl, _⟩ | ⟨_, rfl⟩ <;> rfl
theorem IsVec.len (h : IsVec R v cs l) : lenSl v = some (.int .i64 l.length) := by rcases h.v with ⟨rfl, rfl⟩ | ⟨_, rfl⟩ <;> simp
theorem IsVec.deep (h : IsVec R v cs l) (hp : Nat → Option AObj) (d : Nat) : AM.deep hp (d + 1) v = some v := by rcases h.v with ⟨rfl, _⟩ | ⟨_, rfl⟩ <;> rfl
theorem IsVec.frz (h : IsVec R v cs l) (m : Mem) : frzV v m = some (v, m) := by rcases h.v with ⟨rfl, _⟩ | ⟨_, rfl⟩ <;> rfl
theorem IsVec.idx (h : IsVec R v cs l) {i : Nat} (hi : i < l.length) (k : IntKind) : idxSl 1 v (.int k (i : Int)) = some (.fptr (cs.drop i)) := by
  rcases h.v with ⟨rfl, rfl⟩ | ⟨_, rfl⟩
  · simp at hi
  · simp [hi]
theorem IsVec.load (h : IsVec R v cs l) {i : Nat} (hi : i < l.length) : loadF false 1 (.fptr (cs.drop i)) = some (cAt cs i) := cAt_load (by rw [h.n]; exact hi)
theorem IsVec.at (h : IsVec R v cs l) {i : Nat} (hi : i < l.length) : R (cAt cs i) (gth l i) := h.rel i hi
end
/-! ### Bools -/
def boolC (b : Bool) : List AV := [.bool b]
def bnth (l : List Bool) (i : Nat) : Bool := l.getD i false
abbrev IsBools : AV → List Bool → Prop := IsSl boolC
end Go.AM

/-
  LISTS OF NUMBERS: what all laws share. Conditions: none.
-/
namespace Go.AM
set_option linter.all false

/-- The lexicographic order. -/
def lexLt : List Int → List Int → Bool
  | [], [] => false
  | [], _ :: _ => true
  | _ :: _, [] => false
  | a :: x, b :: y => if a = b then lexLt x y else decide (a < b)
theorem updNe {h : Nat → Option AObj} {i j : Nat} {o : Option AObj} (e : j ≠ i) : upd h i o j = h j := by simp [upd, show (j == i) = false from beq_eq_false_iff_ne.2 e]
theorem nth_set (l : List Int) (i j : Nat) (v : Int) : nth (l.set i v) j = if i = j ∧ i < l.length then v else nth l j := by
  simp only [nth, List.getD, List.getElem?_set]
  by_cases h : i = j
  · subst h
    by_cases h2 : i < l.length
    · simp [h2]
    · simp [h2, List.getElem?_eq_none (show l.length ≤ i by omega)]
  · simp [h]
/-- One more at a place. -/
def bump (c : List Int) (h : Nat) : List Int := c.set h (nth c h + 1)
theorem appV_nothing (size by' : Nat) (h : size ≠ 0) : appV size by' (.fsl true 0 []) .nils = some (.fsl true 0 []) := by
  have h' : (size == 0) = false := by simpa using h
  simp [appV, appF, h']
theorem appV_full {size by' n : Nat} {ex : Bool} {cs : List AV} (h : size ≠ 0) (hl : cs.length = n * size) (hc : closedL cs = true) (hr : room n by' = true) (hn : n ≠ 0) :
    appV size by' (.fsl true 0 []) (.fsl ex n cs) = some (.fsl false n cs) := by
  have h' : (size == 0) = false := by simpa using h
  have hn' : (n == 0) = false := by simpa using hn
  have hr' := hr
  simp at hr'
  simp [appV, appF, h', hl, hn', hr', hc]
  simp [← hl]
theorem app_ints {v : AV} {l : List Int} (h : IsInts v l) (hl : l.length ≤ 1000000) : ∃ v', appV 1 8 (.fsl true 0 []) v = some v' ∧ IsInts v' l := by
  rcases h with ⟨rfl, rfl⟩ | ⟨ex, rfl⟩
  · exact ⟨_, appV_nothing 1 8 (by omega), .inr ⟨true, rfl⟩⟩
  · by_cases e : l.length = 0
    · have : l = [] := List.length_eq_zero_iff.1 e
      subst this
      exact ⟨.fsl true 0 [], by simp [appV, appF], .inr ⟨true, rfl⟩⟩
    · exact ⟨_, appV_full (size := 1) (by' := 8) (n := l.length) (ex := ex) (cs := ints l) (by omega) (by simp) (by simp) (by simp [room]; omega) e, .inr ⟨false, rfl⟩⟩
theorem slice_ints {v : AV} {l : List Int} (h : IsInts v l) {j : Int} (h0 : 0 ≤ j) (h1 : j ≤ l.length) : ∃ v', sliceSl 1 v none (some (.int .i64 j)) = some v' ∧ IsInts v' (l.take j.toNat) := by
  rcases h with ⟨rfl, rfl⟩ | ⟨ex, rfl⟩
  · have : j = 0 := by simp at h1; omega
    subst this
    exact ⟨.nils, by simp [sliceSl, bnds, bnd], .inl ⟨rfl, by simp⟩⟩
  · refine ⟨.fsl (ex && j.toNat == l.length) j.toNat (ints (l.take j.toNat)), by simp [sliceSl, bnds, bnd, h0, h1], .inr ⟨ex && j.toNat == l.length, by simp [show min j.toNat l.length = j.toNat by omega]⟩⟩
theorem take_min {α : Type} (l : List α) (n : Nat) : l.take (min (l.length : Int) n).toNat = l.take n := by
  rcases Nat.le_total l.length n with h | h
  · rw [List.take_of_length_le h, List.take_of_length_le (by omega)]
  · rw [show (min (l.length : Int) n).toNat = n by omega]
def I64 (n : Int) : Prop := -9223372036854775808 ≤ n ∧ n ≤ 9223372036854775807
/-! ### A list that grows in memory -/
/-- The slice: nothing at first, then one object. -/
def outI (oid : Nat) (acc : List Int) : AV := if acc = [] then .nils else .sl oid 1 0 acc.length acc.length
def OutI (m : Mem) (oid : Nat) (acc : List Int) : Prop := acc ≠ [] → m.h oid = some (.cells (ints acc)) ∧ oid < m.nx
def intsV (acc : List Int) : AV := if acc = [] then .nils else .fsl false acc.length (ints acc)
end Go.AM

/-
  BODIES OF FUNCTIONS OF THE PROGRAM AS SMALL OPERATIONS (written by gen.py; checked by the kernel against the program). Conditions: none.
-/
namespace Go.Proofs.Ythnpflkpjimkfaa
open Go.AM
open Go.Proofs.Try (prog)
set_option maxRecDepth 100000
set_option linter.all false

namespace l07_cut
/-- pommel/pommellaw07.cut -/
noncomputable def b : Code := (Try.f17.body).getD .skip
theorem hf : prog.funcs[17]? = some Try.f17 := by kernel_rfl
noncomputable def r0 : Code := findReg b 0
noncomputable def r1 : Code := findReg b 1
noncomputable def r2 : Code := findReg b 2
noncomputable def k0 : Code := findBlk b 0
noncomputable def l0 : Code := loopOf k0
noncomputable def L0 (x1 x2 x3 x4 : AV) (m : Mem) (K : List Item) : Option Res := den prog ann 17 (.code l0 :: .inLoop l0 :: .inBlock 0 :: K) ⟨[(1, x1), (2, x2), (3, x3), (4, x4)], 47, m⟩
noncomputable def r3 : Code := findReg b 3
noncomputable def i0 : Code := findCond b 0
noncomputable def i0t : Code := thenOf i0
noncomputable def i0e : Code := elseOf i0
noncomputable def k1 : Code := findBlk b 1
noncomputable def r5 : Code := findReg b 5
noncomputable def r4 : Code := findReg b 4
noncomputable def r6 : Code := findReg b 6
theorem b_eq (K : List Item) (s : St) : den prog ann 17 (.code b :: K) s = den prog ann 17 (.code r0 :: .code r1 :: .code r2 :: .code k0 :: .code r6 :: .code .ret :: K) s := den_flat hf (l := [r0, r1, r2, k0, r6, .ret]) (by kernel_rfl) K s
theorem r0_eq (K : List Item) (s : St) : den prog ann 17 (.code r0 :: K) s = mreg prog ann 17 none [] none [] [
    ⟨some 1, none, .v fun s => frozenPtr (s.get 0)⟩,
    ⟨some 2, none, .w false none fun s => newPtr s.m [.nils, .nils]⟩] K s := (den_reg hf _ K s).trans (by kernel_rfl)
theorem r1_eq (K : List Item) (s : St) : den prog ann 17 (.code r1 :: K) s = mreg prog ann 17 none [] none [] [
    ⟨some 5, none, .v fun s => bslF 0 (bslA 1 0 [.bool false] [])⟩,
    ⟨some 6, none, .v fun s => fieldA 1 (s.get 1)⟩,
    ⟨some 7, none, .v fun s => loadF false 1 (s.get 6)⟩,
    ⟨some 8, none, .v fun s => fieldA 1 (s.get 1)⟩,
    ⟨some 9, none, .v fun s => loadF false 1 (s.get 8)⟩,
    ⟨some 10, none, .v fun s => lenSl (s.get 9)⟩,
    ⟨some 11, none, .v fun s => foldA min2A (s.get 10) [(.int .i64 7)]⟩,
    ⟨some 12, none, .v fun s => sliceSl 1 (s.get 7) none (some (s.get 11))⟩,
    ⟨some 13, none, .v fun s => appV 1 1 (s.get 5) (s.get 12)⟩,
    ⟨some 14, none, .v fun s => bldA (plc [(0, 1), (1, 1)]) [.nils, .nils] [(1, (s.get 13))]⟩,
    ⟨some 3, none, .w false none fun s => newPtr s.m [.nils, .nils]⟩,
    ⟨none, none, .w false none fun s => stA true 2 s.m (s.get 3) (s.get 14)⟩] K s := (den_reg hf _ K s).trans (by kernel_rfl)
theorem r2_eq (K : List Item) (s : St) : den prog ann 17 (.code r2 :: K) s = mreg prog ann 17 none [] none [] [
    ⟨some 4, none, .v fun s => some (.int .i64 0)⟩] K s := (den_reg hf _ K s).trans (by kernel_rfl)
theorem k0_eq (K : List Item) (t : List (Nat × AV)) (m : Mem) : den prog ann 17 (.code k0 :: K) ⟨t, 47, m⟩ = L0 (get t 1) (get t 2) (get t 3) (get t 4) m K := den_loop_enter hf (b := l0) (id := 3) (l := [1, 2, 3, 4]) (by kernel_rfl) (by kernel_rfl) (by kernel_rfl) K _
theorem l0_eq (K : List Item) (t : List (Nat × AV)) (m : Mem) : den prog ann 17 (.inLoop l0 :: .inBlock 0 :: K) ⟨t, 47, m⟩ = L0 (get t 1) (get t 2) (get t 3) (get t 4) m K := den_loop_again hf (id := 3) (l := [1, 2, 3, 4]) (by kernel_rfl) (by kernel_rfl) (.inBlock 0 :: K) _
theorem L0_eq (x1 x2 x3 x4 : AV) (m : Mem) (K : List Item) : L0 x1 x2 x3 x4 m K = den prog ann 17 (.code r3 :: .code i0 :: .code k1 :: .code r4 :: .inLoop l0 :: .inBlock 0 :: K) ⟨[(1, x1), (2, x2), (3, x3), (4, x4)], 47, m⟩ := den_flat hf (l := [r3, i0, k1, r4]) (by kernel_rfl) _ _
theorem r3_eq (K : List Item) (s : St) : den prog ann 17 (.code r3 :: K) s = mreg prog ann 17 (some [1, 2, 3, 4]) [] none [] [
    ⟨some 15, none, .v fun s => some (s.get 4)⟩,
    ⟨some 16, none, .v fun s => fieldA 0 (s.get 1)⟩,
    ⟨some 17, none, .v fun s => loadF false 1 (s.get 16)⟩,
    ⟨some 18, none, .v fun s => lenSl (s.get 17)⟩,
    ⟨some 19, none, .v fun s => binA prog .lss 3 (s.get 15) (s.get 18)⟩,
    ⟨some 20, none, .v fun s => some (s.get 19)⟩,
    ⟨some 21, some (20, true), .v fun s => some (s.get 4)⟩,
    ⟨some 22, some (20, true), .v fun s => binA prog .leq 3 (s.get 21) (.int .i64 6)⟩,
    ⟨some 23, none, .v fun s => pickA (s.get 20) (s.get 22) (.bool false)⟩] K s := (den_reg hf _ K s).trans (by kernel_rfl)
theorem i0_eq (K : List Item) (s : St) : den prog ann 17 (.code i0 :: K) s = ifV prog ann 17 23 i0t i0e K s (s.get 23) := den_if hf (by kernel_rfl) K s
theorem i0t_eq (K : List Item) (s : St) : den prog ann 17 (.code i0t :: K) s = den prog ann 17 (K) s := den_flat hf (l := []) (by kernel_rfl) K s
theorem i0e_eq (K : List Item) (s : St) : den prog ann 17 (.code i0e :: K) s = den prog ann 17 (.code (.exit 0) :: K) s := den_flat hf (l := [(.exit 0)]) (by kernel_rfl) K s
theorem k1_eq (K : List Item) (s : St) : den prog ann 17 (.code k1 :: K) s = den prog ann 17 (.code r5 :: .inBlock 1 :: K) s := den_blk hf (b := blkOf k1) (l := [r5]) (by kernel_rfl) (by kernel_rfl) K s
theorem r5_draw : drawOk (fun g => (ann g).pure) (modeOf (ann 17) (idOf r5)) (frzOf (ann 17) (idOf r5)) (opsOf r5) = true := drawOk_of (an := [0, 1, 0, 0, 8, 0, 56, 120, 0, 256, 0, 1792, 3840, 7936, 16128, 32760, 65532, 131068, 262143, 524287, 1048575]) (by kernel_rfl) (by kernel_rfl)
theorem r5_eq (K : List Item) (s : St) : den prog ann 17 (.code r5 :: K) s = mreg prog ann 17 none [] (some 21) [] [
    ⟨some 26, none, .v fun s => fieldA 0 (s.get 3)⟩,
    ⟨some 27, none, .v fun s => loadA false 1 s.m (s.get 26)⟩,
    ⟨some 28, none, .v fun s => bslF 0 (bslA 1 0 [.int .i64 0] [])⟩,
    ⟨some 29, none, .v fun s => fieldA 0 (s.get 1)⟩,
    ⟨some 30, none, .v fun s => loadF false 1 (s.get 29)⟩,
    ⟨some 31, none, .v fun s => some (s.get 4)⟩,
    ⟨some 32, none, .v fun s => idxSl 1 (s.get 30) (s.get 31)⟩,
    ⟨some 33, none, .v fun s => loadF false 1 (s.get 32)⟩,
    ⟨some 34, none, .v fun s => fieldA 0 (s.get 1)⟩,
    ⟨some 35, none, .v fun s => loadF false 1 (s.get 34)⟩,
    ⟨some 36, none, .v fun s => some (s.get 4)⟩,
    ⟨some 37, none, .v fun s => idxSl 1 (s.get 35) (s.get 36)⟩,
    ⟨some 38, none, .v fun s => loadF false 1 (s.get 37)⟩,
    ⟨some 39, none, .v fun s => lenSl (s.get 38)⟩,
    ⟨some 40, none, .v fun s => foldA min2A (s.get 39) [(.int .i64 4)]⟩,
    ⟨some 41, none, .v fun s => sliceSl 1 (s.get 33) none (some (s.get 40))⟩,
    ⟨some 42, none, .v fun s => appV 1 8 (s.get 28) (s.get 41)⟩,
    ⟨some 43, none, .v fun s => bslF 1 (bslA 1 1 [.nils] [(0, (s.get 42))])⟩,
    ⟨some 44, none, .w false (some 18) fun s => appendA 1 24 s.m (s.get 27) (s.get 43)⟩,
    ⟨some 45, none, .v fun s => fieldA 0 (s.get 3)⟩,
    ⟨none, none, .w false (some 20) fun s => stA false 1 s.m (s.get 45) (s.get 44)⟩] K s := (den_regD hf r5_draw K s).trans (by kernel_rfl)
theorem r4_eq (K : List Item) (s : St) : den prog ann 17 (.code r4 :: K) s = mreg prog ann 17 (some [1, 2, 3, 4]) [] none [] [
    ⟨some 24, none, .v fun s => some (s.get 4)⟩,
    ⟨some 25, none, .v fun s => binA prog .add 3 (s.get 24) (.int .i64 1)⟩,
    ⟨some 4, none, .v fun s => some (s.get 25)⟩] K s := (den_reg hf _ K s).trans (by kernel_rfl)
theorem r6_eq (K : List Item) (s : St) : den prog ann 17 (.code r6 :: K) s = mreg prog ann 17 (some [2, 3]) [] none [] [
    ⟨some 46, none, .v fun s => loadA true 2 s.m (s.get 3)⟩,
    ⟨none, none, .w false none fun s => stA true 2 s.m (s.get 2) (s.get 46)⟩] K s := (den_reg hf _ K s).trans (by kernel_rfl)
theorem ret_eq (K : List Item) (s : St) : den prog ann 17 (.code .ret :: K) s = finM true [fun s => loadA true 2 s.m (s.get 2)] s := (den_ret hf K s).trans (by kernel_rfl)
theorem nil_eq (s : St) : den prog ann 17 [] s = finM true [fun s => loadA true 2 s.m (s.get 2)] s := (den_nil hf s).trans (by kernel_rfl)
theorem inBlock_eq (id : Nat) (K : List Item) (s : St) : den prog ann 17 (.inBlock id :: K) s = den prog ann 17 K s := den_inBlock hf id K s
theorem exit_eq (id : Nat) (K : List Item) (s : St) : den prog ann 17 (.code (.exit id) :: K) s = exitV prog ann 17 (exitTo id K) s := den_exitV hf id K s
theorem call_eq (v0 : AV) (m : Mem) (h : closedL [v0] = true) : denC prog ann 17 [v0] m = (den prog ann 17 [.code b] ⟨[(0, v0)], 47, Mem.empty⟩).bind fun r => some (r.1, m) := (denC_pure hf (b := b) (by kernel_rfl) (by kernel_rfl) (by kernel_rfl) h m).trans (by kernel_rfl)
theorem pure_eq : (ann 17).pure = true := by kernel_rfl
attribute [simp] b_eq r0_eq r1_eq r2_eq k0_eq l0_eq r3_eq i0_eq i0t_eq i0e_eq k1_eq r5_eq r4_eq r6_eq ret_eq nil_eq inBlock_eq exit_eq pure_eq
end l07_cut

namespace l07_short
/-- pommel/pommellaw07.short -/
noncomputable def b : Code := (Try.f30.body).getD .skip
theorem hf : prog.funcs[30]? = some Try.f30 := by kernel_rfl
noncomputable def r0 : Code := findReg b 0
noncomputable def r1 : Code := findReg b 1
theorem b_eq (K : List Item) (s : St) : den prog ann 30 (.code b :: K) s = den prog ann 30 (.code r0 :: .code r1 :: .code .ret :: K) s := den_flat hf (l := [r0, r1, .ret]) (by kernel_rfl) K s
theorem r0_eq (K : List Item) (s : St) : den prog ann 30 (.code r0 :: K) s = mreg prog ann 30 none [] none [] [
    ⟨some 2, none, .v fun s => some (.str [])⟩] K s := (den_reg hf _ K s).trans (by kernel_rfl)
theorem r1_eq (K : List Item) (s : St) : den prog ann 30 (.code r1 :: K) s = mreg prog ann 30 none [] none [] [
    ⟨some 3, none, .v fun s => some (s.get 0)⟩,
    ⟨some 4, none, .v fun s => some (s.get 0)⟩,
    ⟨some 5, none, .v fun s => lenStr (s.get 4)⟩,
    ⟨some 6, none, .v fun s => foldA min2A (s.get 5) [(.int .i64 201)]⟩,
    ⟨some 7, none, .v fun s => sliceStr (s.get 3) none (some (s.get 6))⟩,
    ⟨some 2, none, .v fun s => some (s.get 7)⟩] K s := (den_reg hf _ K s).trans (by kernel_rfl)
theorem ret_eq (K : List Item) (s : St) : den prog ann 30 (.code .ret :: K) s = finM true [fun s => some (s.get 2)] s := (den_ret hf K s).trans (by kernel_rfl)
theorem nil_eq (s : St) : den prog ann 30 [] s = finM true [fun s => some (s.get 2)] s := (den_nil hf s).trans (by kernel_rfl)
theorem inBlock_eq (id : Nat) (K : List Item) (s : St) : den prog ann 30 (.inBlock id :: K) s = den prog ann 30 K s := den_inBlock hf id K s
theorem exit_eq (id : Nat) (K : List Item) (s : St) : den prog ann 30 (.code (.exit id) :: K) s = exitV prog ann 30 (exitTo id K) s := den_exitV hf id K s
theorem call_eq (v0 : AV) (m : Mem) (h : closedL [v0] = true) : denC prog ann 30 [v0] m = (den prog ann 30 [.code b] ⟨[(0, v0)], 8, Mem.empty⟩).bind fun r => some (r.1, m) := (denC_pure hf (b := b) (by kernel_rfl) (by kernel_rfl) (by kernel_rfl) h m).trans (by kernel_rfl)
theorem pure_eq : (ann 30).pure = true := by kernel_rfl
attribute [simp] b_eq r0_eq r1_eq ret_eq nil_eq inBlock_eq exit_eq pure_eq
end l07_short


namespace r07_Valid
/-- pommel/pommelref07.Valid -/
noncomputable def b : Code := (Try.f19.body).getD .skip
theorem hf : prog.funcs[19]? = some Try.f19 := by kernel_rfl
noncomputable def r0 : Code := findReg b 0
noncomputable def r1 : Code := findReg b 1
noncomputable def r2 : Code := findReg b 2
noncomputable def i0 : Code := findCond b 0
noncomputable def i0t : Code := thenOf i0
noncomputable def i0e : Code := elseOf i0
noncomputable def r3 : Code := findReg b 3
noncomputable def r4 : Code := findReg b 4
noncomputable def k0 : Code := findBlk b 0
noncomputable def l0 : Code := loopOf k0
noncomputable def L0 (x1 x3 x4 : AV) (m : Mem) (K : List Item) : Option Res := den prog ann 19 (.code l0 :: .inLoop l0 :: .inBlock 0 :: K) ⟨[(1, x1), (3, x3), (4, x4)], 67, m⟩
noncomputable def r5 : Code := findReg b 5
noncomputable def i1 : Code := findCond b 1
noncomputable def i1t : Code := thenOf i1
noncomputable def i1e : Code := elseOf i1
noncomputable def k1 : Code := findBlk b 1
noncomputable def r7 : Code := findReg b 7
noncomputable def i2 : Code := findCond b 2
noncomputable def i2t : Code := thenOf i2
noncomputable def i2e : Code := elseOf i2
noncomputable def r8 : Code := findReg b 8
noncomputable def r9 : Code := findReg b 9
noncomputable def k2 : Code := findBlk b 2
noncomputable def l2 : Code := loopOf k2
noncomputable def L2 (x1 x3 x4 x5 : AV) (m : Mem) (K : List Item) : Option Res := den prog ann 19 (.code l2 :: .inLoop l2 :: .inBlock 2 :: K) ⟨[(1, x1), (3, x3), (4, x4), (5, x5)], 67, m⟩
noncomputable def r10 : Code := findReg b 10
noncomputable def i3 : Code := findCond b 3
noncomputable def i3t : Code := thenOf i3
noncomputable def i3e : Code := elseOf i3
noncomputable def k3 : Code := findBlk b 3
noncomputable def r12 : Code := findReg b 12
noncomputable def i4 : Code := findCond b 4
noncomputable def i4t : Code := thenOf i4
noncomputable def i4e : Code := elseOf i4
noncomputable def r13 : Code := findReg b 13
noncomputable def r11 : Code := findReg b 11
noncomputable def r6 : Code := findReg b 6
noncomputable def r14 : Code := findReg b 14
theorem b_eq (K : List Item) (s : St) : den prog ann 19 (.code b :: K) s = den prog ann 19 (.code r0 :: .code r1 :: .code r2 :: .code i0 :: .code r4 :: .code k0 :: .code r14 :: .code .ret :: K) s := den_flat hf (l := [r0, r1, r2, i0, r4, k0, r14, .ret]) (by kernel_rfl) K s
theorem r0_eq (K : List Item) (s : St) : den prog ann 19 (.code r0 :: K) s = mreg prog ann 19 none [] none [] [
    ⟨some 1, none, .v fun s => frozenPtr (s.get 0)⟩,
    ⟨some 2, none, .v fun s => some (.bool false)⟩] K s := (den_reg hf _ K s).trans (by kernel_rfl)
theorem r1_eq (K : List Item) (s : St) : den prog ann 19 (.code r1 :: K) s = mreg prog ann 19 none [] none [] [
    ⟨some 6, none, .v fun s => fieldA 0 (s.get 1)⟩,
    ⟨some 7, none, .v fun s => loadF false 1 (s.get 6)⟩,
    ⟨some 8, none, .v fun s => lenSl (s.get 7)⟩,
    ⟨some 3, none, .v fun s => some (s.get 8)⟩] K s := (den_reg hf _ K s).trans (by kernel_rfl)
theorem r2_eq (K : List Item) (s : St) : den prog ann 19 (.code r2 :: K) s = mreg prog ann 19 none [] none [] [
    ⟨some 9, none, .v fun s => some (s.get 3)⟩,
    ⟨some 10, none, .c 0 (fun s => (.fn 62 [] [])) fun s => [(s.get 9), (.int .i64 1), (.int .i64 6)]⟩,
    ⟨some 11, none, .v fun s => unA .not (s.get 10)⟩,
    ⟨some 12, none, .v fun s => some (s.get 11)⟩,
    ⟨some 13, some (12, false), .v fun s => fieldA 1 (s.get 1)⟩,
    ⟨some 14, some (12, false), .v fun s => loadF false 1 (s.get 13)⟩,
    ⟨some 15, some (12, false), .v fun s => lenSl (s.get 14)⟩,
    ⟨some 16, some (12, false), .v fun s => some (s.get 3)⟩,
    ⟨some 17, some (12, false), .v fun s => binA prog .neq 3 (s.get 15) (s.get 16)⟩,
    ⟨some 18, none, .v fun s => pickA (s.get 12) (.bool true) (s.get 17)⟩,
    ⟨some 19, none, .v fun s => some (s.get 18)⟩,
    ⟨some 20, some (19, false), .v fun s => fieldA 0 (s.get 1)⟩,
    ⟨some 21, some (19, false), .v fun s => loadF false 1 (s.get 20)⟩,
    ⟨some 22, some (19, false), .v fun s => idxSl 1 (s.get 21) (.int .i64 0)⟩,
    ⟨some 23, some (19, false), .v fun s => loadF false 1 (s.get 22)⟩,
    ⟨some 24, some (19, false), .v fun s => lenSl (s.get 23)⟩,
    ⟨some 25, some (19, false), .c 0 (fun s => (.fn 62 [] [])) fun s => [(s.get 24), (.int .i64 1), (.int .i64 3)]⟩,
    ⟨some 26, some (19, false), .v fun s => unA .not (s.get 25)⟩,
    ⟨some 27, none, .v fun s => pickA (s.get 19) (.bool true) (s.get 26)⟩] K s := (den_reg hf _ K s).trans (by kernel_rfl)
theorem i0_eq (K : List Item) (s : St) : den prog ann 19 (.code i0 :: K) s = ifV prog ann 19 27 i0t i0e K s (s.get 27) := den_if hf (by kernel_rfl) K s
theorem i0t_eq (K : List Item) (s : St) : den prog ann 19 (.code i0t :: K) s = den prog ann 19 (.code r3 :: .code .ret :: K) s := den_flat hf (l := [r3, .ret]) (by kernel_rfl) K s
theorem r3_eq (K : List Item) (s : St) : den prog ann 19 (.code r3 :: K) s = mreg prog ann 19 none [] none [] [
    ⟨some 2, none, .v fun s => some (.bool false)⟩] K s := (den_reg hf _ K s).trans (by kernel_rfl)
theorem i0e_eq (K : List Item) (s : St) : den prog ann 19 (.code i0e :: K) s = den prog ann 19 (K) s := den_flat hf (l := []) (by kernel_rfl) K s
theorem r4_eq (K : List Item) (s : St) : den prog ann 19 (.code r4 :: K) s = mreg prog ann 19 none [] none [] [
    ⟨some 4, none, .v fun s => some (.int .i64 0)⟩] K s := (den_reg hf _ K s).trans (by kernel_rfl)
theorem k0_eq (K : List Item) (t : List (Nat × AV)) (m : Mem) : den prog ann 19 (.code k0 :: K) ⟨t, 67, m⟩ = L0 (get t 1) (get t 3) (get t 4) m K := den_loop_enter hf (b := l0) (id := 5) (l := [1, 3, 4]) (by kernel_rfl) (by kernel_rfl) (by kernel_rfl) K _
theorem l0_eq (K : List Item) (t : List (Nat × AV)) (m : Mem) : den prog ann 19 (.inLoop l0 :: .inBlock 0 :: K) ⟨t, 67, m⟩ = L0 (get t 1) (get t 3) (get t 4) m K := den_loop_again hf (id := 5) (l := [1, 3, 4]) (by kernel_rfl) (by kernel_rfl) (.inBlock 0 :: K) _
theorem L0_eq (x1 x3 x4 : AV) (m : Mem) (K : List Item) : L0 x1 x3 x4 m K = den prog ann 19 (.code r5 :: .code i1 :: .code k1 :: .code r6 :: .inLoop l0 :: .inBlock 0 :: K) ⟨[(1, x1), (3, x3), (4, x4)], 67, m⟩ := den_flat hf (l := [r5, i1, k1, r6]) (by kernel_rfl) _ _
theorem r5_eq (K : List Item) (s : St) : den prog ann 19 (.code r5 :: K) s = mreg prog ann 19 (some [1, 3, 4]) [] none [] [
    ⟨some 28, none, .v fun s => some (s.get 4)⟩,
    ⟨some 29, none, .v fun s => some (s.get 3)⟩,
    ⟨some 30, none, .v fun s => binA prog .lss 3 (s.get 28) (s.get 29)⟩] K s := (den_reg hf _ K s).trans (by kernel_rfl)
theorem i1_eq (K : List Item) (s : St) : den prog ann 19 (.code i1 :: K) s = ifV prog ann 19 30 i1t i1e K s (s.get 30) := den_if hf (by kernel_rfl) K s
theorem i1t_eq (K : List Item) (s : St) : den prog ann 19 (.code i1t :: K) s = den prog ann 19 (K) s := den_flat hf (l := []) (by kernel_rfl) K s
theorem i1e_eq (K : List Item) (s : St) : den prog ann 19 (.code i1e :: K) s = den prog ann 19 (.code (.exit 0) :: K) s := den_flat hf (l := [(.exit 0)]) (by kernel_rfl) K s
theorem k1_eq (K : List Item) (s : St) : den prog ann 19 (.code k1 :: K) s = den prog ann 19 (.code r7 :: .code i2 :: .code r9 :: .code k2 :: .inBlock 1 :: K) s := den_blk hf (b := blkOf k1) (l := [r7, i2, r9, k2]) (by kernel_rfl) (by kernel_rfl) K s
theorem r7_draw : drawOk (fun g => (ann g).pure) (modeOf (ann 19) (idOf r7)) (frzOf (ann 19) (idOf r7)) (opsOf r7) = true := drawOk_of (an := [0, 1, 0, 7, 15, 31, 0, 64, 192, 448, 960, 2047]) (by kernel_rfl) (by kernel_rfl)
theorem r7_eq (K : List Item) (s : St) : den prog ann 19 (.code r7 :: K) s = mreg prog ann 19 none [] (some 12) [] [
    ⟨some 33, none, .v fun s => fieldA 0 (s.get 1)⟩,
    ⟨some 34, none, .v fun s => loadF false 1 (s.get 33)⟩,
    ⟨some 35, none, .v fun s => some (s.get 4)⟩,
    ⟨some 36, none, .v fun s => idxSl 1 (s.get 34) (s.get 35)⟩,
    ⟨some 37, none, .v fun s => loadF false 1 (s.get 36)⟩,
    ⟨some 38, none, .v fun s => lenSl (s.get 37)⟩,
    ⟨some 39, none, .v fun s => fieldA 0 (s.get 1)⟩,
    ⟨some 40, none, .v fun s => loadF false 1 (s.get 39)⟩,
    ⟨some 41, none, .v fun s => idxSl 1 (s.get 40) (.int .i64 0)⟩,
    ⟨some 42, none, .v fun s => loadF false 1 (s.get 41)⟩,
    ⟨some 43, none, .v fun s => lenSl (s.get 42)⟩,
    ⟨some 44, none, .v fun s => binA prog .neq 3 (s.get 38) (s.get 43)⟩] K s := (den_regD hf r7_draw K s).trans (by kernel_rfl)
theorem i2_eq (K : List Item) (s : St) : den prog ann 19 (.code i2 :: K) s = ifV prog ann 19 44 i2t i2e K s (s.get 44) := den_if hf (by kernel_rfl) K s
theorem i2t_eq (K : List Item) (s : St) : den prog ann 19 (.code i2t :: K) s = den prog ann 19 (.code r8 :: .code .ret :: K) s := den_flat hf (l := [r8, .ret]) (by kernel_rfl) K s
theorem r8_eq (K : List Item) (s : St) : den prog ann 19 (.code r8 :: K) s = mreg prog ann 19 none [] none [] [
    ⟨some 2, none, .v fun s => some (.bool false)⟩] K s := (den_reg hf _ K s).trans (by kernel_rfl)
theorem i2e_eq (K : List Item) (s : St) : den prog ann 19 (.code i2e :: K) s = den prog ann 19 (K) s := den_flat hf (l := []) (by kernel_rfl) K s
theorem r9_eq (K : List Item) (s : St) : den prog ann 19 (.code r9 :: K) s = mreg prog ann 19 none [] none [] [
    ⟨some 5, none, .v fun s => some (.int .i64 0)⟩] K s := (den_reg hf _ K s).trans (by kernel_rfl)
theorem k2_eq (K : List Item) (t : List (Nat × AV)) (m : Mem) : den prog ann 19 (.code k2 :: K) ⟨t, 67, m⟩ = L2 (get t 1) (get t 3) (get t 4) (get t 5) m K := den_loop_enter hf (b := l2) (id := 10) (l := [1, 3, 4, 5]) (by kernel_rfl) (by kernel_rfl) (by kernel_rfl) K _
theorem l2_eq (K : List Item) (t : List (Nat × AV)) (m : Mem) : den prog ann 19 (.inLoop l2 :: .inBlock 2 :: K) ⟨t, 67, m⟩ = L2 (get t 1) (get t 3) (get t 4) (get t 5) m K := den_loop_again hf (id := 10) (l := [1, 3, 4, 5]) (by kernel_rfl) (by kernel_rfl) (.inBlock 2 :: K) _
theorem L2_eq (x1 x3 x4 x5 : AV) (m : Mem) (K : List Item) : L2 x1 x3 x4 x5 m K = den prog ann 19 (.code r10 :: .code i3 :: .code k3 :: .code r11 :: .inLoop l2 :: .inBlock 2 :: K) ⟨[(1, x1), (3, x3), (4, x4), (5, x5)], 67, m⟩ := den_flat hf (l := [r10, i3, k3, r11]) (by kernel_rfl) _ _
theorem r10_eq (K : List Item) (s : St) : den prog ann 19 (.code r10 :: K) s = mreg prog ann 19 (some [1, 3, 4, 5]) [] none [] [
    ⟨some 45, none, .v fun s => some (s.get 5)⟩,
    ⟨some 46, none, .v fun s => fieldA 0 (s.get 1)⟩,
    ⟨some 47, none, .v fun s => loadF false 1 (s.get 46)⟩,
    ⟨some 48, none, .v fun s => some (s.get 4)⟩,
    ⟨some 49, none, .v fun s => idxSl 1 (s.get 47) (s.get 48)⟩,
    ⟨some 50, none, .v fun s => loadF false 1 (s.get 49)⟩,
    ⟨some 51, none, .v fun s => lenSl (s.get 50)⟩,
    ⟨some 52, none, .v fun s => binA prog .lss 3 (s.get 45) (s.get 51)⟩] K s := (den_reg hf _ K s).trans (by kernel_rfl)
theorem i3_eq (K : List Item) (s : St) : den prog ann 19 (.code i3 :: K) s = ifV prog ann 19 52 i3t i3e K s (s.get 52) := den_if hf (by kernel_rfl) K s
theorem i3t_eq (K : List Item) (s : St) : den prog ann 19 (.code i3t :: K) s = den prog ann 19 (K) s := den_flat hf (l := []) (by kernel_rfl) K s
theorem i3e_eq (K : List Item) (s : St) : den prog ann 19 (.code i3e :: K) s = den prog ann 19 (.code (.exit 2) :: K) s := den_flat hf (l := [(.exit 2)]) (by kernel_rfl) K s
theorem k3_eq (K : List Item) (s : St) : den prog ann 19 (.code k3 :: K) s = den prog ann 19 (.code r12 :: .code i4 :: .inBlock 3 :: K) s := den_blk hf (b := blkOf k3) (l := [r12, i4]) (by kernel_rfl) (by kernel_rfl) K s
theorem r12_eq (K : List Item) (s : St) : den prog ann 19 (.code r12 :: K) s = mreg prog ann 19 none [] none [] [
    ⟨some 55, none, .v fun s => fieldA 0 (s.get 1)⟩,
    ⟨some 56, none, .v fun s => loadF false 1 (s.get 55)⟩,
    ⟨some 57, none, .v fun s => some (s.get 4)⟩,
    ⟨some 58, none, .v fun s => idxSl 1 (s.get 56) (s.get 57)⟩,
    ⟨some 59, none, .v fun s => loadF false 1 (s.get 58)⟩,
    ⟨some 60, none, .v fun s => some (s.get 5)⟩,
    ⟨some 61, none, .v fun s => idxSl 1 (s.get 59) (s.get 60)⟩,
    ⟨some 62, none, .v fun s => loadF false 1 (s.get 61)⟩,
    ⟨some 63, none, .v fun s => some (s.get 3)⟩,
    ⟨some 64, none, .v fun s => binA prog .sub 3 (s.get 63) (.int .i64 1)⟩,
    ⟨some 65, none, .c 0 (fun s => (.fn 62 [] [])) fun s => [(s.get 62), (.int .i64 0), (s.get 64)]⟩,
    ⟨some 66, none, .v fun s => unA .not (s.get 65)⟩] K s := (den_reg hf _ K s).trans (by kernel_rfl)
theorem i4_eq (K : List Item) (s : St) : den prog ann 19 (.code i4 :: K) s = ifV prog ann 19 66 i4t i4e K s (s.get 66) := den_if hf (by kernel_rfl) K s
theorem i4t_eq (K : List Item) (s : St) : den prog ann 19 (.code i4t :: K) s = den prog ann 19 (.code r13 :: .code .ret :: K) s := den_flat hf (l := [r13, .ret]) (by kernel_rfl) K s
theorem r13_eq (K : List Item) (s : St) : den prog ann 19 (.code r13 :: K) s = mreg prog ann 19 none [] none [] [
    ⟨some 2, none, .v fun s => some (.bool false)⟩] K s := (den_reg hf _ K s).trans (by kernel_rfl)
theorem i4e_eq (K : List Item) (s : St) : den prog ann 19 (.code i4e :: K) s = den prog ann 19 (K) s := den_flat hf (l := []) (by kernel_rfl) K s
theorem r11_eq (K : List Item) (s : St) : den prog ann 19 (.code r11 :: K) s = mreg prog ann 19 (some [1, 3, 4, 5]) [] none [] [
    ⟨some 53, none, .v fun s => some (s.get 5)⟩,
    ⟨some 54, none, .v fun s => binA prog .add 3 (s.get 53) (.int .i64 1)⟩,
    ⟨some 5, none, .v fun s => some (s.get 54)⟩] K s := (den_reg hf _ K s).trans (by kernel_rfl)
theorem r6_eq (K : List Item) (s : St) : den prog ann 19 (.code r6 :: K) s = mreg prog ann 19 (some [1, 3, 4]) [] none [] [
    ⟨some 31, none, .v fun s => some (s.get 4)⟩,
    ⟨some 32, none, .v fun s => binA prog .add 3 (s.get 31) (.int .i64 1)⟩,
    ⟨some 4, none, .v fun s => some (s.get 32)⟩] K s := (den_reg hf _ K s).trans (by kernel_rfl)
theorem r14_eq (K : List Item) (s : St) : den prog ann 19 (.code r14 :: K) s = mreg prog ann 19 (some []) [] none [] [
    ⟨some 2, none, .v fun s => some (.bool true)⟩] K s := (den_reg hf _ K s).trans (by kernel_rfl)
theorem ret_eq (K : List Item) (s : St) : den prog ann 19 (.code .ret :: K) s = finM true [fun s => some (s.get 2)] s := (den_ret hf K s).trans (by kernel_rfl)
theorem nil_eq (s : St) : den prog ann 19 [] s = finM true [fun s => some (s.get 2)] s := (den_nil hf s).trans (by kernel_rfl)
theorem inBlock_eq (id : Nat) (K : List Item) (s : St) : den prog ann 19 (.inBlock id :: K) s = den prog ann 19 K s := den_inBlock hf id K s
theorem exit_eq (id : Nat) (K : List Item) (s : St) : den prog ann 19 (.code (.exit id) :: K) s = exitV prog ann 19 (exitTo id K) s := den_exitV hf id K s
theorem call_eq (v0 : AV) (m : Mem) (h : closedL [v0] = true) : denC prog ann 19 [v0] m = (den prog ann 19 [.code b] ⟨[(0, v0)], 67, Mem.empty⟩).bind fun r => some (r.1, m) := (denC_pure hf (b := b) (by kernel_rfl) (by kernel_rfl) (by kernel_rfl) h m).trans (by kernel_rfl)
theorem pure_eq : (ann 19).pure = true := by kernel_rfl
attribute [simp] b_eq r0_eq r1_eq r2_eq i0_eq i0t_eq r3_eq i0e_eq r4_eq k0_eq l0_eq r5_eq i1_eq i1t_eq i1e_eq k1_eq r7_eq i2_eq i2t_eq r8_eq i2e_eq r9_eq k2_eq l2_eq r10_eq i3_eq i3t_eq i3e_eq k3_eq r12_eq i4_eq i4t_eq r13_eq i4e_eq r11_eq r6_eq r14_eq ret_eq nil_eq inBlock_eq exit_eq pure_eq
end r07_Valid

namespace r07_in
/-- pommel/pommelref07.in -/
noncomputable def b : Code := (Try.f62.body).getD .skip
theorem hf : prog.funcs[62]? = some Try.f62 := by kernel_rfl
noncomputable def r0 : Code := findReg b 0
noncomputable def r1 : Code := findReg b 1
theorem b_eq (K : List Item) (s : St) : den prog ann 62 (.code b :: K) s = den prog ann 62 (.code r0 :: .code r1 :: .code .ret :: K) s := den_flat hf (l := [r0, r1, .ret]) (by kernel_rfl) K s
theorem r0_eq (K : List Item) (s : St) : den prog ann 62 (.code r0 :: K) s = mreg prog ann 62 none [] none [] [
    ⟨some 6, none, .v fun s => some (.bool false)⟩] K s := (den_reg hf _ K s).trans (by kernel_rfl)
theorem r1_eq (K : List Item) (s : St) : den prog ann 62 (.code r1 :: K) s = mreg prog ann 62 none [] none [] [
    ⟨some 7, none, .v fun s => some (s.get 0)⟩,
    ⟨some 8, none, .v fun s => some (s.get 1)⟩,
    ⟨some 9, none, .v fun s => binA prog .geq 3 (s.get 7) (s.get 8)⟩,
    ⟨some 10, none, .v fun s => some (s.get 9)⟩,
    ⟨some 11, some (10, true), .v fun s => some (s.get 0)⟩,
    ⟨some 12, some (10, true), .v fun s => some (s.get 2)⟩,
    ⟨some 13, some (10, true), .v fun s => binA prog .leq 3 (s.get 11) (s.get 12)⟩,
    ⟨some 14, none, .v fun s => pickA (s.get 10) (s.get 13) (.bool false)⟩,
    ⟨some 6, none, .v fun s => some (s.get 14)⟩] K s := (den_reg hf _ K s).trans (by kernel_rfl)
theorem ret_eq (K : List Item) (s : St) : den prog ann 62 (.code .ret :: K) s = finM true [fun s => some (s.get 6)] s := (den_ret hf K s).trans (by kernel_rfl)
theorem nil_eq (s : St) : den prog ann 62 [] s = finM true [fun s => some (s.get 6)] s := (den_nil hf s).trans (by kernel_rfl)
theorem inBlock_eq (id : Nat) (K : List Item) (s : St) : den prog ann 62 (.inBlock id :: K) s = den prog ann 62 K s := den_inBlock hf id K s
theorem exit_eq (id : Nat) (K : List Item) (s : St) : den prog ann 62 (.code (.exit id) :: K) s = exitV prog ann 62 (exitTo id K) s := den_exitV hf id K s
theorem call_eq (v0 v1 v2 : AV) (m : Mem) (h : closedL [v0, v1, v2] = true) : denC prog ann 62 [v0, v1, v2] m = (den prog ann 62 [.code b] ⟨[(0, v0), (1, v1), (2, v2)], 15, Mem.empty⟩).bind fun r => some (r.1, m) := (denC_pure hf (b := b) (by kernel_rfl) (by kernel_rfl) (by kernel_rfl) h m).trans (by kernel_rfl)
theorem pure_eq : (ann 62).pure = true := by kernel_rfl
attribute [simp] b_eq r0_eq r1_eq ret_eq nil_eq inBlock_eq exit_eq pure_eq
end r07_in

namespace r07_Word
/-- pommel/pommelref07.Word -/
noncomputable def b : Code := (Try.f24.body).getD .skip
theorem hf : prog.funcs[24]? = some Try.f24 := by kernel_rfl
noncomputable def r0 : Code := findReg b 0
noncomputable def r1 : Code := findReg b 1
noncomputable def i0 : Code := findCond b 0
noncomputable def i0t : Code := thenOf i0
noncomputable def i0e : Code := elseOf i0
noncomputable def r2 : Code := findReg b 2
noncomputable def r3 : Code := findReg b 3
noncomputable def k0 : Code := findBlk b 0
noncomputable def l0 : Code := loopOf k0
noncomputable def L0 (x1 x2 x5 : AV) (m : Mem) (K : List Item) : Option Res := den prog ann 24 (.code l0 :: .inLoop l0 :: .inBlock 0 :: K) ⟨[(1, x1), (2, x2), (5, x5)], 32, m⟩
noncomputable def r4 : Code := findReg b 4
noncomputable def i1 : Code := findCond b 1
noncomputable def i1t : Code := thenOf i1
noncomputable def i1e : Code := elseOf i1
noncomputable def k1 : Code := findBlk b 1
noncomputable def r6 : Code := findReg b 6
noncomputable def i2 : Code := findCond b 2
noncomputable def i2t : Code := thenOf i2
noncomputable def i2e : Code := elseOf i2
noncomputable def r7 : Code := findReg b 7
noncomputable def r5 : Code := findReg b 5
noncomputable def r8 : Code := findReg b 8
theorem b_eq (K : List Item) (s : St) : den prog ann 24 (.code b :: K) s = den prog ann 24 (.code r0 :: .code r1 :: .code i0 :: .code r3 :: .code k0 :: .code r8 :: .code .ret :: K) s := den_flat hf (l := [r0, r1, i0, r3, k0, r8, .ret]) (by kernel_rfl) K s
theorem r0_eq (K : List Item) (s : St) : den prog ann 24 (.code r0 :: K) s = mreg prog ann 24 none [] none [] [
    ⟨some 2, none, .v fun s => frozenPtr (s.get 0)⟩,
    ⟨some 4, none, .v fun s => some (.int .i64 0)⟩] K s := (den_reg hf _ K s).trans (by kernel_rfl)
theorem r1_eq (K : List Item) (s : St) : den prog ann 24 (.code r1 :: K) s = mreg prog ann 24 none [] none [] [
    ⟨some 6, none, .v fun s => some (s.get 1)⟩,
    ⟨some 7, none, .v fun s => lenStr (s.get 6)⟩,
    ⟨some 8, none, .v fun s => binA prog .gtr 3 (s.get 7) (.int .i64 200)⟩] K s := (den_reg hf _ K s).trans (by kernel_rfl)
theorem i0_eq (K : List Item) (s : St) : den prog ann 24 (.code i0 :: K) s = ifV prog ann 24 8 i0t i0e K s (s.get 8) := den_if hf (by kernel_rfl) K s
theorem i0t_eq (K : List Item) (s : St) : den prog ann 24 (.code i0t :: K) s = den prog ann 24 (.code r2 :: .code .ret :: K) s := den_flat hf (l := [r2, .ret]) (by kernel_rfl) K s
theorem r2_eq (K : List Item) (s : St) : den prog ann 24 (.code r2 :: K) s = mreg prog ann 24 none [] none [] [
    ⟨some 4, none, .v fun s => some (.int .i64 3)⟩] K s := (den_reg hf _ K s).trans (by kernel_rfl)
theorem i0e_eq (K : List Item) (s : St) : den prog ann 24 (.code i0e :: K) s = den prog ann 24 (K) s := den_flat hf (l := []) (by kernel_rfl) K s
theorem r3_eq (K : List Item) (s : St) : den prog ann 24 (.code r3 :: K) s = mreg prog ann 24 none [] none [] [
    ⟨some 5, none, .v fun s => some (.int .i64 0)⟩] K s := (den_reg hf _ K s).trans (by kernel_rfl)
theorem k0_eq (K : List Item) (t : List (Nat × AV)) (m : Mem) : den prog ann 24 (.code k0 :: K) ⟨t, 32, m⟩ = L0 (get t 1) (get t 2) (get t 5) m K := den_loop_enter hf (b := l0) (id := 4) (l := [1, 2, 5]) (by kernel_rfl) (by kernel_rfl) (by kernel_rfl) K _
theorem l0_eq (K : List Item) (t : List (Nat × AV)) (m : Mem) : den prog ann 24 (.inLoop l0 :: .inBlock 0 :: K) ⟨t, 32, m⟩ = L0 (get t 1) (get t 2) (get t 5) m K := den_loop_again hf (id := 4) (l := [1, 2, 5]) (by kernel_rfl) (by kernel_rfl) (.inBlock 0 :: K) _
theorem L0_eq (x1 x2 x5 : AV) (m : Mem) (K : List Item) : L0 x1 x2 x5 m K = den prog ann 24 (.code r4 :: .code i1 :: .code k1 :: .code r5 :: .inLoop l0 :: .inBlock 0 :: K) ⟨[(1, x1), (2, x2), (5, x5)], 32, m⟩ := den_flat hf (l := [r4, i1, k1, r5]) (by kernel_rfl) _ _
theorem r4_eq (K : List Item) (s : St) : den prog ann 24 (.code r4 :: K) s = mreg prog ann 24 (some [1, 2, 5]) [] none [] [
    ⟨some 9, none, .v fun s => some (s.get 5)⟩,
    ⟨some 10, none, .v fun s => some (s.get 1)⟩,
    ⟨some 11, none, .v fun s => lenStr (s.get 10)⟩,
    ⟨some 12, none, .v fun s => binA prog .lss 3 (s.get 9) (s.get 11)⟩] K s := (den_reg hf _ K s).trans (by kernel_rfl)
theorem i1_eq (K : List Item) (s : St) : den prog ann 24 (.code i1 :: K) s = ifV prog ann 24 12 i1t i1e K s (s.get 12) := den_if hf (by kernel_rfl) K s
theorem i1t_eq (K : List Item) (s : St) : den prog ann 24 (.code i1t :: K) s = den prog ann 24 (K) s := den_flat hf (l := []) (by kernel_rfl) K s
theorem i1e_eq (K : List Item) (s : St) : den prog ann 24 (.code i1e :: K) s = den prog ann 24 (.code (.exit 0) :: K) s := den_flat hf (l := [(.exit 0)]) (by kernel_rfl) K s
theorem k1_eq (K : List Item) (s : St) : den prog ann 24 (.code k1 :: K) s = den prog ann 24 (.code r6 :: .code i2 :: .inBlock 1 :: K) s := den_blk hf (b := blkOf k1) (l := [r6, i2]) (by kernel_rfl) (by kernel_rfl) K s
theorem r6_draw : drawOk (fun g => (ann g).pure) (modeOf (ann 24) (idOf r6)) (frzOf (ann 24) (idOf r6)) (opsOf r6) = true := drawOk_of (an := [0, 0, 3, 7, 15, 31, 31, 127, 255, 511, 31, 1055, 3103, 7199, 15391, 32767, 65535]) (by kernel_rfl) (by kernel_rfl)
theorem r6_eq (K : List Item) (s : St) : den prog ann 24 (.code r6 :: K) s = mreg prog ann 24 none [] (some 17) [] [
    ⟨some 15, none, .v fun s => some (s.get 1)⟩,
    ⟨some 16, none, .v fun s => some (s.get 5)⟩,
    ⟨some 17, none, .v fun s => idxStr (s.get 15) (s.get 16)⟩,
    ⟨some 18, none, .v fun s => binA prog .lss 5 (s.get 17) (.int .u8 97)⟩,
    ⟨some 19, none, .v fun s => some (s.get 18)⟩,
    ⟨some 20, some (19, false), .v fun s => some (s.get 1)⟩,
    ⟨some 21, some (19, false), .v fun s => some (s.get 5)⟩,
    ⟨some 22, some (19, false), .v fun s => idxStr (s.get 20) (s.get 21)⟩,
    ⟨some 23, some (19, false), .v fun s => binA prog .sub 5 (s.get 22) (.int .u8 97)⟩,
    ⟨some 24, some (19, false), .v fun s => convInt .i64 (s.get 23)⟩,
    ⟨some 25, some (19, false), .v fun s => fieldA 0 (s.get 2)⟩,
    ⟨some 26, some (19, false), .v fun s => loadF false 1 (s.get 25)⟩,
    ⟨some 27, some (19, false), .v fun s => idxSl 1 (s.get 26) (.int .i64 0)⟩,
    ⟨some 28, some (19, false), .v fun s => loadF false 1 (s.get 27)⟩,
    ⟨some 29, some (19, false), .v fun s => lenSl (s.get 28)⟩,
    ⟨some 30, some (19, false), .v fun s => binA prog .geq 3 (s.get 24) (s.get 29)⟩,
    ⟨some 31, none, .v fun s => pickA (s.get 19) (.bool true) (s.get 30)⟩] K s := (den_regD hf r6_draw K s).trans (by kernel_rfl)
theorem i2_eq (K : List Item) (s : St) : den prog ann 24 (.code i2 :: K) s = ifV prog ann 24 31 i2t i2e K s (s.get 31) := den_if hf (by kernel_rfl) K s
theorem i2t_eq (K : List Item) (s : St) : den prog ann 24 (.code i2t :: K) s = den prog ann 24 (.code r7 :: .code .ret :: K) s := den_flat hf (l := [r7, .ret]) (by kernel_rfl) K s
theorem r7_eq (K : List Item) (s : St) : den prog ann 24 (.code r7 :: K) s = mreg prog ann 24 none [] none [] [
    ⟨some 4, none, .v fun s => some (.int .i64 2)⟩] K s := (den_reg hf _ K s).trans (by kernel_rfl)
theorem i2e_eq (K : List Item) (s : St) : den prog ann 24 (.code i2e :: K) s = den prog ann 24 (K) s := den_flat hf (l := []) (by kernel_rfl) K s
theorem r5_eq (K : List Item) (s : St) : den prog ann 24 (.code r5 :: K) s = mreg prog ann 24 (some [1, 2, 5]) [] none [] [
    ⟨some 13, none, .v fun s => some (s.get 5)⟩,
    ⟨some 14, none, .v fun s => binA prog .add 3 (s.get 13) (.int .i64 1)⟩,
    ⟨some 5, none, .v fun s => some (s.get 14)⟩] K s := (den_reg hf _ K s).trans (by kernel_rfl)
theorem r8_eq (K : List Item) (s : St) : den prog ann 24 (.code r8 :: K) s = mreg prog ann 24 (some []) [] none [] [
    ⟨some 4, none, .v fun s => some (.int .i64 0)⟩] K s := (den_reg hf _ K s).trans (by kernel_rfl)
theorem ret_eq (K : List Item) (s : St) : den prog ann 24 (.code .ret :: K) s = finM true [fun s => some (s.get 4)] s := (den_ret hf K s).trans (by kernel_rfl)
theorem nil_eq (s : St) : den prog ann 24 [] s = finM true [fun s => some (s.get 4)] s := (den_nil hf s).trans (by kernel_rfl)
theorem inBlock_eq (id : Nat) (K : List Item) (s : St) : den prog ann 24 (.inBlock id :: K) s = den prog ann 24 K s := den_inBlock hf id K s
theorem exit_eq (id : Nat) (K : List Item) (s : St) : den prog ann 24 (.code (.exit id) :: K) s = exitV prog ann 24 (exitTo id K) s := den_exitV hf id K s
theorem call_eq (v0 v1 : AV) (m : Mem) (h : closedL [v0, v1] = true) : denC prog ann 24 [v0, v1] m = (den prog ann 24 [.code b] ⟨[(0, v0), (1, v1)], 32, Mem.empty⟩).bind fun r => some (r.1, m) := (denC_pure hf (b := b) (by kernel_rfl) (by kernel_rfl) (by kernel_rfl) h m).trans (by kernel_rfl)
theorem pure_eq : (ann 24).pure = true := by kernel_rfl
attribute [simp] b_eq r0_eq r1_eq i0_eq i0t_eq r2_eq i0e_eq r3_eq k0_eq l0_eq r4_eq i1_eq i1t_eq i1e_eq k1_eq r6_eq i2_eq i2t_eq r7_eq i2e_eq r5_eq r8_eq ret_eq nil_eq inBlock_eq exit_eq pure_eq
end r07_Word

namespace r07_Go
/-- pommel/pommelref07.Go -/
noncomputable def b : Code := (Try.f25.body).getD .skip
theorem hf : prog.funcs[25]? = some Try.f25 := by kernel_rfl
noncomputable def r0 : Code := findReg b 0
noncomputable def r1 : Code := findReg b 1
noncomputable def k0 : Code := findBlk b 0
noncomputable def l0 : Code := loopOf k0
noncomputable def L0 (x1 x2 x3 x7 : AV) (m : Mem) (K : List Item) : Option Res := den prog ann 25 (.code l0 :: .inLoop l0 :: .inBlock 0 :: K) ⟨[(1, x1), (2, x2), (3, x3), (7, x7)], 26, m⟩
noncomputable def r2 : Code := findReg b 2
noncomputable def i0 : Code := findCond b 0
noncomputable def i0t : Code := thenOf i0
noncomputable def i0e : Code := elseOf i0
noncomputable def k1 : Code := findBlk b 1
noncomputable def r4 : Code := findReg b 4
noncomputable def r3 : Code := findReg b 3
noncomputable def r5 : Code := findReg b 5
theorem b_eq (K : List Item) (s : St) : den prog ann 25 (.code b :: K) s = den prog ann 25 (.code r0 :: .code r1 :: .code k0 :: .code r5 :: .code .ret :: K) s := den_flat hf (l := [r0, r1, k0, r5, .ret]) (by kernel_rfl) K s
theorem r0_eq (K : List Item) (s : St) : den prog ann 25 (.code r0 :: K) s = mreg prog ann 25 none [] none [] [
    ⟨some 3, none, .v fun s => frozenPtr (s.get 0)⟩,
    ⟨some 6, none, .v fun s => some (.int .i64 0)⟩] K s := (den_reg hf _ K s).trans (by kernel_rfl)
theorem r1_eq (K : List Item) (s : St) : den prog ann 25 (.code r1 :: K) s = mreg prog ann 25 none [] none [] [
    ⟨some 7, none, .v fun s => some (.int .i64 0)⟩] K s := (den_reg hf _ K s).trans (by kernel_rfl)
theorem k0_eq (K : List Item) (t : List (Nat × AV)) (m : Mem) : den prog ann 25 (.code k0 :: K) ⟨t, 26, m⟩ = L0 (get t 1) (get t 2) (get t 3) (get t 7) m K := den_loop_enter hf (b := l0) (id := 2) (l := [1, 2, 3, 7]) (by kernel_rfl) (by kernel_rfl) (by kernel_rfl) K _
theorem l0_eq (K : List Item) (t : List (Nat × AV)) (m : Mem) : den prog ann 25 (.inLoop l0 :: .inBlock 0 :: K) ⟨t, 26, m⟩ = L0 (get t 1) (get t 2) (get t 3) (get t 7) m K := den_loop_again hf (id := 2) (l := [1, 2, 3, 7]) (by kernel_rfl) (by kernel_rfl) (.inBlock 0 :: K) _
theorem L0_eq (x1 x2 x3 x7 : AV) (m : Mem) (K : List Item) : L0 x1 x2 x3 x7 m K = den prog ann 25 (.code r2 :: .code i0 :: .code k1 :: .code r3 :: .inLoop l0 :: .inBlock 0 :: K) ⟨[(1, x1), (2, x2), (3, x3), (7, x7)], 26, m⟩ := den_flat hf (l := [r2, i0, k1, r3]) (by kernel_rfl) _ _
theorem r2_eq (K : List Item) (s : St) : den prog ann 25 (.code r2 :: K) s = mreg prog ann 25 (some [1, 2, 3, 7]) [] none [] [
    ⟨some 8, none, .v fun s => some (s.get 7)⟩,
    ⟨some 9, none, .v fun s => some (s.get 2)⟩,
    ⟨some 10, none, .v fun s => lenStr (s.get 9)⟩,
    ⟨some 11, none, .v fun s => binA prog .lss 3 (s.get 8) (s.get 10)⟩] K s := (den_reg hf _ K s).trans (by kernel_rfl)
theorem i0_eq (K : List Item) (s : St) : den prog ann 25 (.code i0 :: K) s = ifV prog ann 25 11 i0t i0e K s (s.get 11) := den_if hf (by kernel_rfl) K s
theorem i0t_eq (K : List Item) (s : St) : den prog ann 25 (.code i0t :: K) s = den prog ann 25 (K) s := den_flat hf (l := []) (by kernel_rfl) K s
theorem i0e_eq (K : List Item) (s : St) : den prog ann 25 (.code i0e :: K) s = den prog ann 25 (.code (.exit 0) :: K) s := den_flat hf (l := [(.exit 0)]) (by kernel_rfl) K s
theorem k1_eq (K : List Item) (s : St) : den prog ann 25 (.code k1 :: K) s = den prog ann 25 (.code r4 :: .inBlock 1 :: K) s := den_blk hf (b := blkOf k1) (l := [r4]) (by kernel_rfl) (by kernel_rfl) K s
theorem r4_draw : drawOk (fun g => (ann g).pure) (modeOf (ann 25) (idOf r4)) (frzOf (ann 25) (idOf r4)) (opsOf r4) = true := drawOk_of (an := [0, 1, 0, 7, 15, 0, 0, 96, 224, 511, 1023, 2047]) (by kernel_rfl) (by kernel_rfl)
theorem r4_eq (K : List Item) (s : St) : den prog ann 25 (.code r4 :: K) s = mreg prog ann 25 none [] (some 12) [] [
    ⟨some 14, none, .v fun s => fieldA 0 (s.get 3)⟩,
    ⟨some 15, none, .v fun s => loadF false 1 (s.get 14)⟩,
    ⟨some 16, none, .v fun s => some (s.get 1)⟩,
    ⟨some 17, none, .v fun s => idxSl 1 (s.get 15) (s.get 16)⟩,
    ⟨some 18, none, .v fun s => loadF false 1 (s.get 17)⟩,
    ⟨some 19, none, .v fun s => some (s.get 2)⟩,
    ⟨some 20, none, .v fun s => some (s.get 7)⟩,
    ⟨some 21, none, .v fun s => idxStr (s.get 19) (s.get 20)⟩,
    ⟨some 22, none, .v fun s => binA prog .sub 5 (s.get 21) (.int .u8 97)⟩,
    ⟨some 23, none, .v fun s => idxSl 1 (s.get 18) (s.get 22)⟩,
    ⟨some 24, none, .v fun s => loadF false 1 (s.get 23)⟩,
    ⟨some 1, none, .v fun s => some (s.get 24)⟩] K s := (den_regD hf r4_draw K s).trans (by kernel_rfl)
theorem r3_eq (K : List Item) (s : St) : den prog ann 25 (.code r3 :: K) s = mreg prog ann 25 (some [1, 2, 3, 7]) [] none [] [
    ⟨some 12, none, .v fun s => some (s.get 7)⟩,
    ⟨some 13, none, .v fun s => binA prog .add 3 (s.get 12) (.int .i64 1)⟩,
    ⟨some 7, none, .v fun s => some (s.get 13)⟩] K s := (den_reg hf _ K s).trans (by kernel_rfl)
theorem r5_eq (K : List Item) (s : St) : den prog ann 25 (.code r5 :: K) s = mreg prog ann 25 (some [1]) [] none [] [
    ⟨some 25, none, .v fun s => some (s.get 1)⟩,
    ⟨some 6, none, .v fun s => some (s.get 25)⟩] K s := (den_reg hf _ K s).trans (by kernel_rfl)
theorem ret_eq (K : List Item) (s : St) : den prog ann 25 (.code .ret :: K) s = finM true [fun s => some (s.get 6)] s := (den_ret hf K s).trans (by kernel_rfl)
theorem nil_eq (s : St) : den prog ann 25 [] s = finM true [fun s => some (s.get 6)] s := (den_nil hf s).trans (by kernel_rfl)
theorem inBlock_eq (id : Nat) (K : List Item) (s : St) : den prog ann 25 (.inBlock id :: K) s = den prog ann 25 K s := den_inBlock hf id K s
theorem exit_eq (id : Nat) (K : List Item) (s : St) : den prog ann 25 (.code (.exit id) :: K) s = exitV prog ann 25 (exitTo id K) s := den_exitV hf id K s
theorem call_eq (v0 v1 v2 : AV) (m : Mem) (h : closedL [v0, v1, v2] = true) : denC prog ann 25 [v0, v1, v2] m = (den prog ann 25 [.code b] ⟨[(0, v0), (1, v1), (2, v2)], 26, Mem.empty⟩).bind fun r => some (r.1, m) := (denC_pure hf (b := b) (by kernel_rfl) (by kernel_rfl) (by kernel_rfl) h m).trans (by kernel_rfl)
theorem pure_eq : (ann 25).pure = true := by kernel_rfl
attribute [simp] b_eq r0_eq r1_eq k0_eq l0_eq r2_eq i0_eq i0t_eq i0e_eq k1_eq r4_eq r3_eq r5_eq ret_eq nil_eq inBlock_eq exit_eq pure_eq
end r07_Go



namespace brand_check
/-- pommel/brand.check -/
noncomputable def b : Code := (Try.f68.body).getD .skip
theorem hf : prog.funcs[68]? = some Try.f68 := by kernel_rfl
noncomputable def r0 : Code := findReg b 0
noncomputable def k0 : Code := findBlk b 0
noncomputable def r1 : Code := findReg b 1
noncomputable def i0 : Code := findCond b 0
noncomputable def i0t : Code := thenOf i0
noncomputable def i0e : Code := elseOf i0
noncomputable def r2 : Code := findReg b 2
noncomputable def r3 : Code := findReg b 3
noncomputable def i1 : Code := findCond b 1
noncomputable def i1t : Code := thenOf i1
noncomputable def i1e : Code := elseOf i1
noncomputable def r4 : Code := findReg b 4
noncomputable def r5 : Code := findReg b 5
noncomputable def k1 : Code := findBlk b 1
noncomputable def l1 : Code := loopOf k1
noncomputable def L1 (x1 x2 x15 x16 : AV) (m : Mem) (K : List Item) : Option Res := den prog ann 68 (.code l1 :: .inLoop l1 :: .inBlock 1 :: K) ⟨[(1, x1), (2, x2), (15, x15), (16, x16)], 37, m⟩
noncomputable def r6 : Code := findReg b 6
noncomputable def i2 : Code := findCond b 2
noncomputable def i2t : Code := thenOf i2
noncomputable def i2e : Code := elseOf i2
noncomputable def k2 : Code := findBlk b 2
noncomputable def r7 : Code := findReg b 7
noncomputable def r8 : Code := findReg b 8
noncomputable def i3 : Code := findCond b 3
noncomputable def i3t : Code := thenOf i3
noncomputable def i3e : Code := elseOf i3
noncomputable def r9 : Code := findReg b 9
noncomputable def r10 : Code := findReg b 10
noncomputable def r11 : Code := findReg b 11
theorem b_eq (K : List Item) (s : St) : den prog ann 68 (.code b :: K) s = den prog ann 68 (.code r0 :: .code k0 :: .code r5 :: .code k1 :: .code r11 :: .code .ret :: K) s := den_flat hf (l := [r0, k0, r5, k1, r11, .ret]) (by kernel_rfl) K s
theorem r0_eq (K : List Item) (s : St) : den prog ann 68 (.code r0 :: K) s = mreg prog ann 68 none [] none [] [
    ⟨some 2, none, .v fun s => frozenPtr (s.get 0)⟩,
    ⟨some 4, none, .v fun s => some (.int .i64 0)⟩] K s := (den_reg hf _ K s).trans (by kernel_rfl)
theorem k0_eq (K : List Item) (s : St) : den prog ann 68 (.code k0 :: K) s = den prog ann 68 (.code r1 :: .code i0 :: .inBlock 0 :: K) s := den_blk hf (b := blkOf k0) (l := [r1, i0]) (by kernel_rfl) (by kernel_rfl) K s
theorem r1_eq (K : List Item) (s : St) : den prog ann 68 (.code r1 :: K) s = mreg prog ann 68 none [] none [] [
    ⟨some 7, none, .v fun s => loadF true 2 (s.get 2)⟩,
    ⟨some 8, none, .c 0 (fun s => (.fn 55 [] [])) fun s => [(s.get 7)]⟩,
    ⟨some 9, none, .v fun s => unA .not (s.get 8)⟩,
    ⟨some 6, none, .v fun s => some (s.get 9)⟩] K s := (den_reg hf _ K s).trans (by kernel_rfl)
theorem i0_eq (K : List Item) (s : St) : den prog ann 68 (.code i0 :: K) s = ifV prog ann 68 6 i0t i0e K s (s.get 6) := den_if hf (by kernel_rfl) K s
theorem i0t_eq (K : List Item) (s : St) : den prog ann 68 (.code i0t :: K) s = den prog ann 68 (.code r2 :: .code .ret :: K) s := den_flat hf (l := [r2, .ret]) (by kernel_rfl) K s
theorem r2_eq (K : List Item) (s : St) : den prog ann 68 (.code r2 :: K) s = mreg prog ann 68 none [] none [] [
    ⟨some 4, none, .v fun s => some (.int .i64 1)⟩] K s := (den_reg hf _ K s).trans (by kernel_rfl)
theorem i0e_eq (K : List Item) (s : St) : den prog ann 68 (.code i0e :: K) s = den prog ann 68 (.code r3 :: .code i1 :: K) s := den_flat hf (l := [r3, i1]) (by kernel_rfl) K s
theorem r3_eq (K : List Item) (s : St) : den prog ann 68 (.code r3 :: K) s = mreg prog ann 68 none [] none [] [
    ⟨some 11, none, .v fun s => some (s.get 1)⟩,
    ⟨some 12, none, .v fun s => lenStr (s.get 11)⟩,
    ⟨some 13, none, .v fun s => binA prog .gtr 3 (s.get 12) (.int .i64 200)⟩,
    ⟨some 10, none, .v fun s => some (s.get 13)⟩] K s := (den_reg hf _ K s).trans (by kernel_rfl)
theorem i1_eq (K : List Item) (s : St) : den prog ann 68 (.code i1 :: K) s = ifV prog ann 68 10 i1t i1e K s (s.get 10) := den_if hf (by kernel_rfl) K s
theorem i1t_eq (K : List Item) (s : St) : den prog ann 68 (.code i1t :: K) s = den prog ann 68 (.code r4 :: .code .ret :: K) s := den_flat hf (l := [r4, .ret]) (by kernel_rfl) K s
theorem r4_eq (K : List Item) (s : St) : den prog ann 68 (.code r4 :: K) s = mreg prog ann 68 none [] none [] [
    ⟨some 4, none, .v fun s => some (.int .i64 3)⟩] K s := (den_reg hf _ K s).trans (by kernel_rfl)
theorem i1e_eq (K : List Item) (s : St) : den prog ann 68 (.code i1e :: K) s = den prog ann 68 (K) s := den_flat hf (l := []) (by kernel_rfl) K s
theorem r5_eq (K : List Item) (s : St) : den prog ann 68 (.code r5 :: K) s = mreg prog ann 68 (some [1, 2]) [] none [] [
    ⟨some 14, none, .v fun s => some (s.get 1)⟩,
    ⟨some 15, none, .v fun s => lenStr (s.get 14)⟩,
    ⟨some 16, none, .v fun s => some (.int .i64 0)⟩] K s := (den_reg hf _ K s).trans (by kernel_rfl)
theorem k1_eq (K : List Item) (t : List (Nat × AV)) (m : Mem) : den prog ann 68 (.code k1 :: K) ⟨t, 37, m⟩ = L1 (get t 1) (get t 2) (get t 15) (get t 16) m K := den_loop_enter hf (b := l1) (id := 6) (l := [1, 2, 15, 16]) (by kernel_rfl) (by kernel_rfl) (by kernel_rfl) K _
theorem l1_eq (K : List Item) (t : List (Nat × AV)) (m : Mem) : den prog ann 68 (.inLoop l1 :: .inBlock 1 :: K) ⟨t, 37, m⟩ = L1 (get t 1) (get t 2) (get t 15) (get t 16) m K := den_loop_again hf (id := 6) (l := [1, 2, 15, 16]) (by kernel_rfl) (by kernel_rfl) (.inBlock 1 :: K) _
theorem L1_eq (x1 x2 x15 x16 : AV) (m : Mem) (K : List Item) : L1 x1 x2 x15 x16 m K = den prog ann 68 (.code r6 :: .code i2 :: .code k2 :: .code r10 :: .inLoop l1 :: .inBlock 1 :: K) ⟨[(1, x1), (2, x2), (15, x15), (16, x16)], 37, m⟩ := den_flat hf (l := [r6, i2, k2, r10]) (by kernel_rfl) _ _
theorem r6_eq (K : List Item) (s : St) : den prog ann 68 (.code r6 :: K) s = mreg prog ann 68 (some [1, 2, 15, 16]) [] none [] [
    ⟨some 17, none, .v fun s => binA prog .lss 3 (s.get 16) (s.get 15)⟩] K s := (den_reg hf _ K s).trans (by kernel_rfl)
theorem i2_eq (K : List Item) (s : St) : den prog ann 68 (.code i2 :: K) s = ifV prog ann 68 17 i2t i2e K s (s.get 17) := den_if hf (by kernel_rfl) K s
theorem i2t_eq (K : List Item) (s : St) : den prog ann 68 (.code i2t :: K) s = den prog ann 68 (K) s := den_flat hf (l := []) (by kernel_rfl) K s
theorem i2e_eq (K : List Item) (s : St) : den prog ann 68 (.code i2e :: K) s = den prog ann 68 (.code (.exit 1) :: K) s := den_flat hf (l := [(.exit 1)]) (by kernel_rfl) K s
theorem k2_eq (K : List Item) (s : St) : den prog ann 68 (.code k2 :: K) s = den prog ann 68 (.code r7 :: .code r8 :: .code i3 :: .inBlock 2 :: K) s := den_blk hf (b := blkOf k2) (l := [r7, r8, i3]) (by kernel_rfl) (by kernel_rfl) K s
theorem r7_eq (K : List Item) (s : St) : den prog ann 68 (.code r7 :: K) s = mreg prog ann 68 none [] none [] [
    ⟨some 18, none, .v fun s => some (s.get 16)⟩,
    ⟨some 5, none, .v fun s => some (s.get 18)⟩] K s := (den_reg hf _ K s).trans (by kernel_rfl)
theorem r8_draw : drawOk (fun g => (ann g).pure) (modeOf (ann 68) (idOf r8)) (frzOf (ann 68) (idOf r8)) (opsOf r8) = true := drawOk_of (an := [0, 0, 3, 7, 15, 31, 31, 127, 255, 511, 31, 1055, 3103, 7199, 15391, 32767, 65535]) (by kernel_rfl) (by kernel_rfl)
theorem r8_eq (K : List Item) (s : St) : den prog ann 68 (.code r8 :: K) s = mreg prog ann 68 none [] (some 17) [] [
    ⟨some 19, none, .v fun s => some (s.get 1)⟩,
    ⟨some 20, none, .v fun s => some (s.get 5)⟩,
    ⟨some 21, none, .v fun s => idxStr (s.get 19) (s.get 20)⟩,
    ⟨some 22, none, .v fun s => binA prog .lss 5 (s.get 21) (.int .u8 97)⟩,
    ⟨some 23, none, .v fun s => some (s.get 22)⟩,
    ⟨some 24, some (23, false), .v fun s => some (s.get 1)⟩,
    ⟨some 25, some (23, false), .v fun s => some (s.get 5)⟩,
    ⟨some 26, some (23, false), .v fun s => idxStr (s.get 24) (s.get 25)⟩,
    ⟨some 27, some (23, false), .v fun s => binA prog .sub 5 (s.get 26) (.int .u8 97)⟩,
    ⟨some 28, some (23, false), .v fun s => convInt .i64 (s.get 27)⟩,
    ⟨some 29, some (23, false), .v fun s => fieldA 0 (s.get 2)⟩,
    ⟨some 30, some (23, false), .v fun s => loadF false 1 (s.get 29)⟩,
    ⟨some 31, some (23, false), .v fun s => idxSl 1 (s.get 30) (.int .i64 0)⟩,
    ⟨some 32, some (23, false), .v fun s => loadF false 1 (s.get 31)⟩,
    ⟨some 33, some (23, false), .v fun s => lenSl (s.get 32)⟩,
    ⟨some 34, some (23, false), .v fun s => binA prog .geq 3 (s.get 28) (s.get 33)⟩,
    ⟨some 35, none, .v fun s => pickA (s.get 23) (.bool true) (s.get 34)⟩] K s := (den_regD hf r8_draw K s).trans (by kernel_rfl)
theorem i3_eq (K : List Item) (s : St) : den prog ann 68 (.code i3 :: K) s = ifV prog ann 68 35 i3t i3e K s (s.get 35) := den_if hf (by kernel_rfl) K s
theorem i3t_eq (K : List Item) (s : St) : den prog ann 68 (.code i3t :: K) s = den prog ann 68 (.code r9 :: .code .ret :: K) s := den_flat hf (l := [r9, .ret]) (by kernel_rfl) K s
theorem r9_eq (K : List Item) (s : St) : den prog ann 68 (.code r9 :: K) s = mreg prog ann 68 none [] none [] [
    ⟨some 4, none, .v fun s => some (.int .i64 2)⟩] K s := (den_reg hf _ K s).trans (by kernel_rfl)
theorem i3e_eq (K : List Item) (s : St) : den prog ann 68 (.code i3e :: K) s = den prog ann 68 (K) s := den_flat hf (l := []) (by kernel_rfl) K s
theorem r10_eq (K : List Item) (s : St) : den prog ann 68 (.code r10 :: K) s = mreg prog ann 68 (some [1, 2, 15, 16]) [] none [] [
    ⟨some 36, none, .v fun s => binA prog .add 3 (s.get 16) (.int .i64 1)⟩,
    ⟨some 16, none, .v fun s => some (s.get 36)⟩] K s := (den_reg hf _ K s).trans (by kernel_rfl)
theorem r11_eq (K : List Item) (s : St) : den prog ann 68 (.code r11 :: K) s = mreg prog ann 68 (some []) [] none [] [
    ⟨some 4, none, .v fun s => some (.int .i64 0)⟩] K s := (den_reg hf _ K s).trans (by kernel_rfl)
theorem ret_eq (K : List Item) (s : St) : den prog ann 68 (.code .ret :: K) s = finM true [fun s => some (s.get 4)] s := (den_ret hf K s).trans (by kernel_rfl)
theorem nil_eq (s : St) : den prog ann 68 [] s = finM true [fun s => some (s.get 4)] s := (den_nil hf s).trans (by kernel_rfl)
theorem inBlock_eq (id : Nat) (K : List Item) (s : St) : den prog ann 68 (.inBlock id :: K) s = den prog ann 68 K s := den_inBlock hf id K s
theorem exit_eq (id : Nat) (K : List Item) (s : St) : den prog ann 68 (.code (.exit id) :: K) s = exitV prog ann 68 (exitTo id K) s := den_exitV hf id K s
theorem call_eq (v0 v1 : AV) (m : Mem) (h : closedL [v0, v1] = true) : denC prog ann 68 [v0, v1] m = (den prog ann 68 [.code b] ⟨[(0, v0), (1, v1)], 37, Mem.empty⟩).bind fun r => some (r.1, m) := (denC_pure hf (b := b) (by kernel_rfl) (by kernel_rfl) (by kernel_rfl) h m).trans (by kernel_rfl)
theorem pure_eq : (ann 68).pure = true := by kernel_rfl
attribute [simp] b_eq r0_eq k0_eq r1_eq i0_eq i0t_eq r2_eq i0e_eq r3_eq i1_eq i1t_eq r4_eq i1e_eq r5_eq k1_eq l1_eq r6_eq i2_eq i2t_eq i2e_eq k2_eq r7_eq r8_eq i3_eq i3t_eq r9_eq i3e_eq r10_eq r11_eq ret_eq nil_eq inBlock_eq exit_eq pure_eq
end brand_check

namespace brand_valid
/-- pommel/brand.valid -/
noncomputable def b : Code := (Try.f55.body).getD .skip
theorem hf : prog.funcs[55]? = some Try.f55 := by kernel_rfl
noncomputable def r0 : Code := findReg b 0
noncomputable def r1 : Code := findReg b 1
noncomputable def r2 : Code := findReg b 2
noncomputable def i0 : Code := findCond b 0
noncomputable def i0t : Code := thenOf i0
noncomputable def i0e : Code := elseOf i0
noncomputable def r3 : Code := findReg b 3
noncomputable def r4 : Code := findReg b 4
noncomputable def r5 : Code := findReg b 5
noncomputable def i1 : Code := findCond b 1
noncomputable def i1t : Code := thenOf i1
noncomputable def i1e : Code := elseOf i1
noncomputable def r6 : Code := findReg b 6
noncomputable def r7 : Code := findReg b 7
noncomputable def k0 : Code := findBlk b 0
noncomputable def l0 : Code := loopOf k0
noncomputable def L0 (x3 x4 x35 x36 x37 : AV) (m : Mem) (K : List Item) : Option Res := den prog ann 55 (.code l0 :: .inLoop l0 :: .inBlock 0 :: K) ⟨[(3, x3), (4, x4), (35, x35), (36, x36), (37, x37)], 57, m⟩
noncomputable def r8 : Code := findReg b 8
noncomputable def i2 : Code := findCond b 2
noncomputable def i2t : Code := thenOf i2
noncomputable def i2e : Code := elseOf i2
noncomputable def k1 : Code := findBlk b 1
noncomputable def r9 : Code := findReg b 9
noncomputable def r10 : Code := findReg b 10
noncomputable def i3 : Code := findCond b 3
noncomputable def i3t : Code := thenOf i3
noncomputable def i3e : Code := elseOf i3
noncomputable def r11 : Code := findReg b 11
noncomputable def r12 : Code := findReg b 12
noncomputable def r13 : Code := findReg b 13
theorem b_eq (K : List Item) (s : St) : den prog ann 55 (.code b :: K) s = den prog ann 55 (.code r0 :: .code r1 :: .code r2 :: .code i0 :: .code r4 :: .code r5 :: .code i1 :: .code r7 :: .code k0 :: .code r13 :: .code .ret :: K) s := den_flat hf (l := [r0, r1, r2, i0, r4, r5, i1, r7, k0, r13, .ret]) (by kernel_rfl) K s
theorem r0_eq (K : List Item) (s : St) : den prog ann 55 (.code r0 :: K) s = mreg prog ann 55 none [] none [] [
    ⟨some 1, none, .v fun s => frozenPtr (s.get 0)⟩,
    ⟨some 2, none, .v fun s => some (.bool false)⟩] K s := (den_reg hf _ K s).trans (by kernel_rfl)
theorem r1_eq (K : List Item) (s : St) : den prog ann 55 (.code r1 :: K) s = mreg prog ann 55 none [] none [] [
    ⟨some 7, none, .v fun s => fieldA 0 (s.get 1)⟩,
    ⟨some 8, none, .v fun s => loadF false 1 (s.get 7)⟩,
    ⟨some 9, none, .v fun s => lenSl (s.get 8)⟩,
    ⟨some 3, none, .v fun s => some (s.get 9)⟩] K s := (den_reg hf _ K s).trans (by kernel_rfl)
theorem r2_eq (K : List Item) (s : St) : den prog ann 55 (.code r2 :: K) s = mreg prog ann 55 none [] none [] [
    ⟨some 10, none, .v fun s => some (s.get 3)⟩,
    ⟨some 11, none, .v fun s => binA prog .lss 3 (s.get 10) (.int .i64 1)⟩,
    ⟨some 12, none, .v fun s => some (s.get 11)⟩,
    ⟨some 13, some (12, false), .v fun s => some (s.get 3)⟩,
    ⟨some 14, some (12, false), .v fun s => binA prog .gtr 3 (s.get 13) (.int .i64 6)⟩,
    ⟨some 15, none, .v fun s => pickA (s.get 12) (.bool true) (s.get 14)⟩,
    ⟨some 16, none, .v fun s => some (s.get 15)⟩,
    ⟨some 17, some (16, false), .v fun s => fieldA 1 (s.get 1)⟩,
    ⟨some 18, some (16, false), .v fun s => loadF false 1 (s.get 17)⟩,
    ⟨some 19, some (16, false), .v fun s => lenSl (s.get 18)⟩,
    ⟨some 20, some (16, false), .v fun s => some (s.get 3)⟩,
    ⟨some 21, some (16, false), .v fun s => binA prog .neq 3 (s.get 19) (s.get 20)⟩,
    ⟨some 22, none, .v fun s => pickA (s.get 16) (.bool true) (s.get 21)⟩] K s := (den_reg hf _ K s).trans (by kernel_rfl)
theorem i0_eq (K : List Item) (s : St) : den prog ann 55 (.code i0 :: K) s = ifV prog ann 55 22 i0t i0e K s (s.get 22) := den_if hf (by kernel_rfl) K s
theorem i0t_eq (K : List Item) (s : St) : den prog ann 55 (.code i0t :: K) s = den prog ann 55 (.code r3 :: .code .ret :: K) s := den_flat hf (l := [r3, .ret]) (by kernel_rfl) K s
theorem r3_eq (K : List Item) (s : St) : den prog ann 55 (.code r3 :: K) s = mreg prog ann 55 none [] none [] [
    ⟨some 2, none, .v fun s => some (.bool false)⟩] K s := (den_reg hf _ K s).trans (by kernel_rfl)
theorem i0e_eq (K : List Item) (s : St) : den prog ann 55 (.code i0e :: K) s = den prog ann 55 (K) s := den_flat hf (l := []) (by kernel_rfl) K s
theorem r4_eq (K : List Item) (s : St) : den prog ann 55 (.code r4 :: K) s = mreg prog ann 55 none [] none [] [
    ⟨some 23, none, .v fun s => fieldA 0 (s.get 1)⟩,
    ⟨some 24, none, .v fun s => loadF false 1 (s.get 23)⟩,
    ⟨some 25, none, .v fun s => idxSl 1 (s.get 24) (.int .i64 0)⟩,
    ⟨some 26, none, .v fun s => loadF false 1 (s.get 25)⟩,
    ⟨some 27, none, .v fun s => lenSl (s.get 26)⟩,
    ⟨some 4, none, .v fun s => some (s.get 27)⟩] K s := (den_reg hf _ K s).trans (by kernel_rfl)
theorem r5_eq (K : List Item) (s : St) : den prog ann 55 (.code r5 :: K) s = mreg prog ann 55 none [] none [] [
    ⟨some 28, none, .v fun s => some (s.get 4)⟩,
    ⟨some 29, none, .v fun s => binA prog .lss 3 (s.get 28) (.int .i64 1)⟩,
    ⟨some 30, none, .v fun s => some (s.get 29)⟩,
    ⟨some 31, some (30, false), .v fun s => some (s.get 4)⟩,
    ⟨some 32, some (30, false), .v fun s => binA prog .gtr 3 (s.get 31) (.int .i64 3)⟩,
    ⟨some 33, none, .v fun s => pickA (s.get 30) (.bool true) (s.get 32)⟩] K s := (den_reg hf _ K s).trans (by kernel_rfl)
theorem i1_eq (K : List Item) (s : St) : den prog ann 55 (.code i1 :: K) s = ifV prog ann 55 33 i1t i1e K s (s.get 33) := den_if hf (by kernel_rfl) K s
theorem i1t_eq (K : List Item) (s : St) : den prog ann 55 (.code i1t :: K) s = den prog ann 55 (.code r6 :: .code .ret :: K) s := den_flat hf (l := [r6, .ret]) (by kernel_rfl) K s
theorem r6_eq (K : List Item) (s : St) : den prog ann 55 (.code r6 :: K) s = mreg prog ann 55 none [] none [] [
    ⟨some 2, none, .v fun s => some (.bool false)⟩] K s := (den_reg hf _ K s).trans (by kernel_rfl)
theorem i1e_eq (K : List Item) (s : St) : den prog ann 55 (.code i1e :: K) s = den prog ann 55 (K) s := den_flat hf (l := []) (by kernel_rfl) K s
theorem r7_eq (K : List Item) (s : St) : den prog ann 55 (.code r7 :: K) s = mreg prog ann 55 none [] none [] [
    ⟨some 34, none, .v fun s => fieldA 0 (s.get 1)⟩,
    ⟨some 35, none, .v fun s => loadF false 1 (s.get 34)⟩,
    ⟨some 36, none, .v fun s => lenSl (s.get 35)⟩,
    ⟨some 37, none, .v fun s => some (.int .i64 0)⟩] K s := (den_reg hf _ K s).trans (by kernel_rfl)
theorem k0_eq (K : List Item) (t : List (Nat × AV)) (m : Mem) : den prog ann 55 (.code k0 :: K) ⟨t, 57, m⟩ = L0 (get t 3) (get t 4) (get t 35) (get t 36) (get t 37) m K := den_loop_enter hf (b := l0) (id := 8) (l := [3, 4, 35, 36, 37]) (by kernel_rfl) (by kernel_rfl) (by kernel_rfl) K _
theorem l0_eq (K : List Item) (t : List (Nat × AV)) (m : Mem) : den prog ann 55 (.inLoop l0 :: .inBlock 0 :: K) ⟨t, 57, m⟩ = L0 (get t 3) (get t 4) (get t 35) (get t 36) (get t 37) m K := den_loop_again hf (id := 8) (l := [3, 4, 35, 36, 37]) (by kernel_rfl) (by kernel_rfl) (.inBlock 0 :: K) _
theorem L0_eq (x3 x4 x35 x36 x37 : AV) (m : Mem) (K : List Item) : L0 x3 x4 x35 x36 x37 m K = den prog ann 55 (.code r8 :: .code i2 :: .code k1 :: .code r12 :: .inLoop l0 :: .inBlock 0 :: K) ⟨[(3, x3), (4, x4), (35, x35), (36, x36), (37, x37)], 57, m⟩ := den_flat hf (l := [r8, i2, k1, r12]) (by kernel_rfl) _ _
theorem r8_eq (K : List Item) (s : St) : den prog ann 55 (.code r8 :: K) s = mreg prog ann 55 (some [3, 4, 35, 36, 37]) [] none [] [
    ⟨some 38, none, .v fun s => binA prog .lss 3 (s.get 37) (s.get 36)⟩] K s := (den_reg hf _ K s).trans (by kernel_rfl)
theorem i2_eq (K : List Item) (s : St) : den prog ann 55 (.code i2 :: K) s = ifV prog ann 55 38 i2t i2e K s (s.get 38) := den_if hf (by kernel_rfl) K s
theorem i2t_eq (K : List Item) (s : St) : den prog ann 55 (.code i2t :: K) s = den prog ann 55 (K) s := den_flat hf (l := []) (by kernel_rfl) K s
theorem i2e_eq (K : List Item) (s : St) : den prog ann 55 (.code i2e :: K) s = den prog ann 55 (.code (.exit 0) :: K) s := den_flat hf (l := [(.exit 0)]) (by kernel_rfl) K s
theorem k1_eq (K : List Item) (s : St) : den prog ann 55 (.code k1 :: K) s = den prog ann 55 (.code r9 :: .code r10 :: .code i3 :: .inBlock 1 :: K) s := den_blk hf (b := blkOf k1) (l := [r9, r10, i3]) (by kernel_rfl) (by kernel_rfl) K s
theorem r9_eq (K : List Item) (s : St) : den prog ann 55 (.code r9 :: K) s = mreg prog ann 55 none [] none [] [
    ⟨some 39, none, .v fun s => idxSl 1 (s.get 35) (s.get 37)⟩,
    ⟨some 40, none, .v fun s => loadF false 1 (s.get 39)⟩,
    ⟨some 6, none, .v fun s => some (s.get 40)⟩] K s := (den_reg hf _ K s).trans (by kernel_rfl)
theorem r10_eq (K : List Item) (s : St) : den prog ann 55 (.code r10 :: K) s = mreg prog ann 55 none [] none [] [
    ⟨some 41, none, .v fun s => some (s.get 6)⟩,
    ⟨some 42, none, .v fun s => lenSl (s.get 41)⟩,
    ⟨some 43, none, .v fun s => some (s.get 4)⟩,
    ⟨some 44, none, .v fun s => binA prog .neq 3 (s.get 42) (s.get 43)⟩,
    ⟨some 45, none, .v fun s => some (s.get 44)⟩,
    ⟨some 46, some (45, false), .v fun s => some (s.get 6)⟩,
    ⟨some 47, some (45, false), .c 0 (fun s => (.fn 78 [] [])) fun s => [(s.get 46)]⟩,
    ⟨some 48, some (45, false), .v fun s => binA prog .lss 3 (s.get 47) (.int .i64 0)⟩,
    ⟨some 49, none, .v fun s => pickA (s.get 45) (.bool true) (s.get 48)⟩,
    ⟨some 50, none, .v fun s => some (s.get 49)⟩,
    ⟨some 51, some (50, false), .v fun s => some (s.get 6)⟩,
    ⟨some 52, some (50, false), .c 0 (fun s => (.fn 79 [] [])) fun s => [(s.get 51)]⟩,
    ⟨some 53, some (50, false), .v fun s => some (s.get 3)⟩,
    ⟨some 54, some (50, false), .v fun s => binA prog .geq 3 (s.get 52) (s.get 53)⟩,
    ⟨some 55, none, .v fun s => pickA (s.get 50) (.bool true) (s.get 54)⟩] K s := (den_reg hf _ K s).trans (by kernel_rfl)
theorem i3_eq (K : List Item) (s : St) : den prog ann 55 (.code i3 :: K) s = ifV prog ann 55 55 i3t i3e K s (s.get 55) := den_if hf (by kernel_rfl) K s
theorem i3t_eq (K : List Item) (s : St) : den prog ann 55 (.code i3t :: K) s = den prog ann 55 (.code r11 :: .code .ret :: K) s := den_flat hf (l := [r11, .ret]) (by kernel_rfl) K s
theorem r11_eq (K : List Item) (s : St) : den prog ann 55 (.code r11 :: K) s = mreg prog ann 55 none [] none [] [
    ⟨some 2, none, .v fun s => some (.bool false)⟩] K s := (den_reg hf _ K s).trans (by kernel_rfl)
theorem i3e_eq (K : List Item) (s : St) : den prog ann 55 (.code i3e :: K) s = den prog ann 55 (K) s := den_flat hf (l := []) (by kernel_rfl) K s
theorem r12_eq (K : List Item) (s : St) : den prog ann 55 (.code r12 :: K) s = mreg prog ann 55 (some [3, 4, 35, 36, 37]) [] none [] [
    ⟨some 56, none, .v fun s => binA prog .add 3 (s.get 37) (.int .i64 1)⟩,
    ⟨some 37, none, .v fun s => some (s.get 56)⟩] K s := (den_reg hf _ K s).trans (by kernel_rfl)
theorem r13_eq (K : List Item) (s : St) : den prog ann 55 (.code r13 :: K) s = mreg prog ann 55 (some []) [] none [] [
    ⟨some 2, none, .v fun s => some (.bool true)⟩] K s := (den_reg hf _ K s).trans (by kernel_rfl)
theorem ret_eq (K : List Item) (s : St) : den prog ann 55 (.code .ret :: K) s = finM true [fun s => some (s.get 2)] s := (den_ret hf K s).trans (by kernel_rfl)
theorem nil_eq (s : St) : den prog ann 55 [] s = finM true [fun s => some (s.get 2)] s := (den_nil hf s).trans (by kernel_rfl)
theorem inBlock_eq (id : Nat) (K : List Item) (s : St) : den prog ann 55 (.inBlock id :: K) s = den prog ann 55 K s := den_inBlock hf id K s
theorem exit_eq (id : Nat) (K : List Item) (s : St) : den prog ann 55 (.code (.exit id) :: K) s = exitV prog ann 55 (exitTo id K) s := den_exitV hf id K s
theorem call_eq (v0 : AV) (m : Mem) (h : closedL [v0] = true) : denC prog ann 55 [v0] m = (den prog ann 55 [.code b] ⟨[(0, v0)], 57, Mem.empty⟩).bind fun r => some (r.1, m) := (denC_pure hf (b := b) (by kernel_rfl) (by kernel_rfl) (by kernel_rfl) h m).trans (by kernel_rfl)
theorem pure_eq : (ann 55).pure = true := by kernel_rfl
attribute [simp] b_eq r0_eq r1_eq r2_eq i0_eq i0t_eq r3_eq i0e_eq r4_eq r5_eq i1_eq i1t_eq r6_eq i1e_eq r7_eq k0_eq l0_eq r8_eq i2_eq i2t_eq i2e_eq k1_eq r9_eq r10_eq i3_eq i3t_eq r11_eq i3e_eq r12_eq r13_eq ret_eq nil_eq inBlock_eq exit_eq pure_eq
end brand_valid

namespace brand_after
/-- pommel/brand.after -/
noncomputable def b : Code := (Try.f69.body).getD .skip
theorem hf : prog.funcs[69]? = some Try.f69 := by kernel_rfl
noncomputable def r0 : Code := findReg b 0
noncomputable def r1 : Code := findReg b 1
noncomputable def k0 : Code := findBlk b 0
noncomputable def l0 : Code := loopOf k0
noncomputable def L0 (x1 x2 x3 x9 x10 : AV) (m : Mem) (K : List Item) : Option Res := den prog ann 69 (.code l0 :: .inLoop l0 :: .inBlock 0 :: K) ⟨[(1, x1), (2, x2), (3, x3), (9, x9), (10, x10)], 26, m⟩
noncomputable def r2 : Code := findReg b 2
noncomputable def i0 : Code := findCond b 0
noncomputable def i0t : Code := thenOf i0
noncomputable def i0e : Code := elseOf i0
noncomputable def k1 : Code := findBlk b 1
noncomputable def r3 : Code := findReg b 3
noncomputable def r4 : Code := findReg b 4
noncomputable def r5 : Code := findReg b 5
noncomputable def r6 : Code := findReg b 6
theorem b_eq (K : List Item) (s : St) : den prog ann 69 (.code b :: K) s = den prog ann 69 (.code r0 :: .code r1 :: .code k0 :: .code r6 :: .code .ret :: K) s := den_flat hf (l := [r0, r1, k0, r6, .ret]) (by kernel_rfl) K s
theorem r0_eq (K : List Item) (s : St) : den prog ann 69 (.code r0 :: K) s = mreg prog ann 69 none [] none [] [
    ⟨some 3, none, .v fun s => frozenPtr (s.get 0)⟩,
    ⟨some 6, none, .v fun s => some (.int .i64 0)⟩] K s := (den_reg hf _ K s).trans (by kernel_rfl)
theorem r1_eq (K : List Item) (s : St) : den prog ann 69 (.code r1 :: K) s = mreg prog ann 69 none [] none [] [
    ⟨some 8, none, .v fun s => some (s.get 2)⟩,
    ⟨some 9, none, .v fun s => lenStr (s.get 8)⟩,
    ⟨some 10, none, .v fun s => some (.int .i64 0)⟩] K s := (den_reg hf _ K s).trans (by kernel_rfl)
theorem k0_eq (K : List Item) (t : List (Nat × AV)) (m : Mem) : den prog ann 69 (.code k0 :: K) ⟨t, 26, m⟩ = L0 (get t 1) (get t 2) (get t 3) (get t 9) (get t 10) m K := den_loop_enter hf (b := l0) (id := 2) (l := [1, 2, 3, 9, 10]) (by kernel_rfl) (by kernel_rfl) (by kernel_rfl) K _
theorem l0_eq (K : List Item) (t : List (Nat × AV)) (m : Mem) : den prog ann 69 (.inLoop l0 :: .inBlock 0 :: K) ⟨t, 26, m⟩ = L0 (get t 1) (get t 2) (get t 3) (get t 9) (get t 10) m K := den_loop_again hf (id := 2) (l := [1, 2, 3, 9, 10]) (by kernel_rfl) (by kernel_rfl) (.inBlock 0 :: K) _
theorem L0_eq (x1 x2 x3 x9 x10 : AV) (m : Mem) (K : List Item) : L0 x1 x2 x3 x9 x10 m K = den prog ann 69 (.code r2 :: .code i0 :: .code k1 :: .code r5 :: .inLoop l0 :: .inBlock 0 :: K) ⟨[(1, x1), (2, x2), (3, x3), (9, x9), (10, x10)], 26, m⟩ := den_flat hf (l := [r2, i0, k1, r5]) (by kernel_rfl) _ _
theorem r2_eq (K : List Item) (s : St) : den prog ann 69 (.code r2 :: K) s = mreg prog ann 69 (some [1, 2, 3, 9, 10]) [] none [] [
    ⟨some 11, none, .v fun s => binA prog .lss 3 (s.get 10) (s.get 9)⟩] K s := (den_reg hf _ K s).trans (by kernel_rfl)
theorem i0_eq (K : List Item) (s : St) : den prog ann 69 (.code i0 :: K) s = ifV prog ann 69 11 i0t i0e K s (s.get 11) := den_if hf (by kernel_rfl) K s
theorem i0t_eq (K : List Item) (s : St) : den prog ann 69 (.code i0t :: K) s = den prog ann 69 (K) s := den_flat hf (l := []) (by kernel_rfl) K s
theorem i0e_eq (K : List Item) (s : St) : den prog ann 69 (.code i0e :: K) s = den prog ann 69 (.code (.exit 0) :: K) s := den_flat hf (l := [(.exit 0)]) (by kernel_rfl) K s
theorem k1_eq (K : List Item) (s : St) : den prog ann 69 (.code k1 :: K) s = den prog ann 69 (.code r3 :: .code r4 :: .inBlock 1 :: K) s := den_blk hf (b := blkOf k1) (l := [r3, r4]) (by kernel_rfl) (by kernel_rfl) K s
theorem r3_eq (K : List Item) (s : St) : den prog ann 69 (.code r3 :: K) s = mreg prog ann 69 none [] none [] [
    ⟨some 12, none, .v fun s => some (s.get 10)⟩,
    ⟨some 7, none, .v fun s => some (s.get 12)⟩] K s := (den_reg hf _ K s).trans (by kernel_rfl)
theorem r4_draw : drawOk (fun g => (ann g).pure) (modeOf (ann 69) (idOf r4)) (frzOf (ann 69) (idOf r4)) (opsOf r4) = true := drawOk_of (an := [0, 1, 0, 7, 15, 0, 0, 96, 224, 511, 1023, 2047]) (by kernel_rfl) (by kernel_rfl)
theorem r4_eq (K : List Item) (s : St) : den prog ann 69 (.code r4 :: K) s = mreg prog ann 69 none [] (some 12) [] [
    ⟨some 13, none, .v fun s => fieldA 0 (s.get 3)⟩,
    ⟨some 14, none, .v fun s => loadF false 1 (s.get 13)⟩,
    ⟨some 15, none, .v fun s => some (s.get 1)⟩,
    ⟨some 16, none, .v fun s => idxSl 1 (s.get 14) (s.get 15)⟩,
    ⟨some 17, none, .v fun s => loadF false 1 (s.get 16)⟩,
    ⟨some 18, none, .v fun s => some (s.get 2)⟩,
    ⟨some 19, none, .v fun s => some (s.get 7)⟩,
    ⟨some 20, none, .v fun s => idxStr (s.get 18) (s.get 19)⟩,
    ⟨some 21, none, .v fun s => binA prog .sub 5 (s.get 20) (.int .u8 97)⟩,
    ⟨some 22, none, .v fun s => idxSl 1 (s.get 17) (s.get 21)⟩,
    ⟨some 23, none, .v fun s => loadF false 1 (s.get 22)⟩,
    ⟨some 1, none, .v fun s => some (s.get 23)⟩] K s := (den_regD hf r4_draw K s).trans (by kernel_rfl)
theorem r5_eq (K : List Item) (s : St) : den prog ann 69 (.code r5 :: K) s = mreg prog ann 69 (some [1, 2, 3, 9, 10]) [] none [] [
    ⟨some 24, none, .v fun s => binA prog .add 3 (s.get 10) (.int .i64 1)⟩,
    ⟨some 10, none, .v fun s => some (s.get 24)⟩] K s := (den_reg hf _ K s).trans (by kernel_rfl)
theorem r6_eq (K : List Item) (s : St) : den prog ann 69 (.code r6 :: K) s = mreg prog ann 69 (some [1]) [] none [] [
    ⟨some 25, none, .v fun s => some (s.get 1)⟩,
    ⟨some 6, none, .v fun s => some (s.get 25)⟩] K s := (den_reg hf _ K s).trans (by kernel_rfl)
theorem ret_eq (K : List Item) (s : St) : den prog ann 69 (.code .ret :: K) s = finM true [fun s => some (s.get 6)] s := (den_ret hf K s).trans (by kernel_rfl)
theorem nil_eq (s : St) : den prog ann 69 [] s = finM true [fun s => some (s.get 6)] s := (den_nil hf s).trans (by kernel_rfl)
theorem inBlock_eq (id : Nat) (K : List Item) (s : St) : den prog ann 69 (.inBlock id :: K) s = den prog ann 69 K s := den_inBlock hf id K s
theorem exit_eq (id : Nat) (K : List Item) (s : St) : den prog ann 69 (.code (.exit id) :: K) s = exitV prog ann 69 (exitTo id K) s := den_exitV hf id K s
theorem call_eq (v0 v1 v2 : AV) (m : Mem) (h : closedL [v0, v1, v2] = true) : denC prog ann 69 [v0, v1, v2] m = (den prog ann 69 [.code b] ⟨[(0, v0), (1, v1), (2, v2)], 26, Mem.empty⟩).bind fun r => some (r.1, m) := (denC_pure hf (b := b) (by kernel_rfl) (by kernel_rfl) (by kernel_rfl) h m).trans (by kernel_rfl)
theorem pure_eq : (ann 69).pure = true := by kernel_rfl
attribute [simp] b_eq r0_eq r1_eq k0_eq l0_eq r2_eq i0_eq i0t_eq i0e_eq k1_eq r3_eq r4_eq r5_eq r6_eq ret_eq nil_eq inBlock_eq exit_eq pure_eq
end brand_after

namespace slices_Min_int
/-- slices.Minintint -/
noncomputable def b : Code := (Try.f78.body).getD .skip
theorem hf : prog.funcs[78]? = some Try.f78 := by kernel_rfl
noncomputable def r0 : Code := findReg b 0
noncomputable def r1 : Code := findReg b 1
noncomputable def i0 : Code := findCond b 0
noncomputable def i0t : Code := thenOf i0
noncomputable def i0e : Code := elseOf i0
noncomputable def r2 : Code := findReg b 2
noncomputable def r3 : Code := findReg b 3
noncomputable def r4 : Code := findReg b 4
noncomputable def k0 : Code := findBlk b 0
noncomputable def l0 : Code := loopOf k0
noncomputable def L0 (x0 x3 x4 : AV) (m : Mem) (K : List Item) : Option Res := den prog ann 78 (.code l0 :: .inLoop l0 :: .inBlock 0 :: K) ⟨[(0, x0), (3, x3), (4, x4)], 25, m⟩
noncomputable def r5 : Code := findReg b 5
noncomputable def i1 : Code := findCond b 1
noncomputable def i1t : Code := thenOf i1
noncomputable def i1e : Code := elseOf i1
noncomputable def k1 : Code := findBlk b 1
noncomputable def r7 : Code := findReg b 7
noncomputable def r6 : Code := findReg b 6
noncomputable def r8 : Code := findReg b 8
theorem b_eq (K : List Item) (s : St) : den prog ann 78 (.code b :: K) s = den prog ann 78 (.code r0 :: .code r1 :: .code i0 :: .code r3 :: .code r4 :: .code k0 :: .code r8 :: .code .ret :: K) s := den_flat hf (l := [r0, r1, i0, r3, r4, k0, r8, .ret]) (by kernel_rfl) K s
theorem r0_eq (K : List Item) (s : St) : den prog ann 78 (.code r0 :: K) s = mreg prog ann 78 none [] none [] [
    ⟨some 2, none, .v fun s => some (.int .i64 0)⟩] K s := (den_reg hf _ K s).trans (by kernel_rfl)
theorem r1_eq (K : List Item) (s : St) : den prog ann 78 (.code r1 :: K) s = mreg prog ann 78 none [] none [] [
    ⟨some 5, none, .v fun s => some (s.get 0)⟩,
    ⟨some 6, none, .v fun s => lenSl (s.get 5)⟩,
    ⟨some 7, none, .v fun s => binA prog .lss 3 (s.get 6) (.int .i64 1)⟩] K s := (den_reg hf _ K s).trans (by kernel_rfl)
theorem i0_eq (K : List Item) (s : St) : den prog ann 78 (.code i0 :: K) s = ifV prog ann 78 7 i0t i0e K s (s.get 7) := den_if hf (by kernel_rfl) K s
theorem i0t_eq (K : List Item) (s : St) : den prog ann 78 (.code i0t :: K) s = den prog ann 78 (.code r2 :: K) s := den_flat hf (l := [r2]) (by kernel_rfl) K s
-- not covered: r2, operation 1
theorem i0e_eq (K : List Item) (s : St) : den prog ann 78 (.code i0e :: K) s = den prog ann 78 (K) s := den_flat hf (l := []) (by kernel_rfl) K s
theorem r3_eq (K : List Item) (s : St) : den prog ann 78 (.code r3 :: K) s = mreg prog ann 78 (some [0]) [] none [] [
    ⟨some 9, none, .v fun s => some (s.get 0)⟩,
    ⟨some 10, none, .v fun s => idxSl 1 (s.get 9) (.int .i64 0)⟩,
    ⟨some 11, none, .v fun s => loadF false 1 (s.get 10)⟩,
    ⟨some 3, none, .v fun s => some (s.get 11)⟩] K s := (den_reg hf _ K s).trans (by kernel_rfl)
theorem r4_eq (K : List Item) (s : St) : den prog ann 78 (.code r4 :: K) s = mreg prog ann 78 none [] none [] [
    ⟨some 4, none, .v fun s => some (.int .i64 1)⟩] K s := (den_reg hf _ K s).trans (by kernel_rfl)
theorem k0_eq (K : List Item) (t : List (Nat × AV)) (m : Mem) : den prog ann 78 (.code k0 :: K) ⟨t, 25, m⟩ = L0 (get t 0) (get t 3) (get t 4) m K := den_loop_enter hf (b := l0) (id := 5) (l := [0, 3, 4]) (by kernel_rfl) (by kernel_rfl) (by kernel_rfl) K _
theorem l0_eq (K : List Item) (t : List (Nat × AV)) (m : Mem) : den prog ann 78 (.inLoop l0 :: .inBlock 0 :: K) ⟨t, 25, m⟩ = L0 (get t 0) (get t 3) (get t 4) m K := den_loop_again hf (id := 5) (l := [0, 3, 4]) (by kernel_rfl) (by kernel_rfl) (.inBlock 0 :: K) _
theorem L0_eq (x0 x3 x4 : AV) (m : Mem) (K : List Item) : L0 x0 x3 x4 m K = den prog ann 78 (.code r5 :: .code i1 :: .code k1 :: .code r6 :: .inLoop l0 :: .inBlock 0 :: K) ⟨[(0, x0), (3, x3), (4, x4)], 25, m⟩ := den_flat hf (l := [r5, i1, k1, r6]) (by kernel_rfl) _ _
theorem r5_eq (K : List Item) (s : St) : den prog ann 78 (.code r5 :: K) s = mreg prog ann 78 (some [0, 3, 4]) [] none [] [
    ⟨some 12, none, .v fun s => some (s.get 4)⟩,
    ⟨some 13, none, .v fun s => some (s.get 0)⟩,
    ⟨some 14, none, .v fun s => lenSl (s.get 13)⟩,
    ⟨some 15, none, .v fun s => binA prog .lss 3 (s.get 12) (s.get 14)⟩] K s := (den_reg hf _ K s).trans (by kernel_rfl)
theorem i1_eq (K : List Item) (s : St) : den prog ann 78 (.code i1 :: K) s = ifV prog ann 78 15 i1t i1e K s (s.get 15) := den_if hf (by kernel_rfl) K s
theorem i1t_eq (K : List Item) (s : St) : den prog ann 78 (.code i1t :: K) s = den prog ann 78 (K) s := den_flat hf (l := []) (by kernel_rfl) K s
theorem i1e_eq (K : List Item) (s : St) : den prog ann 78 (.code i1e :: K) s = den prog ann 78 (.code (.exit 0) :: K) s := den_flat hf (l := [(.exit 0)]) (by kernel_rfl) K s
theorem k1_eq (K : List Item) (s : St) : den prog ann 78 (.code k1 :: K) s = den prog ann 78 (.code r7 :: .inBlock 1 :: K) s := den_blk hf (b := blkOf k1) (l := [r7]) (by kernel_rfl) (by kernel_rfl) K s
theorem r7_eq (K : List Item) (s : St) : den prog ann 78 (.code r7 :: K) s = mreg prog ann 78 none [] none [] [
    ⟨some 18, none, .v fun s => some (s.get 3)⟩,
    ⟨some 19, none, .v fun s => some (s.get 0)⟩,
    ⟨some 20, none, .v fun s => some (s.get 4)⟩,
    ⟨some 21, none, .v fun s => idxSl 1 (s.get 19) (s.get 20)⟩,
    ⟨some 22, none, .v fun s => loadF false 1 (s.get 21)⟩,
    ⟨some 23, none, .v fun s => foldA min2A (s.get 18) [(s.get 22)]⟩,
    ⟨some 3, none, .v fun s => some (s.get 23)⟩] K s := (den_reg hf _ K s).trans (by kernel_rfl)
theorem r6_eq (K : List Item) (s : St) : den prog ann 78 (.code r6 :: K) s = mreg prog ann 78 (some [0, 3, 4]) [] none [] [
    ⟨some 16, none, .v fun s => some (s.get 4)⟩,
    ⟨some 17, none, .v fun s => binA prog .add 3 (s.get 16) (.int .i64 1)⟩,
    ⟨some 4, none, .v fun s => some (s.get 17)⟩] K s := (den_reg hf _ K s).trans (by kernel_rfl)
theorem r8_eq (K : List Item) (s : St) : den prog ann 78 (.code r8 :: K) s = mreg prog ann 78 (some [3]) [] none [] [
    ⟨some 24, none, .v fun s => some (s.get 3)⟩,
    ⟨some 2, none, .v fun s => some (s.get 24)⟩] K s := (den_reg hf _ K s).trans (by kernel_rfl)
theorem ret_eq (K : List Item) (s : St) : den prog ann 78 (.code .ret :: K) s = finM true [fun s => some (s.get 2)] s := (den_ret hf K s).trans (by kernel_rfl)
theorem nil_eq (s : St) : den prog ann 78 [] s = finM true [fun s => some (s.get 2)] s := (den_nil hf s).trans (by kernel_rfl)
theorem inBlock_eq (id : Nat) (K : List Item) (s : St) : den prog ann 78 (.inBlock id :: K) s = den prog ann 78 K s := den_inBlock hf id K s
theorem exit_eq (id : Nat) (K : List Item) (s : St) : den prog ann 78 (.code (.exit id) :: K) s = exitV prog ann 78 (exitTo id K) s := den_exitV hf id K s
theorem call_eq (v0 : AV) (m : Mem) (h : closedL [v0] = true) : denC prog ann 78 [v0] m = (den prog ann 78 [.code b] ⟨[(0, v0)], 25, Mem.empty⟩).bind fun r => some (r.1, m) := (denC_pure hf (b := b) (by kernel_rfl) (by kernel_rfl) (by kernel_rfl) h m).trans (by kernel_rfl)
theorem pure_eq : (ann 78).pure = true := by kernel_rfl
attribute [simp] b_eq r0_eq r1_eq i0_eq i0t_eq i0e_eq r3_eq r4_eq k0_eq l0_eq r5_eq i1_eq i1t_eq i1e_eq k1_eq r7_eq r6_eq r8_eq ret_eq nil_eq inBlock_eq exit_eq pure_eq
end slices_Min_int

namespace slices_Max_int
/-- slices.Maxintint -/
noncomputable def b : Code := (Try.f79.body).getD .skip
theorem hf : prog.funcs[79]? = some Try.f79 := by kernel_rfl
noncomputable def r0 : Code := findReg b 0
noncomputable def r1 : Code := findReg b 1
noncomputable def i0 : Code := findCond b 0
noncomputable def i0t : Code := thenOf i0
noncomputable def i0e : Code := elseOf i0
noncomputable def r2 : Code := findReg b 2
noncomputable def r3 : Code := findReg b 3
noncomputable def r4 : Code := findReg b 4
noncomputable def k0 : Code := findBlk b 0
noncomputable def l0 : Code := loopOf k0
noncomputable def L0 (x0 x3 x4 : AV) (m : Mem) (K : List Item) : Option Res := den prog ann 79 (.code l0 :: .inLoop l0 :: .inBlock 0 :: K) ⟨[(0, x0), (3, x3), (4, x4)], 25, m⟩
noncomputable def r5 : Code := findReg b 5
noncomputable def i1 : Code := findCond b 1
noncomputable def i1t : Code := thenOf i1
noncomputable def i1e : Code := elseOf i1
noncomputable def k1 : Code := findBlk b 1
noncomputable def r7 : Code := findReg b 7
noncomputable def r6 : Code := findReg b 6
noncomputable def r8 : Code := findReg b 8
theorem b_eq (K : List Item) (s : St) : den prog ann 79 (.code b :: K) s = den prog ann 79 (.code r0 :: .code r1 :: .code i0 :: .code r3 :: .code r4 :: .code k0 :: .code r8 :: .code .ret :: K) s := den_flat hf (l := [r0, r1, i0, r3, r4, k0, r8, .ret]) (by kernel_rfl) K s
theorem r0_eq (K : List Item) (s : St) : den prog ann 79 (.code r0 :: K) s = mreg prog ann 79 none [] none [] [
    ⟨some 2, none, .v fun s => some (.int .i64 0)⟩] K s := (den_reg hf _ K s).trans (by kernel_rfl)
theorem r1_eq (K : List Item) (s : St) : den prog ann 79 (.code r1 :: K) s = mreg prog ann 79 none [] none [] [
    ⟨some 5, none, .v fun s => some (s.get 0)⟩,
    ⟨some 6, none, .v fun s => lenSl (s.get 5)⟩,
    ⟨some 7, none, .v fun s => binA prog .lss 3 (s.get 6) (.int .i64 1)⟩] K s := (den_reg hf _ K s).trans (by kernel_rfl)
theorem i0_eq (K : List Item) (s : St) : den prog ann 79 (.code i0 :: K) s = ifV prog ann 79 7 i0t i0e K s (s.get 7) := den_if hf (by kernel_rfl) K s
theorem i0t_eq (K : List Item) (s : St) : den prog ann 79 (.code i0t :: K) s = den prog ann 79 (.code r2 :: K) s := den_flat hf (l := [r2]) (by kernel_rfl) K s
-- not covered: r2, operation 1
theorem i0e_eq (K : List Item) (s : St) : den prog ann 79 (.code i0e :: K) s = den prog ann 79 (K) s := den_flat hf (l := []) (by kernel_rfl) K s
theorem r3_eq (K : List Item) (s : St) : den prog ann 79 (.code r3 :: K) s = mreg prog ann 79 (some [0]) [] none [] [
    ⟨some 9, none, .v fun s => some (s.get 0)⟩,
    ⟨some 10, none, .v fun s => idxSl 1 (s.get 9) (.int .i64 0)⟩,
    ⟨some 11, none, .v fun s => loadF false 1 (s.get 10)⟩,
    ⟨some 3, none, .v fun s => some (s.get 11)⟩] K s := (den_reg hf _ K s).trans (by kernel_rfl)
theorem r4_eq (K : List Item) (s : St) : den prog ann 79 (.code r4 :: K) s = mreg prog ann 79 none [] none [] [
    ⟨some 4, none, .v fun s => some (.int .i64 1)⟩] K s := (den_reg hf _ K s).trans (by kernel_rfl)
theorem k0_eq (K : List Item) (t : List (Nat × AV)) (m : Mem) : den prog ann 79 (.code k0 :: K) ⟨t, 25, m⟩ = L0 (get t 0) (get t 3) (get t 4) m K := den_loop_enter hf (b := l0) (id := 5) (l := [0, 3, 4]) (by kernel_rfl) (by kernel_rfl) (by kernel_rfl) K _
theorem l0_eq (K : List Item) (t : List (Nat × AV)) (m : Mem) : den prog ann 79 (.inLoop l0 :: .inBlock 0 :: K) ⟨t, 25, m⟩ = L0 (get t 0) (get t 3) (get t 4) m K := den_loop_again hf (id := 5) (l := [0, 3, 4]) (by kernel_rfl) (by kernel_rfl) (.inBlock 0 :: K) _
theorem L0_eq (x0 x3 x4 : AV) (m : Mem) (K : List Item) : L0 x0 x3 x4 m K = den prog ann 79 (.code r5 :: .code i1 :: .code k1 :: .code r6 :: .inLoop l0 :: .inBlock 0 :: K) ⟨[(0, x0), (3, x3), (4, x4)], 25, m⟩ := den_flat hf (l := [r5, i1, k1, r6]) (by kernel_rfl) _ _
theorem r5_eq (K : List Item) (s : St) : den prog ann 79 (.code r5 :: K) s = mreg prog ann 79 (some [0, 3, 4]) [] none [] [
    ⟨some 12, none, .v fun s => some (s.get 4)⟩,
    ⟨some 13, none, .v fun s => some (s.get 0)⟩,
    ⟨some 14, none, .v fun s => lenSl (s.get 13)⟩,
    ⟨some 15, none, .v fun s => binA prog .lss 3 (s.get 12) (s.get 14)⟩] K s := (den_reg hf _ K s).trans (by kernel_rfl)
theorem i1_eq (K : List Item) (s : St) : den prog ann 79 (.code i1 :: K) s = ifV prog ann 79 15 i1t i1e K s (s.get 15) := den_if hf (by kernel_rfl) K s
theorem i1t_eq (K : List Item) (s : St) : den prog ann 79 (.code i1t :: K) s = den prog ann 79 (K) s := den_flat hf (l := []) (by kernel_rfl) K s
theorem i1e_eq (K : List Item) (s : St) : den prog ann 79 (.code i1e :: K) s = den prog ann 79 (.code (.exit 0) :: K) s := den_flat hf (l := [(.exit 0)]) (by kernel_rfl) K s
theorem k1_eq (K : List Item) (s : St) : den prog ann 79 (.code k1 :: K) s = den prog ann 79 (.code r7 :: .inBlock 1 :: K) s := den_blk hf (b := blkOf k1) (l := [r7]) (by kernel_rfl) (by kernel_rfl) K s
theorem r7_eq (K : List Item) (s : St) : den prog ann 79 (.code r7 :: K) s = mreg prog ann 79 none [] none [] [
    ⟨some 18, none, .v fun s => some (s.get 3)⟩,
    ⟨some 19, none, .v fun s => some (s.get 0)⟩,
    ⟨some 20, none, .v fun s => some (s.get 4)⟩,
    ⟨some 21, none, .v fun s => idxSl 1 (s.get 19) (s.get 20)⟩,
    ⟨some 22, none, .v fun s => loadF false 1 (s.get 21)⟩,
    ⟨some 23, none, .v fun s => foldA max2A (s.get 18) [(s.get 22)]⟩,
    ⟨some 3, none, .v fun s => some (s.get 23)⟩] K s := (den_reg hf _ K s).trans (by kernel_rfl)
theorem r6_eq (K : List Item) (s : St) : den prog ann 79 (.code r6 :: K) s = mreg prog ann 79 (some [0, 3, 4]) [] none [] [
    ⟨some 16, none, .v fun s => some (s.get 4)⟩,
    ⟨some 17, none, .v fun s => binA prog .add 3 (s.get 16) (.int .i64 1)⟩,
    ⟨some 4, none, .v fun s => some (s.get 17)⟩] K s := (den_reg hf _ K s).trans (by kernel_rfl)
theorem r8_eq (K : List Item) (s : St) : den prog ann 79 (.code r8 :: K) s = mreg prog ann 79 (some [3]) [] none [] [
    ⟨some 24, none, .v fun s => some (s.get 3)⟩,
    ⟨some 2, none, .v fun s => some (s.get 24)⟩] K s := (den_reg hf _ K s).trans (by kernel_rfl)
theorem ret_eq (K : List Item) (s : St) : den prog ann 79 (.code .ret :: K) s = finM true [fun s => some (s.get 2)] s := (den_ret hf K s).trans (by kernel_rfl)
theorem nil_eq (s : St) : den prog ann 79 [] s = finM true [fun s => some (s.get 2)] s := (den_nil hf s).trans (by kernel_rfl)
theorem inBlock_eq (id : Nat) (K : List Item) (s : St) : den prog ann 79 (.inBlock id :: K) s = den prog ann 79 K s := den_inBlock hf id K s
theorem exit_eq (id : Nat) (K : List Item) (s : St) : den prog ann 79 (.code (.exit id) :: K) s = exitV prog ann 79 (exitTo id K) s := den_exitV hf id K s
theorem call_eq (v0 : AV) (m : Mem) (h : closedL [v0] = true) : denC prog ann 79 [v0] m = (den prog ann 79 [.code b] ⟨[(0, v0)], 25, Mem.empty⟩).bind fun r => some (r.1, m) := (denC_pure hf (b := b) (by kernel_rfl) (by kernel_rfl) (by kernel_rfl) h m).trans (by kernel_rfl)
theorem pure_eq : (ann 79).pure = true := by kernel_rfl
attribute [simp] b_eq r0_eq r1_eq i0_eq i0t_eq i0e_eq r3_eq r4_eq k0_eq l0_eq r5_eq i1_eq i1t_eq i1e_eq k1_eq r7_eq r6_eq r8_eq ret_eq nil_eq inBlock_eq exit_eq pure_eq
end slices_Max_int
end Go.Proofs.Ythnpflkpjimkfaa

/-
  THE LEAST AND THE GREATEST NUMBER OF A LIST. Conditions: none.
-/
namespace Go.Proofs.Ythnpflkpjimkfaa
open Go.AM
open Go.Proofs.Try (prog)
set_option linter.all false
set_option maxRecDepth 100000
set_option maxHeartbeats 4000000

/-! ### The greatest of a list; single lists -/
def maxL (c : List Int) : Int := (c.drop 1).foldl max (nth c 0)
theorem max_loop {w : AV} {c : List Int} (hw0 : IsInts w c) (hcl : c.length ≤ 1001) : ∀ (k i : Nat) (x : Int) (m : Mem), i + k = c.length →
    slices_Max_int.L0 w (.int .i64 x) (.int .i64 i) m [.code slices_Max_int.r8, .code .ret] = some (.int .i64 ((c.drop i).foldl max x), Mem.empty) := by
  intro k
  induction k with
  | zero =>
    intro i x m h1
    have e : i = c.length := by omega
    subst e
    rw [slices_Max_int.L0_eq]
    simp [hw0.len]
    done
  | succ k ih =>
    intro i x m h1
    have hi : i < c.length := by omega
    have hw : IntKind.wrap .i64 ((i : Int) + 1) = (i : Int) + 1 := wrap_id (by omega) (by omega)
    have hst := ih (i + 1) (max x (nth c i)) m (by omega)
    simp only [Int.natCast_add, Int.cast_ofNat_Int] at hst
    rw [drop_nth hi, List.foldl_cons, slices_Max_int.L0_eq]
    simp [hi, hw0.len, hw0.idx hi, ints_head hi, hw, hst]
    done
theorem max_spec {w : AV} {c : List Int} (hw0 : IsInts w c) (hcl : c.length ≤ 1001) (h0 : 0 < c.length) (m : Mem) : denC prog ann 79 [w] m = some (.int .i64 (maxL c), m) := by
  have lp := max_loop hw0 hcl (c.length - 1) 1 (nth c 0) Mem.empty (by omega)
  simp only [Int.cast_ofNat_Int] at lp
  have i0 := hw0.idx h0 .i64
  have i1 := ints_head h0
  simp only [Int.ofNat_zero, Int.cast_ofNat_Int, List.drop_zero] at i0 i1
  rw [slices_Max_int.call_eq _ _ (by simp [hw0.closed])]
  have hn : ¬ (c.length : Int) < 1 := by omega
  simp [hw0.len, hn, i0, i1, lp, maxL]
  done
/-! ### The code's -/
def minL (c : List Int) : Int := (c.drop 1).foldl min (nth c 0)
theorem min_loop {w : AV} {c : List Int} (hw0 : IsInts w c) (hcl : c.length ≤ 1001) : ∀ (k i : Nat) (x : Int) (m : Mem), i + k = c.length →
    slices_Min_int.L0 w (.int .i64 x) (.int .i64 i) m [.code slices_Min_int.r8, .code .ret] = some (.int .i64 ((c.drop i).foldl min x), Mem.empty) := by
  intro k
  induction k with
  | zero =>
    intro i x m h1
    have e : i = c.length := by omega
    subst e
    rw [slices_Min_int.L0_eq]
    simp [hw0.len]
    done
  | succ k ih =>
    intro i x m h1
    have hi : i < c.length := by omega
    have hw : IntKind.wrap .i64 ((i : Int) + 1) = (i : Int) + 1 := wrap_id (by omega) (by omega)
    have hst := ih (i + 1) (min x (nth c i)) m (by omega)
    simp only [Int.natCast_add, Int.cast_ofNat_Int] at hst
    rw [drop_nth hi, List.foldl_cons, slices_Min_int.L0_eq]
    simp [hi, hw0.len, hw0.idx hi, ints_head hi, hw, hst]
    done
theorem min_spec {w : AV} {c : List Int} (hw0 : IsInts w c) (hcl : c.length ≤ 1001) (h0 : 0 < c.length) (m : Mem) : denC prog ann 78 [w] m = some (.int .i64 (minL c), m) := by
  have lp := min_loop hw0 hcl (c.length - 1) 1 (nth c 0) Mem.empty (by omega)
  simp only [Int.cast_ofNat_Int] at lp
  have i0 := hw0.idx h0 .i64
  have i1 := ints_head h0
  simp only [Int.ofNat_zero, Int.cast_ofNat_Int, List.drop_zero] at i0 i1
  rw [slices_Min_int.call_eq _ _ (by simp [hw0.closed])]
  have hn : ¬ (c.length : Int) < 1 := by omega
  simp [hw0.len, hn, i0, i1, lp, minL]
  done

end Go.Proofs.Ythnpflkpjimkfaa

/-
  BRANDS AS VALUES: rows of numbers, truth values, bytes of a string. Conditions: none.
-/
namespace Go.Proofs.Ythnpflkpjimkfaa
open Go.AM
open Go.Proofs.Try (prog)
set_option linter.all false
set_option maxRecDepth 100000
set_option maxHeartbeats 4000000

/-! ### Truth values -/
def bls (bs : List Bool) : List AV := bs.map fun b => AV.bool b
def bnth (bs : List Bool) (i : Nat) : Bool := bs.getD i false
@[simp] theorem bls_len (bs : List Bool) : (bls bs).length = bs.length := by simp [bls]
@[simp] theorem bls_closed (bs : List Bool) : closedL (bls bs) = true := by induction bs <;> simp [bls, closedL, AV.closed] at *; assumption
@[simp] theorem bls_take (bs : List Bool) (n : Nat) : (bls bs).take n = bls (bs.take n) := by simp [bls, List.map_take]
theorem bls_head {bs : List Bool} {i : Nat} (h : i < bs.length) : ((bls bs).drop i).head? = some (.bool (bnth bs i)) := by
  simp [bls, bnth, h]
def IsB (v : AV) (bs : List Bool) : Prop := (v = .nils ∧ bs = []) ∨ ∃ ex, v = .fsl ex bs.length (bls bs)
theorem IsB.closed {v : AV} {l : List Bool} (h : IsB v l) : v.closed = true := by rcases h with ⟨rfl, _⟩ | ⟨_, rfl⟩ <;> rfl
theorem IsB.len {v : AV} {l : List Bool} (h : IsB v l) : lenSl v = some (.int .i64 l.length) := by rcases h with ⟨rfl, rfl⟩ | ⟨_, rfl⟩ <;> simp
theorem IsB.idx {v : AV} {l : List Bool} (h : IsB v l) {i : Nat} (hi : i < l.length) (k : IntKind) : idxSl 1 v (.int k (i : Int)) = some (.fptr ((bls l).drop i)) := by
  rcases h with ⟨rfl, rfl⟩ | ⟨_, rfl⟩
  · simp at hi
  · simp [hi]

/-! ### Rows -/
def pth (ps : List AV) (i : Nat) : AV := ps.getD i .undef
structure IsRows (v : AV) (ps : List AV) (rows : List (List Int)) : Prop where
  len0 : ps.length = rows.length
  row : ∀ i, i < rows.length → IsInts (pth ps i) (cth rows i)
  val : (v = .nils ∧ rows = []) ∨ ∃ ex, v = .fsl ex rows.length ps
theorem IsRows.closed {v : AV} {ps : List AV} {rows : List (List Int)} (h : IsRows v ps rows) : v.closed = true := by rcases h.val with ⟨rfl, _⟩ | ⟨_, rfl⟩ <;> rfl
theorem IsRows.len {v : AV} {ps : List AV} {rows : List (List Int)} (h : IsRows v ps rows) : lenSl v = some (.int .i64 rows.length) := by rcases h.val with ⟨rfl, rfl⟩ | ⟨_, rfl⟩ <;> simp
theorem IsRows.idx {v : AV} {ps : List AV} {rows : List (List Int)} (h : IsRows v ps rows) {i : Nat} (hi : i < rows.length) (k : IntKind) : idxSl 1 v (.int k (i : Int)) = some (.fptr (ps.drop i)) := by
  rcases h.val with ⟨rfl, rfl⟩ | ⟨_, rfl⟩
  · simp at hi
  · simp [hi]
theorem IsRows.head {v : AV} {ps : List AV} {rows : List (List Int)} (h : IsRows v ps rows) {i : Nat} (hi : i < rows.length) : (ps.drop i).head? = some (pth ps i) := by
  have := h.len0
  have hp : i < ps.length := by omega
  simp [pth, hp]

/-! ### Bytes -/
def byt (s : List UInt8) (i : Nat) : Nat := (s.getD i 0).toNat
theorem byt_lt (s : List UInt8) (i : Nat) : byt s i < 256 := (s.getD i 0).toNat_lt
theorem str_idx {s : List UInt8} {i : Nat} (h : i < s.length) (k : IntKind) : idxStr (.str s) (.int k (i : Int)) = some (.int .u8 (byt s i : Nat)) := by
  simp [idxStr, inR, h, byt]
theorem wrap8 {x : Int} (h : 0 ≤ x ∧ x < 256) : IntKind.wrap .u8 x = x := by
  simp [IntKind.wrap, IntKind.min, IntKind.max, IntKind.signed, IntKind.bits]
  omega

/-! ### What a brand is -/
def rowOk (n k : Nat) (r : List Int) : Bool := decide (r.length = k) && r.all fun x => decide (0 ≤ x) && decide (x < n)
def validB (rows : List (List Int)) (good : List Bool) : Bool :=
  decide (1 ≤ rows.length ∧ rows.length ≤ 6) && (decide (good.length = rows.length) && (decide (1 ≤ (cth rows 0).length ∧ (cth rows 0).length ≤ 3) && rows.all (rowOk rows.length (cth rows 0).length)))
end Go.Proofs.Ythnpflkpjimkfaa
