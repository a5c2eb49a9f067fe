/-
  SLICES WHOSE ELEMENTS ARE THEMSELVES SLICES, AS VALUES. Conditions: none.
-/
import Derived.Test.YtpghadmpegncgaaKAmG
import Derived.Test.YtpghadmpegncgaaKAmH
import Derived.Test.YtpghadmpegncgaaKAmF
set_option linter.all false
namespace Go.AM
set_option linter.all false

def cAt (cs : List AV) (i : Nat) : AV := cs.getD i .undef
theorem cAt_eq {cs : List AV} {i : Nat} (h : i < cs.length) : cs[i]? = some (cAt cs i) := by
  rw [List.getElem?_eq_getElem h]; simp [cAt, List.getD, List.getElem?_eq_getElem h]
theorem cAt_load {cs : List AV} {i : Nat} (h : i < cs.length) : loadF false 1 (.fptr (cs.drop i)) = some (cAt cs i) := by
  simp [List.head?_drop, cAt_eq h]
def gth {α : Type} [Inhabited α] (l : List α) (i : Nat) : α := l.getD i default
/-- A slice of cells that stand each for an element. -/
structure IsVec {α : Type} [Inhabited α] (R : AV → α → Prop) (v : AV) (cs : List AV) (l : List α) : Prop where
  n : cs.length = l.length
  rel : ∀ i, i < l.length → R (cAt cs i) (gth l i)
  cl : closedL cs = true
  v : (v = .nils ∧ l = []) ∨ ∃ ex, v = .fsl ex l.length cs
section
variable {α : Type} [Inhabited α] {R : AV → α → Prop} {v : AV} {cs : List AV} {l : List α}
theorem IsVec.closed (h : IsVec R v cs l) : v.closed = true := by rcases h.v with ⟨rfl, _⟩ | ⟨_, rfl⟩ <;> rfl
theorem IsVec.one (h : IsVec R v cs l) : v.one = true := by rcases h.v with ⟨rfl, _⟩ | ⟨_, rfl⟩ <;> rfl
theorem IsVec.cells (h : IsVec R v cs l) : v.cells = [v] := by rcases h.v with ⟨rfl, _⟩ | ⟨_, rfl⟩ <;> rfl
theorem IsVec.len (h : IsVec R v cs l) : lenSl v = some (.int .i64 l.length) := by rcases h.v with ⟨rfl, rfl⟩ | ⟨_, rfl⟩ <;> simp
theorem IsVec.deep (h : IsVec R v cs l) (hp : Nat → Option AObj) (d : Nat) : AM.deep hp (d + 1) v = some v := by rcases h.v with ⟨rfl, _⟩ | ⟨_, rfl⟩ <;> rfl
theorem IsVec.frz (h : IsVec R v cs l) (m : Mem) : frzV v m = some (v, m) := by rcases h.v with ⟨rfl, _⟩ | ⟨_, rfl⟩ <;> rfl
theorem IsVec.idx (h : IsVec R v cs l) {i : Nat} (hi : i < l.length) (k : IntKind) : idxSl 1 v (.int k (i : Int)) = some (.fptr (cs.drop i)) := by
  rcases h.v with ⟨rfl, rfl⟩ | ⟨_, rfl⟩
  · simp at hi
  · simp [hi]
theorem IsVec.load (h : IsVec R v cs l) {i : Nat} (hi : i < l.length) : loadF false 1 (.fptr (cs.drop i)) = some (cAt cs i) := cAt_load (by rw [h.n]; exact hi)
theorem IsVec.at (h : IsVec R v cs l) {i : Nat} (hi : i < l.length) : R (cAt cs i) (gth l i) := h.rel i hi
end
/-! ### Bools -/
def boolC (b : Bool) : List AV := [.bool b]
def bnth (l : List Bool) (i : Nat) : Bool := l.getD i false
abbrev IsBools : AV → List Bool → Prop := IsSl boolC
end Go.AM

/-
  LISTS OF NUMBERS: what all laws share. Conditions: none.
-/
namespace Go.AM
set_option linter.all false

/-- The lexicographic order. -/
def lexLt : List Int → List Int → Bool
  | [], [] => false
  | [], _ :: _ => true
  | _ :: _, [] => false
  | a :: x, b :: y => if a = b then lexLt x y else decide (a < b)
theorem lexLt_drop {a b : List Int} {i : Nat} (h1 : i < a.length) (h2 : i < b.length) : lexLt (a.drop i) (b.drop i) = if nth a i = nth b i then lexLt (a.drop (i + 1)) (b.drop (i + 1)) else decide (nth a i < nth b i) := by
  rw [drop_nth h1, drop_nth h2]; simp [lexLt]
theorem lexLt_same : ∀ a b : List Int, (!lexLt a b && !lexLt b a) = decide (a = b)
  | [], [] => by simp [lexLt]
  | [], _ :: _ => by simp [lexLt]
  | _ :: _, [] => by simp [lexLt]
  | a :: x, b :: y => by
    have ih := lexLt_same x y
    by_cases h : a = b
    · subst h; simpa [lexLt] using ih
    · have h' : ¬ b = a := fun e => h e.symm
      simp only [lexLt, h, h', if_false]
      by_cases h1 : a < b
      · simp [h1, h]
      · have : b < a := by omega
        simp [this, h]
theorem lexLt_irr : ∀ a : List Int, lexLt a a = false
  | [] => rfl
  | a :: x => by simp [lexLt, lexLt_irr x]
theorem lex_trans : ∀ {a b c : List Int}, lexLt a b = true → lexLt b c = true → lexLt a c = true
  | [], [], _, h, _ => by simp [lexLt] at h
  | [], _ :: _, [], _, h => by simp [lexLt] at h
  | [], _ :: _, _ :: _, _, _ => rfl
  | _ :: _, [], _, h, _ => by simp [lexLt] at h
  | _ :: _, _ :: _, [], _, h => by simp [lexLt] at h
  | x :: a, y :: b, z :: c, h1, h2 => by
    simp only [lexLt] at h1 h2 ⊢
    by_cases e1 : x = y
    · subst e1
      rw [if_pos rfl] at h1
      by_cases e2 : x = z
      · subst e2
        rw [if_pos rfl] at h2 ⊢
        exact lex_trans h1 h2
      · rw [if_neg e2] at h2 ⊢; exact h2
    · rw [if_neg e1, decide_eq_true_eq] at h1
      by_cases e2 : y = z
      · subst e2
        rw [if_neg e1, decide_eq_true_eq]; exact h1
      · rw [if_neg e2, decide_eq_true_eq] at h2
        rw [if_neg (by omega), decide_eq_true_eq]; omega

theorem nth_set (l : List Int) (i j : Nat) (v : Int) : nth (l.set i v) j = if i = j ∧ i < l.length then v else nth l j := by
  simp only [nth, List.getD, List.getElem?_set]
  by_cases h : i = j
  · subst h
    by_cases h2 : i < l.length
    · simp [h2]
    · simp [h2, List.getElem?_eq_none (show l.length ≤ i by omega)]
  · simp [h]
theorem nth_zero' (n i : Nat) : nth (List.replicate n 0) i = 0 := by
  simp only [nth, List.getD, List.getElem?_replicate]; split <;> rfl
theorem nth_append (a b : List Int) (i : Nat) : nth (a ++ b) i = if i < a.length then nth a i else nth b (i - a.length) := by
  simp only [nth, List.getD]
  by_cases h : i < a.length
  · rw [List.getElem?_append_left h, if_pos h]
  · rw [List.getElem?_append_right (by omega), if_neg h]
/-- One more at a place. -/
def bump (c : List Int) (h : Nat) : List Int := c.set h (nth c h + 1)
theorem bump_len (c : List Int) (h : Nat) : (bump c h).length = c.length := by simp [bump]
theorem slice_ints {v : AV} {l : List Int} (h : IsInts v l) {j : Int} (h0 : 0 ≤ j) (h1 : j ≤ l.length) : ∃ v', sliceSl 1 v none (some (.int .i64 j)) = some v' ∧ IsInts v' (l.take j.toNat) := by
  rcases h with ⟨rfl, rfl⟩ | ⟨ex, rfl⟩
  · have : j = 0 := by simp at h1; omega
    subst this
    exact ⟨.nils, by simp [sliceSl, bnds, bnd], .inl ⟨rfl, by simp⟩⟩
  · refine ⟨.fsl (ex && j.toNat == l.length) j.toNat (ints (l.take j.toNat)), by simp [sliceSl, bnds, bnd, h0, h1], .inr ⟨ex && j.toNat == l.length, by simp [show min j.toNat l.length = j.toNat by omega]⟩⟩
def I64 (n : Int) : Prop := -9223372036854775808 ≤ n ∧ n ≤ 9223372036854775807
/-! ### A list that grows in memory -/
/-- The slice: nothing at first, then one object. -/
def outI (oid : Nat) (acc : List Int) : AV := if acc = [] then .nils else .sl oid 1 0 acc.length acc.length
def OutI (m : Mem) (oid : Nat) (acc : List Int) : Prop := acc ≠ [] → m.h oid = some (.cells (ints acc)) ∧ oid < m.nx
def intsV (acc : List Int) : AV := if acc = [] then .nils else .fsl false acc.length (ints acc)
theorem intsV_is (acc : List Int) : IsInts (intsV acc) acc := by
  by_cases e : acc = []
  · exact .inl ⟨by rw [intsV, if_pos e], e⟩
  · exact .inr ⟨false, by rw [intsV, if_neg e]⟩
end Go.AM

/-
  BODIES OF FUNCTIONS OF THE PROGRAM AS SMALL OPERATIONS (written by gen.py; checked by the kernel against the program). Conditions: none.
-/
namespace Go.Proofs.Ytpghadmpegncgaa
open Go.AM
open Go.Proofs.Try (prog)
set_option maxRecDepth 100000
set_option linter.all false

namespace r01_Before
/-- pommel/pommelref01.Before -/
noncomputable def b : Code := (Try.f44.body).getD .skip
theorem hf : prog.funcs[44]? = some Try.f44 := by kernel_rfl
noncomputable def r0 : Code := findReg b 0
noncomputable def r1 : Code := findReg b 1
noncomputable def k0 : Code := findBlk b 0
noncomputable def l0 : Code := loopOf k0
noncomputable def L0 (x0 x1 x5 : AV) (m : Mem) (K : List Item) : Option Res := den prog ann 44 (.code l0 :: .inLoop l0 :: .inBlock 0 :: K) ⟨[(0, x0), (1, x1), (5, x5)], 41, m⟩
noncomputable def r2 : Code := findReg b 2
noncomputable def i0 : Code := findCond b 0
noncomputable def i0t : Code := thenOf i0
noncomputable def i0e : Code := elseOf i0
noncomputable def k1 : Code := findBlk b 1
noncomputable def r4 : Code := findReg b 4
noncomputable def i1 : Code := findCond b 1
noncomputable def i1t : Code := thenOf i1
noncomputable def i1e : Code := elseOf i1
noncomputable def r5 : Code := findReg b 5
noncomputable def r3 : Code := findReg b 3
noncomputable def r6 : Code := findReg b 6
theorem b_eq (K : List Item) (s : St) : den prog ann 44 (.code b :: K) s = den prog ann 44 (.code r0 :: .code r1 :: .code k0 :: .code r6 :: .code .ret :: K) s := den_flat hf (l := [r0, r1, k0, r6, .ret]) (by kernel_rfl) K s
theorem r0_eq (K : List Item) (s : St) : den prog ann 44 (.code r0 :: K) s = mreg prog ann 44 none [] none [] [
    ⟨some 4, none, .v fun s => some (.bool false)⟩] K s := (den_reg hf _ K s).trans (by kernel_rfl)
theorem r1_eq (K : List Item) (s : St) : den prog ann 44 (.code r1 :: K) s = mreg prog ann 44 none [] none [] [
    ⟨some 5, none, .v fun s => some (.int .i64 0)⟩] K s := (den_reg hf _ K s).trans (by kernel_rfl)
theorem k0_eq (K : List Item) (t : List (Nat × AV)) (m : Mem) : den prog ann 44 (.code k0 :: K) ⟨t, 41, m⟩ = L0 (get t 0) (get t 1) (get t 5) m K := den_loop_enter hf (b := l0) (id := 2) (l := [0, 1, 5]) (by kernel_rfl) (by kernel_rfl) (by kernel_rfl) K _
theorem l0_eq (K : List Item) (t : List (Nat × AV)) (m : Mem) : den prog ann 44 (.inLoop l0 :: .inBlock 0 :: K) ⟨t, 41, m⟩ = L0 (get t 0) (get t 1) (get t 5) m K := den_loop_again hf (id := 2) (l := [0, 1, 5]) (by kernel_rfl) (by kernel_rfl) (.inBlock 0 :: K) _
theorem L0_eq (x0 x1 x5 : AV) (m : Mem) (K : List Item) : L0 x0 x1 x5 m K = den prog ann 44 (.code r2 :: .code i0 :: .code k1 :: .code r3 :: .inLoop l0 :: .inBlock 0 :: K) ⟨[(0, x0), (1, x1), (5, x5)], 41, m⟩ := den_flat hf (l := [r2, i0, k1, r3]) (by kernel_rfl) _ _
theorem r2_eq (K : List Item) (s : St) : den prog ann 44 (.code r2 :: K) s = mreg prog ann 44 (some [0, 1, 5]) [] none [] [
    ⟨some 6, none, .v fun s => some (s.get 5)⟩,
    ⟨some 7, none, .v fun s => some (s.get 0)⟩,
    ⟨some 8, none, .v fun s => lenSl (s.get 7)⟩,
    ⟨some 9, none, .v fun s => binA prog .lss 3 (s.get 6) (s.get 8)⟩,
    ⟨some 10, none, .v fun s => some (s.get 9)⟩,
    ⟨some 11, some (10, true), .v fun s => some (s.get 5)⟩,
    ⟨some 12, some (10, true), .v fun s => some (s.get 1)⟩,
    ⟨some 13, some (10, true), .v fun s => lenSl (s.get 12)⟩,
    ⟨some 14, some (10, true), .v fun s => binA prog .lss 3 (s.get 11) (s.get 13)⟩,
    ⟨some 15, none, .v fun s => pickA (s.get 10) (s.get 14) (.bool false)⟩] K s := (den_reg hf _ K s).trans (by kernel_rfl)
theorem i0_eq (K : List Item) (s : St) : den prog ann 44 (.code i0 :: K) s = ifV prog ann 44 15 i0t i0e K s (s.get 15) := den_if hf (by kernel_rfl) K s
theorem i0t_eq (K : List Item) (s : St) : den prog ann 44 (.code i0t :: K) s = den prog ann 44 (K) s := den_flat hf (l := []) (by kernel_rfl) K s
theorem i0e_eq (K : List Item) (s : St) : den prog ann 44 (.code i0e :: K) s = den prog ann 44 (.code (.exit 0) :: K) s := den_flat hf (l := [(.exit 0)]) (by kernel_rfl) K s
theorem k1_eq (K : List Item) (s : St) : den prog ann 44 (.code k1 :: K) s = den prog ann 44 (.code r4 :: .code i1 :: .inBlock 1 :: K) s := den_blk hf (b := blkOf k1) (l := [r4, i1]) (by kernel_rfl) (by kernel_rfl) K s
theorem r4_draw : drawOk (fun g => (ann g).pure) (modeOf (ann 44) (idOf r4)) (frzOf (ann 44) (idOf r4)) (opsOf r4) = true := drawOk_of (an := [0, 0, 3, 7, 0, 0, 48, 112, 255]) (by kernel_rfl) (by kernel_rfl)
theorem r4_eq (K : List Item) (s : St) : den prog ann 44 (.code r4 :: K) s = mreg prog ann 44 none [] (some 9) [] [
    ⟨some 18, none, .v fun s => some (s.get 0)⟩,
    ⟨some 19, none, .v fun s => some (s.get 5)⟩,
    ⟨some 20, none, .v fun s => idxSl 1 (s.get 18) (s.get 19)⟩,
    ⟨some 21, none, .v fun s => loadF false 1 (s.get 20)⟩,
    ⟨some 22, none, .v fun s => some (s.get 1)⟩,
    ⟨some 23, none, .v fun s => some (s.get 5)⟩,
    ⟨some 24, none, .v fun s => idxSl 1 (s.get 22) (s.get 23)⟩,
    ⟨some 25, none, .v fun s => loadF false 1 (s.get 24)⟩,
    ⟨some 26, none, .v fun s => binA prog .neq 3 (s.get 21) (s.get 25)⟩] K s := (den_regD hf r4_draw K s).trans (by kernel_rfl)
theorem i1_eq (K : List Item) (s : St) : den prog ann 44 (.code i1 :: K) s = ifV prog ann 44 26 i1t i1e K s (s.get 26) := den_if hf (by kernel_rfl) K s
theorem i1t_eq (K : List Item) (s : St) : den prog ann 44 (.code i1t :: K) s = den prog ann 44 (.code r5 :: .code .ret :: K) s := den_flat hf (l := [r5, .ret]) (by kernel_rfl) K s
theorem r5_draw : drawOk (fun g => (ann g).pure) (modeOf (ann 44) (idOf r5)) (frzOf (ann 44) (idOf r5)) (opsOf r5) = true := drawOk_of (an := [0, 0, 3, 7, 0, 0, 48, 112, 255, 511]) (by kernel_rfl) (by kernel_rfl)
theorem r5_eq (K : List Item) (s : St) : den prog ann 44 (.code r5 :: K) s = mreg prog ann 44 none [] (some 10) [] [
    ⟨some 27, none, .v fun s => some (s.get 0)⟩,
    ⟨some 28, none, .v fun s => some (s.get 5)⟩,
    ⟨some 29, none, .v fun s => idxSl 1 (s.get 27) (s.get 28)⟩,
    ⟨some 30, none, .v fun s => loadF false 1 (s.get 29)⟩,
    ⟨some 31, none, .v fun s => some (s.get 1)⟩,
    ⟨some 32, none, .v fun s => some (s.get 5)⟩,
    ⟨some 33, none, .v fun s => idxSl 1 (s.get 31) (s.get 32)⟩,
    ⟨some 34, none, .v fun s => loadF false 1 (s.get 33)⟩,
    ⟨some 35, none, .v fun s => binA prog .lss 3 (s.get 30) (s.get 34)⟩,
    ⟨some 4, none, .v fun s => some (s.get 35)⟩] K s := (den_regD hf r5_draw K s).trans (by kernel_rfl)
theorem i1e_eq (K : List Item) (s : St) : den prog ann 44 (.code i1e :: K) s = den prog ann 44 (K) s := den_flat hf (l := []) (by kernel_rfl) K s
theorem r3_eq (K : List Item) (s : St) : den prog ann 44 (.code r3 :: K) s = mreg prog ann 44 (some [0, 1, 5]) [] none [] [
    ⟨some 16, none, .v fun s => some (s.get 5)⟩,
    ⟨some 17, none, .v fun s => binA prog .add 3 (s.get 16) (.int .i64 1)⟩,
    ⟨some 5, none, .v fun s => some (s.get 17)⟩] K s := (den_reg hf _ K s).trans (by kernel_rfl)
theorem r6_eq (K : List Item) (s : St) : den prog ann 44 (.code r6 :: K) s = mreg prog ann 44 (some [0, 1]) [] none [] [
    ⟨some 36, none, .v fun s => some (s.get 0)⟩,
    ⟨some 37, none, .v fun s => lenSl (s.get 36)⟩,
    ⟨some 38, none, .v fun s => some (s.get 1)⟩,
    ⟨some 39, none, .v fun s => lenSl (s.get 38)⟩,
    ⟨some 40, none, .v fun s => binA prog .lss 3 (s.get 37) (s.get 39)⟩,
    ⟨some 4, none, .v fun s => some (s.get 40)⟩] K s := (den_reg hf _ K s).trans (by kernel_rfl)
theorem ret_eq (K : List Item) (s : St) : den prog ann 44 (.code .ret :: K) s = finM true [fun s => some (s.get 4)] s := (den_ret hf K s).trans (by kernel_rfl)
theorem nil_eq (s : St) : den prog ann 44 [] s = finM true [fun s => some (s.get 4)] s := (den_nil hf s).trans (by kernel_rfl)
theorem inBlock_eq (id : Nat) (K : List Item) (s : St) : den prog ann 44 (.inBlock id :: K) s = den prog ann 44 K s := den_inBlock hf id K s
theorem exit_eq (id : Nat) (K : List Item) (s : St) : den prog ann 44 (.code (.exit id) :: K) s = exitV prog ann 44 (exitTo id K) s := den_exitV hf id K s
theorem call_eq (v0 v1 : AV) (m : Mem) (h : closedL [v0, v1] = true) : denC prog ann 44 [v0, v1] m = (den prog ann 44 [.code b] ⟨[(0, v0), (1, v1)], 41, Mem.empty⟩).bind fun r => some (r.1, m) := (denC_pure hf (b := b) (by kernel_rfl) (by kernel_rfl) (by kernel_rfl) h m).trans (by kernel_rfl)
theorem pure_eq : (ann 44).pure = true := by kernel_rfl
attribute [simp] b_eq r0_eq r1_eq k0_eq l0_eq r2_eq i0_eq i0t_eq i0e_eq k1_eq r4_eq i1_eq i1t_eq r5_eq i1e_eq r3_eq r6_eq ret_eq nil_eq inBlock_eq exit_eq pure_eq
end r01_Before

namespace r01_Same
/-- pommel/pommelref01.Same -/
noncomputable def b : Code := (Try.f15.body).getD .skip
theorem hf : prog.funcs[15]? = some Try.f15 := by kernel_rfl
noncomputable def r0 : Code := findReg b 0
noncomputable def r1 : Code := findReg b 1
theorem b_eq (K : List Item) (s : St) : den prog ann 15 (.code b :: K) s = den prog ann 15 (.code r0 :: .code r1 :: .code .ret :: K) s := den_flat hf (l := [r0, r1, .ret]) (by kernel_rfl) K s
theorem r0_eq (K : List Item) (s : St) : den prog ann 15 (.code r0 :: K) s = mreg prog ann 15 none [] none [] [
    ⟨some 4, none, .v fun s => some (.bool false)⟩] K s := (den_reg hf _ K s).trans (by kernel_rfl)
theorem r1_eq (K : List Item) (s : St) : den prog ann 15 (.code r1 :: K) s = mreg prog ann 15 none [] none [] [
    ⟨some 5, none, .v fun s => some (s.get 0)⟩,
    ⟨some 6, none, .v fun s => some (s.get 1)⟩,
    ⟨some 7, none, .c 0 (fun s => (.fn 44 [] [])) fun s => [(s.get 5), (s.get 6)]⟩,
    ⟨some 8, none, .v fun s => unA .not (s.get 7)⟩,
    ⟨some 9, none, .v fun s => some (s.get 8)⟩,
    ⟨some 10, some (9, true), .v fun s => some (s.get 1)⟩,
    ⟨some 11, some (9, true), .v fun s => some (s.get 0)⟩,
    ⟨some 12, some (9, true), .c 0 (fun s => (.fn 44 [] [])) fun s => [(s.get 10), (s.get 11)]⟩,
    ⟨some 13, some (9, true), .v fun s => unA .not (s.get 12)⟩,
    ⟨some 14, none, .v fun s => pickA (s.get 9) (s.get 13) (.bool false)⟩,
    ⟨some 4, none, .v fun s => some (s.get 14)⟩] K s := (den_reg hf _ K s).trans (by kernel_rfl)
theorem ret_eq (K : List Item) (s : St) : den prog ann 15 (.code .ret :: K) s = finM true [fun s => some (s.get 4)] s := (den_ret hf K s).trans (by kernel_rfl)
theorem nil_eq (s : St) : den prog ann 15 [] s = finM true [fun s => some (s.get 4)] s := (den_nil hf s).trans (by kernel_rfl)
theorem inBlock_eq (id : Nat) (K : List Item) (s : St) : den prog ann 15 (.inBlock id :: K) s = den prog ann 15 K s := den_inBlock hf id K s
theorem exit_eq (id : Nat) (K : List Item) (s : St) : den prog ann 15 (.code (.exit id) :: K) s = exitV prog ann 15 (exitTo id K) s := den_exitV hf id K s
theorem call_eq (v0 v1 : AV) (m : Mem) (h : closedL [v0, v1] = true) : denC prog ann 15 [v0, v1] m = (den prog ann 15 [.code b] ⟨[(0, v0), (1, v1)], 15, Mem.empty⟩).bind fun r => some (r.1, m) := (denC_pure hf (b := b) (by kernel_rfl) (by kernel_rfl) (by kernel_rfl) h m).trans (by kernel_rfl)
theorem pure_eq : (ann 15).pure = true := by kernel_rfl
attribute [simp] b_eq r0_eq r1_eq ret_eq nil_eq inBlock_eq exit_eq pure_eq
end r01_Same


namespace strap_counts
/-- pommel/strap.counts -/
noncomputable def b : Code := (Try.f50.body).getD .skip
theorem hf : prog.funcs[50]? = some Try.f50 := by kernel_rfl
noncomputable def r0 : Code := findReg b 0
noncomputable def r1 : Code := findReg b 1
noncomputable def r2 : Code := findReg b 2
noncomputable def k0 : Code := findBlk b 0
noncomputable def l0 : Code := loopOf k0
noncomputable def L0 (x0 x3 x16 x17 x18 : AV) (m : Mem) (K : List Item) : Option Res := den prog ann 50 (.code l0 :: .inLoop l0 :: .inBlock 0 :: K) ⟨[(0, x0), (3, x3), (16, x16), (17, x17), (18, x18)], 42, m⟩
noncomputable def r3 : Code := findReg b 3
noncomputable def i0 : Code := findCond b 0
noncomputable def i0t : Code := thenOf i0
noncomputable def i0e : Code := elseOf i0
noncomputable def k1 : Code := findBlk b 1
noncomputable def r4 : Code := findReg b 4
noncomputable def r5 : Code := findReg b 5
noncomputable def k2 : Code := findBlk b 2
noncomputable def l2 : Code := loopOf k2
noncomputable def L2 (x0 x3 x5 x16 x17 x18 x25 x26 x27 : AV) (m : Mem) (K : List Item) : Option Res := den prog ann 50 (.code l2 :: .inLoop l2 :: .inBlock 2 :: K) ⟨[(0, x0), (3, x3), (5, x5), (16, x16), (17, x17), (18, x18), (25, x25), (26, x26), (27, x27)], 42, m⟩
noncomputable def r6 : Code := findReg b 6
noncomputable def i1 : Code := findCond b 1
noncomputable def i1t : Code := thenOf i1
noncomputable def i1e : Code := elseOf i1
noncomputable def k3 : Code := findBlk b 3
noncomputable def r7 : Code := findReg b 7
noncomputable def r8 : Code := findReg b 8
noncomputable def r9 : Code := findReg b 9
noncomputable def r10 : Code := findReg b 10
noncomputable def r11 : Code := findReg b 11
theorem b_eq (K : List Item) (s : St) : den prog ann 50 (.code b :: K) s = den prog ann 50 (.code r0 :: .code r1 :: .code r2 :: .code k0 :: .code r11 :: .code .ret :: K) s := den_flat hf (l := [r0, r1, r2, k0, r11, .ret]) (by kernel_rfl) K s
theorem r0_eq (K : List Item) (s : St) : den prog ann 50 (.code r0 :: K) s = mreg prog ann 50 none [] none [] [
    ⟨some 2, none, .v fun s => some (.nils)⟩] K s := (den_reg hf _ K s).trans (by kernel_rfl)
theorem r1_eq (K : List Item) (s : St) : den prog ann 50 (.code r1 :: K) s = mreg prog ann 50 none [] none [] [
    ⟨some 8, none, .v fun s => some (s.get 0)⟩,
    ⟨some 9, none, .v fun s => some (s.get 0)⟩,
    ⟨some 10, none, .v fun s => lenSl (s.get 9)⟩,
    ⟨some 11, none, .v fun s => binA prog .sub 3 (s.get 10) (.int .i64 1)⟩,
    ⟨some 12, none, .v fun s => idxSl 1 (s.get 8) (s.get 11)⟩,
    ⟨some 13, none, .v fun s => loadF false 1 (s.get 12)⟩,
    ⟨some 14, none, .v fun s => binA prog .add 3 (s.get 13) (.int .i64 1)⟩,
    ⟨some 15, none, .w false none fun s => makeA 1 8 (.int .i64 0) s.m (s.get 14) (s.get 14)⟩,
    ⟨some 3, none, .v fun s => some (s.get 15)⟩] K s := (den_reg hf _ K s).trans (by kernel_rfl)
theorem r2_eq (K : List Item) (s : St) : den prog ann 50 (.code r2 :: K) s = mreg prog ann 50 none [] none [] [
    ⟨some 16, none, .v fun s => some (s.get 0)⟩,
    ⟨some 17, none, .v fun s => lenSl (s.get 16)⟩,
    ⟨some 18, none, .v fun s => some (.int .i64 0)⟩] K s := (den_reg hf _ K s).trans (by kernel_rfl)
theorem k0_eq (K : List Item) (t : List (Nat × AV)) (m : Mem) : den prog ann 50 (.code k0 :: K) ⟨t, 42, m⟩ = L0 (get t 0) (get t 3) (get t 16) (get t 17) (get t 18) m K := den_loop_enter hf (b := l0) (id := 3) (l := [0, 3, 16, 17, 18]) (by kernel_rfl) (by kernel_rfl) (by kernel_rfl) K _
theorem l0_eq (K : List Item) (t : List (Nat × AV)) (m : Mem) : den prog ann 50 (.inLoop l0 :: .inBlock 0 :: K) ⟨t, 42, m⟩ = L0 (get t 0) (get t 3) (get t 16) (get t 17) (get t 18) m K := den_loop_again hf (id := 3) (l := [0, 3, 16, 17, 18]) (by kernel_rfl) (by kernel_rfl) (.inBlock 0 :: K) _
theorem L0_eq (x0 x3 x16 x17 x18 : AV) (m : Mem) (K : List Item) : L0 x0 x3 x16 x17 x18 m K = den prog ann 50 (.code r3 :: .code i0 :: .code k1 :: .code r10 :: .inLoop l0 :: .inBlock 0 :: K) ⟨[(0, x0), (3, x3), (16, x16), (17, x17), (18, x18)], 42, m⟩ := den_flat hf (l := [r3, i0, k1, r10]) (by kernel_rfl) _ _
theorem r3_eq (K : List Item) (s : St) : den prog ann 50 (.code r3 :: K) s = mreg prog ann 50 (some [0, 3, 16, 17, 18]) [] none [] [
    ⟨some 19, none, .v fun s => binA prog .lss 3 (s.get 18) (s.get 17)⟩] K s := (den_reg hf _ K s).trans (by kernel_rfl)
theorem i0_eq (K : List Item) (s : St) : den prog ann 50 (.code i0 :: K) s = ifV prog ann 50 19 i0t i0e K s (s.get 19) := den_if hf (by kernel_rfl) K s
theorem i0t_eq (K : List Item) (s : St) : den prog ann 50 (.code i0t :: K) s = den prog ann 50 (K) s := den_flat hf (l := []) (by kernel_rfl) K s
theorem i0e_eq (K : List Item) (s : St) : den prog ann 50 (.code i0e :: K) s = den prog ann 50 (.code (.exit 0) :: K) s := den_flat hf (l := [(.exit 0)]) (by kernel_rfl) K s
theorem k1_eq (K : List Item) (s : St) : den prog ann 50 (.code k1 :: K) s = den prog ann 50 (.code r4 :: .code r5 :: .code k2 :: .inBlock 1 :: K) s := den_blk hf (b := blkOf k1) (l := [r4, r5, k2]) (by kernel_rfl) (by kernel_rfl) K s
theorem r4_eq (K : List Item) (s : St) : den prog ann 50 (.code r4 :: K) s = mreg prog ann 50 none [] none [] [
    ⟨some 20, none, .v fun s => some (s.get 18)⟩,
    ⟨some 21, none, .v fun s => idxSl 1 (s.get 16) (s.get 18)⟩,
    ⟨some 22, none, .v fun s => loadF false 1 (s.get 21)⟩,
    ⟨some 4, none, .v fun s => some (s.get 20)⟩,
    ⟨some 5, none, .v fun s => some (s.get 22)⟩] K s := (den_reg hf _ K s).trans (by kernel_rfl)
theorem r5_eq (K : List Item) (s : St) : den prog ann 50 (.code r5 :: K) s = mreg prog ann 50 none [] none [] [
    ⟨some 23, none, .v fun s => some (s.get 0)⟩,
    ⟨some 24, none, .v fun s => some (s.get 4)⟩,
    ⟨some 25, none, .v fun s => sliceSl 1 (s.get 23) none (some (s.get 24))⟩,
    ⟨some 26, none, .v fun s => lenSl (s.get 25)⟩,
    ⟨some 27, none, .v fun s => some (.int .i64 0)⟩] K s := (den_reg hf _ K s).trans (by kernel_rfl)
theorem k2_eq (K : List Item) (t : List (Nat × AV)) (m : Mem) : den prog ann 50 (.code k2 :: K) ⟨t, 42, m⟩ = L2 (get t 0) (get t 3) (get t 5) (get t 16) (get t 17) (get t 18) (get t 25) (get t 26) (get t 27) m K := den_loop_enter hf (b := l2) (id := 6) (l := [0, 3, 5, 16, 17, 18, 25, 26, 27]) (by kernel_rfl) (by kernel_rfl) (by kernel_rfl) K _
theorem l2_eq (K : List Item) (t : List (Nat × AV)) (m : Mem) : den prog ann 50 (.inLoop l2 :: .inBlock 2 :: K) ⟨t, 42, m⟩ = L2 (get t 0) (get t 3) (get t 5) (get t 16) (get t 17) (get t 18) (get t 25) (get t 26) (get t 27) m K := den_loop_again hf (id := 6) (l := [0, 3, 5, 16, 17, 18, 25, 26, 27]) (by kernel_rfl) (by kernel_rfl) (.inBlock 2 :: K) _
theorem L2_eq (x0 x3 x5 x16 x17 x18 x25 x26 x27 : AV) (m : Mem) (K : List Item) : L2 x0 x3 x5 x16 x17 x18 x25 x26 x27 m K = den prog ann 50 (.code r6 :: .code i1 :: .code k3 :: .code r9 :: .inLoop l2 :: .inBlock 2 :: K) ⟨[(0, x0), (3, x3), (5, x5), (16, x16), (17, x17), (18, x18), (25, x25), (26, x26), (27, x27)], 42, m⟩ := den_flat hf (l := [r6, i1, k3, r9]) (by kernel_rfl) _ _
theorem r6_eq (K : List Item) (s : St) : den prog ann 50 (.code r6 :: K) s = mreg prog ann 50 (some [0, 3, 5, 16, 17, 18, 25, 26, 27]) [] none [] [
    ⟨some 28, none, .v fun s => binA prog .lss 3 (s.get 27) (s.get 26)⟩] K s := (den_reg hf _ K s).trans (by kernel_rfl)
theorem i1_eq (K : List Item) (s : St) : den prog ann 50 (.code i1 :: K) s = ifV prog ann 50 28 i1t i1e K s (s.get 28) := den_if hf (by kernel_rfl) K s
theorem i1t_eq (K : List Item) (s : St) : den prog ann 50 (.code i1t :: K) s = den prog ann 50 (K) s := den_flat hf (l := []) (by kernel_rfl) K s
theorem i1e_eq (K : List Item) (s : St) : den prog ann 50 (.code i1e :: K) s = den prog ann 50 (.code (.exit 2) :: K) s := den_flat hf (l := [(.exit 2)]) (by kernel_rfl) K s
theorem k3_eq (K : List Item) (s : St) : den prog ann 50 (.code k3 :: K) s = den prog ann 50 (.code r7 :: .code r8 :: .inBlock 3 :: K) s := den_blk hf (b := blkOf k3) (l := [r7, r8]) (by kernel_rfl) (by kernel_rfl) K s
theorem r7_eq (K : List Item) (s : St) : den prog ann 50 (.code r7 :: K) s = mreg prog ann 50 none [] none [] [
    ⟨some 29, none, .v fun s => idxSl 1 (s.get 25) (s.get 27)⟩,
    ⟨some 30, none, .v fun s => loadF false 1 (s.get 29)⟩,
    ⟨some 7, none, .v fun s => some (s.get 30)⟩] K s := (den_reg hf _ K s).trans (by kernel_rfl)
theorem r8_eq (K : List Item) (s : St) : den prog ann 50 (.code r8 :: K) s = mreg prog ann 50 none [] none [] [
    ⟨some 31, none, .v fun s => some (s.get 3)⟩,
    ⟨some 32, none, .v fun s => some (s.get 5)⟩,
    ⟨some 33, none, .v fun s => some (s.get 7)⟩,
    ⟨some 34, none, .v fun s => binA prog .sub 3 (s.get 32) (s.get 33)⟩,
    ⟨some 35, none, .v fun s => idxSl 1 (s.get 31) (s.get 34)⟩,
    ⟨some 36, none, .v fun s => loadA false 1 s.m (s.get 35)⟩,
    ⟨some 37, none, .v fun s => binA prog .add 3 (s.get 36) (.int .i64 1)⟩,
    ⟨some 38, none, .v fun s => idxSl 1 (s.get 31) (s.get 34)⟩,
    ⟨none, none, .w false none fun s => stA false 1 s.m (s.get 38) (s.get 37)⟩] K s := (den_reg hf _ K s).trans (by kernel_rfl)
theorem r9_eq (K : List Item) (s : St) : den prog ann 50 (.code r9 :: K) s = mreg prog ann 50 (some [0, 3, 5, 16, 17, 18, 25, 26, 27]) [] none [] [
    ⟨some 39, none, .v fun s => binA prog .add 3 (s.get 27) (.int .i64 1)⟩,
    ⟨some 27, none, .v fun s => some (s.get 39)⟩] K s := (den_reg hf _ K s).trans (by kernel_rfl)
theorem r10_eq (K : List Item) (s : St) : den prog ann 50 (.code r10 :: K) s = mreg prog ann 50 (some [0, 3, 16, 17, 18]) [] none [] [
    ⟨some 40, none, .v fun s => binA prog .add 3 (s.get 18) (.int .i64 1)⟩,
    ⟨some 18, none, .v fun s => some (s.get 40)⟩] K s := (den_reg hf _ K s).trans (by kernel_rfl)
theorem r11_eq (K : List Item) (s : St) : den prog ann 50 (.code r11 :: K) s = mreg prog ann 50 (some [3]) [] none [] [
    ⟨some 41, none, .v fun s => some (s.get 3)⟩,
    ⟨some 2, none, .v fun s => some (s.get 41)⟩] K s := (den_reg hf _ K s).trans (by kernel_rfl)
theorem ret_eq (K : List Item) (s : St) : den prog ann 50 (.code .ret :: K) s = finM true [fun s => some (s.get 2)] s := (den_ret hf K s).trans (by kernel_rfl)
theorem nil_eq (s : St) : den prog ann 50 [] s = finM true [fun s => some (s.get 2)] s := (den_nil hf s).trans (by kernel_rfl)
theorem inBlock_eq (id : Nat) (K : List Item) (s : St) : den prog ann 50 (.inBlock id :: K) s = den prog ann 50 K s := den_inBlock hf id K s
theorem exit_eq (id : Nat) (K : List Item) (s : St) : den prog ann 50 (.code (.exit id) :: K) s = exitV prog ann 50 (exitTo id K) s := den_exitV hf id K s
theorem call_eq (v0 : AV) (m : Mem) (h : closedL [v0] = true) : denC prog ann 50 [v0] m = (den prog ann 50 [.code b] ⟨[(0, v0)], 42, Mem.empty⟩).bind fun r => some (r.1, m) := (denC_pure hf (b := b) (by kernel_rfl) (by kernel_rfl) (by kernel_rfl) h m).trans (by kernel_rfl)
theorem pure_eq : (ann 50).pure = true := by kernel_rfl
attribute [simp] b_eq r0_eq r1_eq r2_eq k0_eq l0_eq r3_eq i0_eq i0t_eq i0e_eq k1_eq r4_eq r5_eq k2_eq l2_eq r6_eq i1_eq i1t_eq i1e_eq k3_eq r7_eq r8_eq r9_eq r10_eq r11_eq ret_eq nil_eq inBlock_eq exit_eq pure_eq
end strap_counts






namespace slices_Contains_int
/-- slices.Containsintint -/
noncomputable def b : Code := (Try.f49.body).getD .skip
theorem hf : prog.funcs[49]? = some Try.f49 := by kernel_rfl
noncomputable def r0 : Code := findReg b 0
noncomputable def r1 : Code := findReg b 1
theorem b_eq (K : List Item) (s : St) : den prog ann 49 (.code b :: K) s = den prog ann 49 (.code r0 :: .code r1 :: .code .ret :: K) s := den_flat hf (l := [r0, r1, .ret]) (by kernel_rfl) K s
theorem r0_eq (K : List Item) (s : St) : den prog ann 49 (.code r0 :: K) s = mreg prog ann 49 none [] none [] [
    ⟨some 4, none, .v fun s => some (.bool false)⟩] K s := (den_reg hf _ K s).trans (by kernel_rfl)
theorem r1_eq (K : List Item) (s : St) : den prog ann 49 (.code r1 :: K) s = mreg prog ann 49 none [] none [] [
    ⟨some 5, none, .v fun s => some (s.get 0)⟩,
    ⟨some 6, none, .v fun s => some (s.get 1)⟩,
    ⟨some 7, none, .c 0 (fun s => (.fn 67 [] [])) fun s => [(s.get 5), (s.get 6)]⟩,
    ⟨some 8, none, .v fun s => binA prog .geq 3 (s.get 7) (.int .i64 0)⟩,
    ⟨some 4, none, .v fun s => some (s.get 8)⟩] K s := (den_reg hf _ K s).trans (by kernel_rfl)
theorem ret_eq (K : List Item) (s : St) : den prog ann 49 (.code .ret :: K) s = finM true [fun s => some (s.get 4)] s := (den_ret hf K s).trans (by kernel_rfl)
theorem nil_eq (s : St) : den prog ann 49 [] s = finM true [fun s => some (s.get 4)] s := (den_nil hf s).trans (by kernel_rfl)
theorem inBlock_eq (id : Nat) (K : List Item) (s : St) : den prog ann 49 (.inBlock id :: K) s = den prog ann 49 K s := den_inBlock hf id K s
theorem exit_eq (id : Nat) (K : List Item) (s : St) : den prog ann 49 (.code (.exit id) :: K) s = exitV prog ann 49 (exitTo id K) s := den_exitV hf id K s
theorem call_eq (v0 v1 : AV) (m : Mem) (h : closedL [v0, v1] = true) : denC prog ann 49 [v0, v1] m = (den prog ann 49 [.code b] ⟨[(0, v0), (1, v1)], 9, Mem.empty⟩).bind fun r => some (r.1, m) := (denC_pure hf (b := b) (by kernel_rfl) (by kernel_rfl) (by kernel_rfl) h m).trans (by kernel_rfl)
theorem pure_eq : (ann 49).pure = true := by kernel_rfl
attribute [simp] b_eq r0_eq r1_eq ret_eq nil_eq inBlock_eq exit_eq pure_eq
end slices_Contains_int

namespace slices_Index_int
/-- slices.Indexintint -/
noncomputable def b : Code := (Try.f67.body).getD .skip
theorem hf : prog.funcs[67]? = some Try.f67 := by kernel_rfl
noncomputable def r0 : Code := findReg b 0
noncomputable def r1 : Code := findReg b 1
noncomputable def k0 : Code := findBlk b 0
noncomputable def l0 : Code := loopOf k0
noncomputable def L0 (x0 x1 x7 x8 : AV) (m : Mem) (K : List Item) : Option Res := den prog ann 67 (.code l0 :: .inLoop l0 :: .inBlock 0 :: K) ⟨[(0, x0), (1, x1), (7, x7), (8, x8)], 19, m⟩
noncomputable def r2 : Code := findReg b 2
noncomputable def i0 : Code := findCond b 0
noncomputable def i0t : Code := thenOf i0
noncomputable def i0e : Code := elseOf i0
noncomputable def k1 : Code := findBlk b 1
noncomputable def r3 : Code := findReg b 3
noncomputable def r4 : Code := findReg b 4
noncomputable def i1 : Code := findCond b 1
noncomputable def i1t : Code := thenOf i1
noncomputable def i1e : Code := elseOf i1
noncomputable def r5 : Code := findReg b 5
noncomputable def r6 : Code := findReg b 6
noncomputable def r7 : Code := findReg b 7
theorem b_eq (K : List Item) (s : St) : den prog ann 67 (.code b :: K) s = den prog ann 67 (.code r0 :: .code r1 :: .code k0 :: .code r7 :: .code .ret :: K) s := den_flat hf (l := [r0, r1, k0, r7, .ret]) (by kernel_rfl) K s
theorem r0_eq (K : List Item) (s : St) : den prog ann 67 (.code r0 :: K) s = mreg prog ann 67 none [] none [] [
    ⟨some 4, none, .v fun s => some (.int .i64 0)⟩] K s := (den_reg hf _ K s).trans (by kernel_rfl)
theorem r1_eq (K : List Item) (s : St) : den prog ann 67 (.code r1 :: K) s = mreg prog ann 67 none [] none [] [
    ⟨some 6, none, .v fun s => some (s.get 0)⟩,
    ⟨some 7, none, .v fun s => lenSl (s.get 6)⟩,
    ⟨some 8, none, .v fun s => some (.int .i64 0)⟩] K s := (den_reg hf _ K s).trans (by kernel_rfl)
theorem k0_eq (K : List Item) (t : List (Nat × AV)) (m : Mem) : den prog ann 67 (.code k0 :: K) ⟨t, 19, m⟩ = L0 (get t 0) (get t 1) (get t 7) (get t 8) m K := den_loop_enter hf (b := l0) (id := 2) (l := [0, 1, 7, 8]) (by kernel_rfl) (by kernel_rfl) (by kernel_rfl) K _
theorem l0_eq (K : List Item) (t : List (Nat × AV)) (m : Mem) : den prog ann 67 (.inLoop l0 :: .inBlock 0 :: K) ⟨t, 19, m⟩ = L0 (get t 0) (get t 1) (get t 7) (get t 8) m K := den_loop_again hf (id := 2) (l := [0, 1, 7, 8]) (by kernel_rfl) (by kernel_rfl) (.inBlock 0 :: K) _
theorem L0_eq (x0 x1 x7 x8 : AV) (m : Mem) (K : List Item) : L0 x0 x1 x7 x8 m K = den prog ann 67 (.code r2 :: .code i0 :: .code k1 :: .code r6 :: .inLoop l0 :: .inBlock 0 :: K) ⟨[(0, x0), (1, x1), (7, x7), (8, x8)], 19, m⟩ := den_flat hf (l := [r2, i0, k1, r6]) (by kernel_rfl) _ _
theorem r2_eq (K : List Item) (s : St) : den prog ann 67 (.code r2 :: K) s = mreg prog ann 67 (some [0, 1, 7, 8]) [] none [] [
    ⟨some 9, none, .v fun s => binA prog .lss 3 (s.get 8) (s.get 7)⟩] K s := (den_reg hf _ K s).trans (by kernel_rfl)
theorem i0_eq (K : List Item) (s : St) : den prog ann 67 (.code i0 :: K) s = ifV prog ann 67 9 i0t i0e K s (s.get 9) := den_if hf (by kernel_rfl) K s
theorem i0t_eq (K : List Item) (s : St) : den prog ann 67 (.code i0t :: K) s = den prog ann 67 (K) s := den_flat hf (l := []) (by kernel_rfl) K s
theorem i0e_eq (K : List Item) (s : St) : den prog ann 67 (.code i0e :: K) s = den prog ann 67 (.code (.exit 0) :: K) s := den_flat hf (l := [(.exit 0)]) (by kernel_rfl) K s
theorem k1_eq (K : List Item) (s : St) : den prog ann 67 (.code k1 :: K) s = den prog ann 67 (.code r3 :: .code r4 :: .code i1 :: .inBlock 1 :: K) s := den_blk hf (b := blkOf k1) (l := [r3, r4, i1]) (by kernel_rfl) (by kernel_rfl) K s
theorem r3_eq (K : List Item) (s : St) : den prog ann 67 (.code r3 :: K) s = mreg prog ann 67 none [] none [] [
    ⟨some 10, none, .v fun s => some (s.get 8)⟩,
    ⟨some 5, none, .v fun s => some (s.get 10)⟩] K s := (den_reg hf _ K s).trans (by kernel_rfl)
theorem r4_eq (K : List Item) (s : St) : den prog ann 67 (.code r4 :: K) s = mreg prog ann 67 none [] none [] [
    ⟨some 11, none, .v fun s => some (s.get 1)⟩,
    ⟨some 12, none, .v fun s => some (s.get 0)⟩,
    ⟨some 13, none, .v fun s => some (s.get 5)⟩,
    ⟨some 14, none, .v fun s => idxSl 1 (s.get 12) (s.get 13)⟩,
    ⟨some 15, none, .v fun s => loadF false 1 (s.get 14)⟩,
    ⟨some 16, none, .v fun s => binA prog .eql 3 (s.get 11) (s.get 15)⟩] K s := (den_reg hf _ K s).trans (by kernel_rfl)
theorem i1_eq (K : List Item) (s : St) : den prog ann 67 (.code i1 :: K) s = ifV prog ann 67 16 i1t i1e K s (s.get 16) := den_if hf (by kernel_rfl) K s
theorem i1t_eq (K : List Item) (s : St) : den prog ann 67 (.code i1t :: K) s = den prog ann 67 (.code r5 :: .code .ret :: K) s := den_flat hf (l := [r5, .ret]) (by kernel_rfl) K s
theorem r5_eq (K : List Item) (s : St) : den prog ann 67 (.code r5 :: K) s = mreg prog ann 67 none [] none [] [
    ⟨some 17, none, .v fun s => some (s.get 5)⟩,
    ⟨some 4, none, .v fun s => some (s.get 17)⟩] K s := (den_reg hf _ K s).trans (by kernel_rfl)
theorem i1e_eq (K : List Item) (s : St) : den prog ann 67 (.code i1e :: K) s = den prog ann 67 (K) s := den_flat hf (l := []) (by kernel_rfl) K s
theorem r6_eq (K : List Item) (s : St) : den prog ann 67 (.code r6 :: K) s = mreg prog ann 67 (some [0, 1, 7, 8]) [] none [] [
    ⟨some 18, none, .v fun s => binA prog .add 3 (s.get 8) (.int .i64 1)⟩,
    ⟨some 8, none, .v fun s => some (s.get 18)⟩] K s := (den_reg hf _ K s).trans (by kernel_rfl)
theorem r7_eq (K : List Item) (s : St) : den prog ann 67 (.code r7 :: K) s = mreg prog ann 67 (some []) [] none [] [
    ⟨some 4, none, .v fun s => some (.int .i64 (-1))⟩] K s := (den_reg hf _ K s).trans (by kernel_rfl)
theorem ret_eq (K : List Item) (s : St) : den prog ann 67 (.code .ret :: K) s = finM true [fun s => some (s.get 4)] s := (den_ret hf K s).trans (by kernel_rfl)
theorem nil_eq (s : St) : den prog ann 67 [] s = finM true [fun s => some (s.get 4)] s := (den_nil hf s).trans (by kernel_rfl)
theorem inBlock_eq (id : Nat) (K : List Item) (s : St) : den prog ann 67 (.inBlock id :: K) s = den prog ann 67 K s := den_inBlock hf id K s
theorem exit_eq (id : Nat) (K : List Item) (s : St) : den prog ann 67 (.code (.exit id) :: K) s = exitV prog ann 67 (exitTo id K) s := den_exitV hf id K s
theorem call_eq (v0 v1 : AV) (m : Mem) (h : closedL [v0, v1] = true) : denC prog ann 67 [v0, v1] m = (den prog ann 67 [.code b] ⟨[(0, v0), (1, v1)], 19, Mem.empty⟩).bind fun r => some (r.1, m) := (denC_pure hf (b := b) (by kernel_rfl) (by kernel_rfl) (by kernel_rfl) h m).trans (by kernel_rfl)
theorem pure_eq : (ann 67).pure = true := by kernel_rfl
attribute [simp] b_eq r0_eq r1_eq k0_eq l0_eq r2_eq i0_eq i0t_eq i0e_eq k1_eq r3_eq r4_eq i1_eq i1t_eq r5_eq i1e_eq r6_eq r7_eq ret_eq nil_eq inBlock_eq exit_eq pure_eq
end slices_Index_int
end Go.Proofs.Ytpghadmpegncgaa

/-
  BODIES OF FUNCTIONS OF THE PROGRAM AS SMALL OPERATIONS (written by gen.py; checked by the kernel against the program). Conditions: none.
-/
namespace Go.Proofs.Ytpghadmpegncgaa
open Go.AM
open Go.Proofs.Try (prog)
set_option maxRecDepth 100000
set_option linter.all false


namespace r04_Distances
/-- pommel/pommelref04.Distances -/
noncomputable def b : Code := (Try.f26.body).getD .skip
theorem hf : prog.funcs[26]? = some Try.f26 := by kernel_rfl
noncomputable def r0 : Code := findReg b 0
noncomputable def r1 : Code := findReg b 1
noncomputable def r2 : Code := findReg b 2
noncomputable def k0 : Code := findBlk b 0
noncomputable def l0 : Code := loopOf k0
noncomputable def L0 (x0 x3 x4 : AV) (m : Mem) (K : List Item) : Option Res := den prog ann 26 (.code l0 :: .inLoop l0 :: .inBlock 0 :: K) ⟨[(0, x0), (3, x3), (4, x4)], 40, m⟩
noncomputable def r3 : Code := findReg b 3
noncomputable def i0 : Code := findCond b 0
noncomputable def i0t : Code := thenOf i0
noncomputable def i0e : Code := elseOf i0
noncomputable def k1 : Code := findBlk b 1
noncomputable def r5 : Code := findReg b 5
noncomputable def k2 : Code := findBlk b 2
noncomputable def l2 : Code := loopOf k2
noncomputable def L2 (x0 x3 x4 x5 : AV) (m : Mem) (K : List Item) : Option Res := den prog ann 26 (.code l2 :: .inLoop l2 :: .inBlock 2 :: K) ⟨[(0, x0), (3, x3), (4, x4), (5, x5)], 40, m⟩
noncomputable def r6 : Code := findReg b 6
noncomputable def i1 : Code := findCond b 1
noncomputable def i1t : Code := thenOf i1
noncomputable def i1e : Code := elseOf i1
noncomputable def k3 : Code := findBlk b 3
noncomputable def r8 : Code := findReg b 8
noncomputable def r7 : Code := findReg b 7
noncomputable def r4 : Code := findReg b 4
noncomputable def r9 : Code := findReg b 9
theorem b_eq (K : List Item) (s : St) : den prog ann 26 (.code b :: K) s = den prog ann 26 (.code r0 :: .code r1 :: .code r2 :: .code k0 :: .code r9 :: .code .ret :: K) s := den_flat hf (l := [r0, r1, r2, k0, r9, .ret]) (by kernel_rfl) K s
theorem r0_eq (K : List Item) (s : St) : den prog ann 26 (.code r0 :: K) s = mreg prog ann 26 none [] none [] [
    ⟨some 2, none, .v fun s => some (.nils)⟩] K s := (den_reg hf _ K s).trans (by kernel_rfl)
theorem r1_eq (K : List Item) (s : St) : den prog ann 26 (.code r1 :: K) s = mreg prog ann 26 none [] none [] [
    ⟨some 6, none, .v fun s => some (s.get 0)⟩,
    ⟨some 7, none, .v fun s => some (s.get 0)⟩,
    ⟨some 8, none, .v fun s => lenSl (s.get 7)⟩,
    ⟨some 9, none, .v fun s => binA prog .sub 3 (s.get 8) (.int .i64 1)⟩,
    ⟨some 10, none, .v fun s => idxSl 1 (s.get 6) (s.get 9)⟩,
    ⟨some 11, none, .v fun s => loadF false 1 (s.get 10)⟩,
    ⟨some 12, none, .v fun s => binA prog .add 3 (s.get 11) (.int .i64 1)⟩,
    ⟨some 13, none, .w false none fun s => makeA 1 8 (.int .i64 0) s.m (s.get 12) (s.get 12)⟩,
    ⟨some 3, none, .v fun s => some (s.get 13)⟩] K s := (den_reg hf _ K s).trans (by kernel_rfl)
theorem r2_eq (K : List Item) (s : St) : den prog ann 26 (.code r2 :: K) s = mreg prog ann 26 none [] none [] [
    ⟨some 4, none, .v fun s => some (.int .i64 0)⟩] K s := (den_reg hf _ K s).trans (by kernel_rfl)
theorem k0_eq (K : List Item) (t : List (Nat × AV)) (m : Mem) : den prog ann 26 (.code k0 :: K) ⟨t, 40, m⟩ = L0 (get t 0) (get t 3) (get t 4) m K := den_loop_enter hf (b := l0) (id := 3) (l := [0, 3, 4]) (by kernel_rfl) (by kernel_rfl) (by kernel_rfl) K _
theorem l0_eq (K : List Item) (t : List (Nat × AV)) (m : Mem) : den prog ann 26 (.inLoop l0 :: .inBlock 0 :: K) ⟨t, 40, m⟩ = L0 (get t 0) (get t 3) (get t 4) m K := den_loop_again hf (id := 3) (l := [0, 3, 4]) (by kernel_rfl) (by kernel_rfl) (.inBlock 0 :: K) _
theorem L0_eq (x0 x3 x4 : AV) (m : Mem) (K : List Item) : L0 x0 x3 x4 m K = den prog ann 26 (.code r3 :: .code i0 :: .code k1 :: .code r4 :: .inLoop l0 :: .inBlock 0 :: K) ⟨[(0, x0), (3, x3), (4, x4)], 40, m⟩ := den_flat hf (l := [r3, i0, k1, r4]) (by kernel_rfl) _ _
theorem r3_eq (K : List Item) (s : St) : den prog ann 26 (.code r3 :: K) s = mreg prog ann 26 (some [0, 3, 4]) [] none [] [
    ⟨some 14, none, .v fun s => some (s.get 4)⟩,
    ⟨some 15, none, .v fun s => some (s.get 0)⟩,
    ⟨some 16, none, .v fun s => lenSl (s.get 15)⟩,
    ⟨some 17, none, .v fun s => binA prog .lss 3 (s.get 14) (s.get 16)⟩] K s := (den_reg hf _ K s).trans (by kernel_rfl)
theorem i0_eq (K : List Item) (s : St) : den prog ann 26 (.code i0 :: K) s = ifV prog ann 26 17 i0t i0e K s (s.get 17) := den_if hf (by kernel_rfl) K s
theorem i0t_eq (K : List Item) (s : St) : den prog ann 26 (.code i0t :: K) s = den prog ann 26 (K) s := den_flat hf (l := []) (by kernel_rfl) K s
theorem i0e_eq (K : List Item) (s : St) : den prog ann 26 (.code i0e :: K) s = den prog ann 26 (.code (.exit 0) :: K) s := den_flat hf (l := [(.exit 0)]) (by kernel_rfl) K s
theorem k1_eq (K : List Item) (s : St) : den prog ann 26 (.code k1 :: K) s = den prog ann 26 (.code r5 :: .code k2 :: .inBlock 1 :: K) s := den_blk hf (b := blkOf k1) (l := [r5, k2]) (by kernel_rfl) (by kernel_rfl) K s
theorem r5_eq (K : List Item) (s : St) : den prog ann 26 (.code r5 :: K) s = mreg prog ann 26 none [] none [] [
    ⟨some 5, none, .v fun s => some (.int .i64 0)⟩] K s := (den_reg hf _ K s).trans (by kernel_rfl)
theorem k2_eq (K : List Item) (t : List (Nat × AV)) (m : Mem) : den prog ann 26 (.code k2 :: K) ⟨t, 40, m⟩ = L2 (get t 0) (get t 3) (get t 4) (get t 5) m K := den_loop_enter hf (b := l2) (id := 6) (l := [0, 3, 4, 5]) (by kernel_rfl) (by kernel_rfl) (by kernel_rfl) K _
theorem l2_eq (K : List Item) (t : List (Nat × AV)) (m : Mem) : den prog ann 26 (.inLoop l2 :: .inBlock 2 :: K) ⟨t, 40, m⟩ = L2 (get t 0) (get t 3) (get t 4) (get t 5) m K := den_loop_again hf (id := 6) (l := [0, 3, 4, 5]) (by kernel_rfl) (by kernel_rfl) (.inBlock 2 :: K) _
theorem L2_eq (x0 x3 x4 x5 : AV) (m : Mem) (K : List Item) : L2 x0 x3 x4 x5 m K = den prog ann 26 (.code r6 :: .code i1 :: .code k3 :: .code r7 :: .inLoop l2 :: .inBlock 2 :: K) ⟨[(0, x0), (3, x3), (4, x4), (5, x5)], 40, m⟩ := den_flat hf (l := [r6, i1, k3, r7]) (by kernel_rfl) _ _
theorem r6_eq (K : List Item) (s : St) : den prog ann 26 (.code r6 :: K) s = mreg prog ann 26 (some [0, 3, 4, 5]) [] none [] [
    ⟨some 20, none, .v fun s => some (s.get 5)⟩,
    ⟨some 21, none, .v fun s => some (s.get 4)⟩,
    ⟨some 22, none, .v fun s => binA prog .lss 3 (s.get 20) (s.get 21)⟩] K s := (den_reg hf _ K s).trans (by kernel_rfl)
theorem i1_eq (K : List Item) (s : St) : den prog ann 26 (.code i1 :: K) s = ifV prog ann 26 22 i1t i1e K s (s.get 22) := den_if hf (by kernel_rfl) K s
theorem i1t_eq (K : List Item) (s : St) : den prog ann 26 (.code i1t :: K) s = den prog ann 26 (K) s := den_flat hf (l := []) (by kernel_rfl) K s
theorem i1e_eq (K : List Item) (s : St) : den prog ann 26 (.code i1e :: K) s = den prog ann 26 (.code (.exit 2) :: K) s := den_flat hf (l := [(.exit 2)]) (by kernel_rfl) K s
theorem k3_eq (K : List Item) (s : St) : den prog ann 26 (.code k3 :: K) s = den prog ann 26 (.code r8 :: .inBlock 3 :: K) s := den_blk hf (b := blkOf k3) (l := [r8]) (by kernel_rfl) (by kernel_rfl) K s
theorem r8_draw : drawOk (fun g => (ann g).pure) (modeOf (ann 26) (idOf r8)) (frzOf (ann 26) (idOf r8)) (opsOf r8) = true := drawOk_of (an := [0, 0, 0, 6, 14, 0, 0, 96, 224, 510, 1023, 2047, 4095, 8191, 16383]) (by kernel_rfl) (by kernel_rfl)
theorem r8_eq (K : List Item) (s : St) : den prog ann 26 (.code r8 :: K) s = mreg prog ann 26 none [] (some 15) [] [
    ⟨some 25, none, .v fun s => some (s.get 3)⟩,
    ⟨some 26, none, .v fun s => some (s.get 0)⟩,
    ⟨some 27, none, .v fun s => some (s.get 4)⟩,
    ⟨some 28, none, .v fun s => idxSl 1 (s.get 26) (s.get 27)⟩,
    ⟨some 29, none, .v fun s => loadF false 1 (s.get 28)⟩,
    ⟨some 30, none, .v fun s => some (s.get 0)⟩,
    ⟨some 31, none, .v fun s => some (s.get 5)⟩,
    ⟨some 32, none, .v fun s => idxSl 1 (s.get 30) (s.get 31)⟩,
    ⟨some 33, none, .v fun s => loadF false 1 (s.get 32)⟩,
    ⟨some 34, none, .v fun s => binA prog .sub 3 (s.get 29) (s.get 33)⟩,
    ⟨some 35, none, .v fun s => idxSl 1 (s.get 25) (s.get 34)⟩,
    ⟨some 36, none, .v fun s => loadA false 1 s.m (s.get 35)⟩,
    ⟨some 37, none, .v fun s => binA prog .add 3 (s.get 36) (.int .i64 1)⟩,
    ⟨some 38, none, .v fun s => idxSl 1 (s.get 25) (s.get 34)⟩,
    ⟨none, none, .w false (some 14) fun s => stA false 1 s.m (s.get 38) (s.get 37)⟩] K s := (den_regD hf r8_draw K s).trans (by kernel_rfl)
theorem r7_eq (K : List Item) (s : St) : den prog ann 26 (.code r7 :: K) s = mreg prog ann 26 (some [0, 3, 4, 5]) [] none [] [
    ⟨some 23, none, .v fun s => some (s.get 5)⟩,
    ⟨some 24, none, .v fun s => binA prog .add 3 (s.get 23) (.int .i64 1)⟩,
    ⟨some 5, none, .v fun s => some (s.get 24)⟩] K s := (den_reg hf _ K s).trans (by kernel_rfl)
theorem r4_eq (K : List Item) (s : St) : den prog ann 26 (.code r4 :: K) s = mreg prog ann 26 (some [0, 3, 4]) [] none [] [
    ⟨some 18, none, .v fun s => some (s.get 4)⟩,
    ⟨some 19, none, .v fun s => binA prog .add 3 (s.get 18) (.int .i64 1)⟩,
    ⟨some 4, none, .v fun s => some (s.get 19)⟩] K s := (den_reg hf _ K s).trans (by kernel_rfl)
theorem r9_eq (K : List Item) (s : St) : den prog ann 26 (.code r9 :: K) s = mreg prog ann 26 (some [3]) [] none [] [
    ⟨some 39, none, .v fun s => some (s.get 3)⟩,
    ⟨some 2, none, .v fun s => some (s.get 39)⟩] K s := (den_reg hf _ K s).trans (by kernel_rfl)
theorem ret_eq (K : List Item) (s : St) : den prog ann 26 (.code .ret :: K) s = finM true [fun s => some (s.get 2)] s := (den_ret hf K s).trans (by kernel_rfl)
theorem nil_eq (s : St) : den prog ann 26 [] s = finM true [fun s => some (s.get 2)] s := (den_nil hf s).trans (by kernel_rfl)
theorem inBlock_eq (id : Nat) (K : List Item) (s : St) : den prog ann 26 (.inBlock id :: K) s = den prog ann 26 K s := den_inBlock hf id K s
theorem exit_eq (id : Nat) (K : List Item) (s : St) : den prog ann 26 (.code (.exit id) :: K) s = exitV prog ann 26 (exitTo id K) s := den_exitV hf id K s
theorem call_eq (v0 : AV) (m : Mem) (h : closedL [v0] = true) : denC prog ann 26 [v0] m = (den prog ann 26 [.code b] ⟨[(0, v0)], 40, Mem.empty⟩).bind fun r => some (r.1, m) := (denC_pure hf (b := b) (by kernel_rfl) (by kernel_rfl) (by kernel_rfl) h m).trans (by kernel_rfl)
theorem pure_eq : (ann 26).pure = true := by kernel_rfl
attribute [simp] b_eq r0_eq r1_eq r2_eq k0_eq l0_eq r3_eq i0_eq i0t_eq i0e_eq k1_eq r5_eq k2_eq l2_eq r6_eq i1_eq i1t_eq i1e_eq k3_eq r8_eq r7_eq r4_eq r9_eq ret_eq nil_eq inBlock_eq exit_eq pure_eq
end r04_Distances

namespace r04_Misses
/-- pommel/pommelref04.Misses -/
noncomputable def b : Code := (Try.f27.body).getD .skip
theorem hf : prog.funcs[27]? = some Try.f27 := by kernel_rfl
noncomputable def r0 : Code := findReg b 0
noncomputable def r1 : Code := findReg b 1
noncomputable def r2 : Code := findReg b 2
noncomputable def k0 : Code := findBlk b 0
noncomputable def l0 : Code := loopOf k0
noncomputable def L0 (x3 x4 x5 : AV) (m : Mem) (K : List Item) : Option Res := den prog ann 27 (.code l0 :: .inLoop l0 :: .inBlock 0 :: K) ⟨[(3, x3), (4, x4), (5, x5)], 25, m⟩
noncomputable def r3 : Code := findReg b 3
noncomputable def i0 : Code := findCond b 0
noncomputable def i0t : Code := thenOf i0
noncomputable def i0e : Code := elseOf i0
noncomputable def k1 : Code := findBlk b 1
noncomputable def r5 : Code := findReg b 5
noncomputable def i1 : Code := findCond b 1
noncomputable def i1t : Code := thenOf i1
noncomputable def i1e : Code := elseOf i1
noncomputable def r6 : Code := findReg b 6
noncomputable def r4 : Code := findReg b 4
noncomputable def r7 : Code := findReg b 7
theorem b_eq (K : List Item) (s : St) : den prog ann 27 (.code b :: K) s = den prog ann 27 (.code r0 :: .code r1 :: .code r2 :: .code k0 :: .code r7 :: .code .ret :: K) s := den_flat hf (l := [r0, r1, r2, k0, r7, .ret]) (by kernel_rfl) K s
theorem r0_eq (K : List Item) (s : St) : den prog ann 27 (.code r0 :: K) s = mreg prog ann 27 none [] none [] [
    ⟨some 2, none, .v fun s => some (.nils)⟩] K s := (den_reg hf _ K s).trans (by kernel_rfl)
theorem r1_eq (K : List Item) (s : St) : den prog ann 27 (.code r1 :: K) s = mreg prog ann 27 none [] none [] [
    ⟨some 6, none, .v fun s => some (s.get 0)⟩,
    ⟨some 7, none, .c 0 (fun s => (.fn 26 [] [])) fun s => [(s.get 6)]⟩,
    ⟨some 8, none, .w false none fun s => bslM s.m 0 (bslA 1 0 [.int .i64 0] [])⟩,
    ⟨some 3, none, .v fun s => some (s.get 7)⟩,
    ⟨some 4, none, .v fun s => some (s.get 8)⟩] K s := (den_reg hf _ K s).trans (by kernel_rfl)
theorem r2_eq (K : List Item) (s : St) : den prog ann 27 (.code r2 :: K) s = mreg prog ann 27 none [] none [] [
    ⟨some 5, none, .v fun s => some (.int .i64 1)⟩] K s := (den_reg hf _ K s).trans (by kernel_rfl)
theorem k0_eq (K : List Item) (t : List (Nat × AV)) (m : Mem) : den prog ann 27 (.code k0 :: K) ⟨t, 25, m⟩ = L0 (get t 3) (get t 4) (get t 5) m K := den_loop_enter hf (b := l0) (id := 3) (l := [3, 4, 5]) (by kernel_rfl) (by kernel_rfl) (by kernel_rfl) K _
theorem l0_eq (K : List Item) (t : List (Nat × AV)) (m : Mem) : den prog ann 27 (.inLoop l0 :: .inBlock 0 :: K) ⟨t, 25, m⟩ = L0 (get t 3) (get t 4) (get t 5) m K := den_loop_again hf (id := 3) (l := [3, 4, 5]) (by kernel_rfl) (by kernel_rfl) (.inBlock 0 :: K) _
theorem L0_eq (x3 x4 x5 : AV) (m : Mem) (K : List Item) : L0 x3 x4 x5 m K = den prog ann 27 (.code r3 :: .code i0 :: .code k1 :: .code r4 :: .inLoop l0 :: .inBlock 0 :: K) ⟨[(3, x3), (4, x4), (5, x5)], 25, m⟩ := den_flat hf (l := [r3, i0, k1, r4]) (by kernel_rfl) _ _
theorem r3_eq (K : List Item) (s : St) : den prog ann 27 (.code r3 :: K) s = mreg prog ann 27 (some [3, 4, 5]) [] none [] [
    ⟨some 9, none, .v fun s => some (s.get 5)⟩,
    ⟨some 10, none, .v fun s => some (s.get 3)⟩,
    ⟨some 11, none, .v fun s => lenSl (s.get 10)⟩,
    ⟨some 12, none, .v fun s => binA prog .lss 3 (s.get 9) (s.get 11)⟩] K s := (den_reg hf _ K s).trans (by kernel_rfl)
theorem i0_eq (K : List Item) (s : St) : den prog ann 27 (.code i0 :: K) s = ifV prog ann 27 12 i0t i0e K s (s.get 12) := den_if hf (by kernel_rfl) K s
theorem i0t_eq (K : List Item) (s : St) : den prog ann 27 (.code i0t :: K) s = den prog ann 27 (K) s := den_flat hf (l := []) (by kernel_rfl) K s
theorem i0e_eq (K : List Item) (s : St) : den prog ann 27 (.code i0e :: K) s = den prog ann 27 (.code (.exit 0) :: K) s := den_flat hf (l := [(.exit 0)]) (by kernel_rfl) K s
theorem k1_eq (K : List Item) (s : St) : den prog ann 27 (.code k1 :: K) s = den prog ann 27 (.code r5 :: .code i1 :: .inBlock 1 :: K) s := den_blk hf (b := blkOf k1) (l := [r5, i1]) (by kernel_rfl) (by kernel_rfl) K s
theorem r5_eq (K : List Item) (s : St) : den prog ann 27 (.code r5 :: K) s = mreg prog ann 27 none [] none [] [
    ⟨some 15, none, .v fun s => some (s.get 3)⟩,
    ⟨some 16, none, .v fun s => some (s.get 5)⟩,
    ⟨some 17, none, .v fun s => idxSl 1 (s.get 15) (s.get 16)⟩,
    ⟨some 18, none, .v fun s => loadF false 1 (s.get 17)⟩,
    ⟨some 19, none, .v fun s => binA prog .eql 3 (s.get 18) (.int .i64 0)⟩] K s := (den_reg hf _ K s).trans (by kernel_rfl)
theorem i1_eq (K : List Item) (s : St) : den prog ann 27 (.code i1 :: K) s = ifV prog ann 27 19 i1t i1e K s (s.get 19) := den_if hf (by kernel_rfl) K s
theorem i1t_eq (K : List Item) (s : St) : den prog ann 27 (.code i1t :: K) s = den prog ann 27 (.code r6 :: K) s := den_flat hf (l := [r6]) (by kernel_rfl) K s
theorem r6_eq (K : List Item) (s : St) : den prog ann 27 (.code r6 :: K) s = mreg prog ann 27 none [] none [] [
    ⟨some 20, none, .v fun s => some (s.get 4)⟩,
    ⟨some 21, none, .v fun s => some (s.get 5)⟩,
    ⟨some 22, none, .v fun s => bslF 1 (bslA 1 1 [.int .i64 0] [(0, (s.get 21))])⟩,
    ⟨some 23, none, .w false none fun s => appendA 1 8 s.m (s.get 20) (s.get 22)⟩,
    ⟨some 4, none, .v fun s => some (s.get 23)⟩] K s := (den_reg hf _ K s).trans (by kernel_rfl)
theorem i1e_eq (K : List Item) (s : St) : den prog ann 27 (.code i1e :: K) s = den prog ann 27 (K) s := den_flat hf (l := []) (by kernel_rfl) K s
theorem r4_eq (K : List Item) (s : St) : den prog ann 27 (.code r4 :: K) s = mreg prog ann 27 (some [3, 4, 5]) [] none [] [
    ⟨some 13, none, .v fun s => some (s.get 5)⟩,
    ⟨some 14, none, .v fun s => binA prog .add 3 (s.get 13) (.int .i64 1)⟩,
    ⟨some 5, none, .v fun s => some (s.get 14)⟩] K s := (den_reg hf _ K s).trans (by kernel_rfl)
theorem r7_eq (K : List Item) (s : St) : den prog ann 27 (.code r7 :: K) s = mreg prog ann 27 (some [4]) [] none [] [
    ⟨some 24, none, .v fun s => some (s.get 4)⟩,
    ⟨some 2, none, .v fun s => some (s.get 24)⟩] K s := (den_reg hf _ K s).trans (by kernel_rfl)
theorem ret_eq (K : List Item) (s : St) : den prog ann 27 (.code .ret :: K) s = finM true [fun s => some (s.get 2)] s := (den_ret hf K s).trans (by kernel_rfl)
theorem nil_eq (s : St) : den prog ann 27 [] s = finM true [fun s => some (s.get 2)] s := (den_nil hf s).trans (by kernel_rfl)
theorem inBlock_eq (id : Nat) (K : List Item) (s : St) : den prog ann 27 (.inBlock id :: K) s = den prog ann 27 K s := den_inBlock hf id K s
theorem exit_eq (id : Nat) (K : List Item) (s : St) : den prog ann 27 (.code (.exit id) :: K) s = exitV prog ann 27 (exitTo id K) s := den_exitV hf id K s
theorem call_eq (v0 : AV) (m : Mem) (h : closedL [v0] = true) : denC prog ann 27 [v0] m = (den prog ann 27 [.code b] ⟨[(0, v0)], 25, Mem.empty⟩).bind fun r => some (r.1, m) := (denC_pure hf (b := b) (by kernel_rfl) (by kernel_rfl) (by kernel_rfl) h m).trans (by kernel_rfl)
theorem pure_eq : (ann 27).pure = true := by kernel_rfl
attribute [simp] b_eq r0_eq r1_eq r2_eq k0_eq l0_eq r3_eq i0_eq i0t_eq i0e_eq k1_eq r5_eq i1_eq i1t_eq r6_eq i1e_eq r4_eq r7_eq ret_eq nil_eq inBlock_eq exit_eq pure_eq
end r04_Misses

end Go.Proofs.Ytpghadmpegncgaa

/-
  STRAPS (1): the order of lists, the same list; what a strap is. Conditions: none.
-/
namespace Go.Proofs.Ytpghadmpegncgaa
open Go.AM
open Go.Proofs.Try (prog)
set_option linter.all false
set_option maxRecDepth 100000
set_option maxHeartbeats 4000000

theorem before_loop {va vb : AV} {a b : List Int} (ha : IsInts va a) (hb : IsInts vb b) (hla : a.length < 4611686018427387904) : ∀ (n i : Nat) (m : Mem), a.length - i ≤ n → i ≤ a.length → i ≤ b.length →
    r01_Before.L0 va vb (.int .i64 i) m [.code r01_Before.r6, .code .ret] = some (.bool (lexLt (a.drop i) (b.drop i)), Mem.empty) := by
  intro n
  induction n with
  | zero =>
    intro i m hn hi hi2
    have e : i = a.length := by omega
    subst e
    rw [r01_Before.L0_eq]
    simp [ha.len, hb.len]
    rcases Nat.lt_or_ge a.length b.length with h | h
    · simp [h, drop_nth h, lexLt]
    · have e2 : a.length = b.length := by omega
      simp [e2, lexLt]
  | succ n ih =>
    intro i m hn hi hi2
    rw [r01_Before.L0_eq]
    simp [ha.len, hb.len]
    by_cases h1 : i < a.length
    · by_cases h2 : i < b.length
      · simp [ha.len, hb.len, h1, h2, ha.idx, hb.idx, ints_head]
        by_cases h3 : nth a i = nth b i
        · simp [h3]
          rw [wrap_id (by omega) (by omega)]
          have := ih (i + 1) ⟨m.h, m.nx + 9⟩ (by omega) (by omega) (by omega)
          simp at this
          rw [this, lexLt_drop h1 h2]
          simp [h3]
        · simp [h3, ha.idx, hb.idx, h1, h2, ints_head]
          rw [lexLt_drop h1 h2]
          simp [h3]
      · have e : i = b.length := by omega
        subst e
        simp [ha.len, hb.len, h1]
        have h4 : ¬ a.length < b.length := by omega
        simp [h4, drop_nth h1, lexLt]
    · have e : i = a.length := by omega
      subst e
      simp [ha.len, hb.len]
      rcases Nat.lt_or_ge a.length b.length with h | h
      · simp [h, drop_nth h, lexLt]
      · have e2 : a.length = b.length := by omega
        simp [e2, lexLt]

theorem before_spec {va vb : AV} {a b : List Int} (ha : IsInts va a) (hb : IsInts vb b) (hla : a.length < 4611686018427387904) (m : Mem) :
    denC prog ann 44 [va, vb] m = some (.bool (lexLt a b), m) := by
  rw [r01_Before.call_eq _ _ _ (by simp [ha.closed, hb.closed])]
  have := before_loop ha hb hla _ 0 Mem.empty (Nat.le_refl _) (by omega) (by omega)
  simp at this
  simp [this]


theorem same_spec {va vb : AV} {a b : List Int} (ha : IsInts va a) (hb : IsInts vb b) (hla : a.length < 4611686018427387904) (hlb : b.length < 4611686018427387904) (m : Mem) :
    denC prog ann 15 [va, vb] m = some (.bool (decide (a = b)), m) := by
  rw [r01_Same.call_eq _ _ _ (by simp [ha.closed, hb.closed])]
  simp [ha.closed, hb.closed, before_spec ha hb hla, before_spec hb ha hlb]
  have h := lexLt_same a b
  cases h1 : lexLt a b <;> cases h2 : lexLt b a <;> simp [h1, h2] at h <;> (try subst h) <;> simp [ha.closed, hb.closed, before_spec hb ha hlb, h1, h2, *]

/-! ### What a strap is -/
def ascB (l : List Int) (k i : Nat) : Bool := (List.range' i k).all fun i => decide (nth l (i - 1) < nth l i)
/-- A strap: from 0, rising, no more than 1000 long. -/
structure StrapOk (l : List Int) : Prop where
  pos : 0 < l.length
  few : l.length ≤ 40
  zero : nth l 0 = 0
  asc : ∀ i, i + 1 < l.length → nth l i < nth l (i + 1)
  top : nth l (l.length - 1) ≤ 1000
theorem StrapOk.lt {l : List Int} (s : StrapOk l) {i : Nat} : ∀ {j : Nat}, i < j → j < l.length → nth l i < nth l j
  | j + 1, h, hj => by
    rcases Nat.eq_or_lt_of_le (Nat.le_of_lt_succ h) with e | e
    · subst e; exact s.asc i hj
    · exact Int.lt_trans (s.lt e (by omega)) (s.asc j hj)
theorem StrapOk.le {l : List Int} (s : StrapOk l) {i j : Nat} (h : i ≤ j) (hj : j < l.length) : nth l i ≤ nth l j := by
  rcases Nat.eq_or_lt_of_le h with e | e
  · subst e; exact Int.le_refl _
  · exact Int.le_of_lt (s.lt e hj)
theorem StrapOk.nonneg {l : List Int} (s : StrapOk l) {i : Nat} (hi : i < l.length) : 0 ≤ nth l i := by
  have := s.le (Nat.zero_le i) hi
  rw [s.zero] at this; exact this
theorem StrapOk.most {l : List Int} (s : StrapOk l) {i : Nat} (hi : i < l.length) : nth l i ≤ 1000 := by
  have := s.le (show i ≤ l.length - 1 by omega) (by omega)
  have := s.top
  omega
/-- Why a list is no strap. -/
inductive StrapErr (l : List Int) : Int → Prop where
  | long (h : 40 < l.length) : StrapErr l 3
  | form (h : l.length ≤ 40) (h2 : ¬ StrapOk l) : StrapErr l 2
  | ok (h : StrapOk l) : StrapErr l 0
theorem StrapErr.uniq {l : List Int} {a b : Int} (h : StrapErr l a) (k : StrapErr l b) : a = b := by
  cases h with
  | long h => cases k with
    | long _ => rfl
    | form h2 _ => omega
    | ok s => have := s.few; omega
  | form h h2 => cases k with
    | long _ => omega
    | form _ _ => rfl
    | ok s => exact absurd s h2
  | ok s => cases k with
    | long _ => have := s.few; omega
    | form _ h => exact absurd s h
    | ok _ => rfl

end Go.Proofs.Ytpghadmpegncgaa

/-
  STRAPS (2): the specification's test; how often each distance comes. Conditions: none.
-/
namespace Go.Proofs.Ytpghadmpegncgaa
open Go.AM
open Go.Proofs.Try (prog)
set_option linter.all false
set_option maxRecDepth 100000
set_option maxHeartbeats 4000000

def okAt (l : List Int) (j : Nat) : Bool := if j = 0 then decide (nth l 0 = 0) else decide (nth l (j - 1) < nth l j) && decide (nth l j ≤ 1000)
/-! ### How often each distance comes -/
def cntF (l : List Int) (x : Int) (k j : Nat) (c : List Int) : List Int := (List.range' j k).foldl (fun c q => bump c (x - nth l q).toNat) c
def cntO (l : List Int) (k i : Nat) (c : List Int) : List Int := (List.range' i k).foldl (fun c i => cntF l (nth l i) i 0 c) c
theorem cntF_succ (l : List Int) (x : Int) (k j : Nat) (c : List Int) : cntF l x (k + 1) j c = cntF l x k (j + 1) (bump c (x - nth l j).toNat) := by simp [cntF, List.range'_succ]
theorem cntO_succ (l : List Int) (k i : Nat) (c : List Int) : cntO l (k + 1) i c = cntO l k (i + 1) (cntF l (nth l i) i 0 c) := by simp [cntO, List.range'_succ]
theorem cntF_len (l : List Int) (x : Int) : ∀ (k j : Nat) (c : List Int), (cntF l x k j c).length = c.length
  | 0, _, _ => rfl
  | k + 1, j, c => by rw [cntF_succ, cntF_len, bump_len]
/-- The counts are small. -/
def Small (c : List Int) (B : Int) : Prop := ∀ g, 0 ≤ nth c g ∧ nth c g ≤ B
theorem Small.bump {c : List Int} {B : Int} (h : Small c B) (hB : 0 ≤ B) (q : Nat) : Small (bump c q) (B + 1) := by
  intro g
  have := h g
  have h2 := h q
  rw [Go.AM.bump, nth_set]
  split <;> omega
theorem Small.cntF {l : List Int} {x : Int} : ∀ {k j : Nat} {c : List Int} {B : Int}, Small c B → 0 ≤ B → Small (cntF l x k j c) (B + k)
  | 0, _, _, _, h, _ => by simpa [Go.Proofs.Ytpghadmpegncgaa.cntF] using h
  | k + 1, j, c, B, h, hB => by
    rw [cntF_succ]
    have := (h.bump hB (x - nth l j).toNat).cntF (l := l) (x := x) (k := k) (j := j + 1) (by omega)
    rwa [show B + 1 + (k : Int) = B + ((k + 1 : Nat) : Int) by omega] at this

/-- What a strap's counting keeps. -/
def top (l : List Int) : Int := nth l (l.length - 1)
def counts (l : List Int) : List Int := cntO l l.length 0 (List.replicate (top l + 1).toNat 0)
theorem cnt_in {v : AV} {l : List Int} (hv : IsInts v l) (s : StrapOk l) {i : Nat} (hi : i < l.length) (oid : Nat) (K : List Item) : ∀ (k j : Nat) (c : List Int) (m : Mem), j + k = i → m.h oid = some (.cells (ints c)) → c.length = (top l + 1).toNat → Small c (1000000 + j) →
    ∃ m', m'.h oid = some (.cells (ints (cntF l (nth l i) k j c))) ∧ r04_Distances.L2 v (.sl oid 1 0 c.length c.length) (.int .i64 i) (.int .i64 j) m (.inBlock 1 :: .code r04_Distances.r4 :: .inLoop r04_Distances.l0 :: .inBlock 0 :: K) = r04_Distances.L0 v (.sl oid 1 0 c.length c.length) (.int .i64 ((i : Int) + 1)) m' K := by
  intro k
  have hfew := s.few
  induction k with
  | zero =>
    intro j c m h1 hm hc hs
    have e : j = i := by omega
    subst e
    have hw : IntKind.wrap .i64 ((j : Int) + 1) = (j : Int) + 1 := wrap_id (by omega) (by omega)
    refine ⟨m, hm, ?_⟩
    rw [r04_Distances.L2_eq]
    simp [hw]
    done
  | succ k ih =>
    intro j c m h1 hm hc hs
    have hj : j < i := by omega
    have hj' : j < l.length := by omega
    have hw : IntKind.wrap .i64 ((j : Int) + 1) = (j : Int) + 1 := wrap_id (by omega) (by omega)
    have a1 := s.lt hj hi
    have a2 := s.nonneg hj'
    have a3 := s.le (show i ≤ l.length - 1 by omega) (by omega)
    have a4 := s.most hi
    obtain ⟨d, hd⟩ : ∃ d : Nat, nth l i - nth l j = d := ⟨(nth l i - nth l j).toNat, by omega⟩
    have hwd : IntKind.wrap .i64 (nth l i - nth l j) = (d : Int) := by rw [hd, wrap_id (by omega) (by omega)]
    have hdl : d < c.length := by rw [hc]; unfold top; omega
    have hs2 := hs d
    have hwc : IntKind.wrap .i64 (nth c d + 1) = nth c d + 1 := wrap_id (by omega) (by omega)
    have hst := fun m hm => ih (j + 1) (bump c d) m (by omega) hm (by rw [bump_len, hc]) (by have := hs.bump (by omega) d; rwa [show (1000000 + (j : Int) + 1) = 1000000 + ((j + 1 : Nat) : Int) by omega] at this)
    rw [bump_len] at hst
    simp only [Int.natCast_add, Int.cast_ofNat_Int] at hst
    have hc' : c.set d (nth c d + 1) = bump c d := rfl
    obtain ⟨m', g1, g2⟩ := hst ⟨upd m.h oid (some (.cells (ints (bump c d)))), m.nx + 15⟩ (by simp)
    refine ⟨m', by rw [cntF_succ, hd]; exact g1, ?_⟩
    rw [r04_Distances.L2_eq]
    simp [hj, hv.idx hi, ints_head hi, hv.idx hj', ints_head hj', hwd, hdl, hm, hwc, hw, hc', g2]
    done
theorem cnt_out {v : AV} {l : List Int} (hv : IsInts v l) (s : StrapOk l) (oid : Nat) : ∀ (k i : Nat) (c : List Int) (m : Mem), i + k = l.length → m.h oid = some (.cells (ints c)) → c.length = (top l + 1).toNat → Small c (1000 * i) →
    r04_Distances.L0 v (.sl oid 1 0 c.length c.length) (.int .i64 i) m [.code r04_Distances.r9, .code .ret] = some (intsV (cntO l k i c), Mem.empty) := by
  intro k
  have hfew := s.few
  have hpos := s.pos
  induction k with
  | zero =>
    intro i c m h1 hm hc hs
    have e : i = l.length := by omega
    subst e
    have ht : 0 ≤ top l := s.nonneg (by omega)
    have hne : c ≠ [] := by intro e; rw [e] at hc; simp at hc; omega
    have hd := fun d => deep_ints hm rfl d
    rw [r04_Distances.L0_eq]
    simp [hv.len, intsV, hne, cntO, hm]
    done
  | succ k ih =>
    intro i c m h1 hm hc hs
    have hi : i < l.length := by omega
    have hw : IntKind.wrap .i64 ((i : Int) + 1) = (i : Int) + 1 := wrap_id (by omega) (by omega)
    obtain ⟨m', g1, g2⟩ := cnt_in hv s hi oid [.code r04_Distances.r9, .code .ret] i 0 c m (by omega) hm hc (fun g => by have := hs g; omega)
    simp only [Int.ofNat_zero, Int.cast_ofNat_Int] at g2
    have hst := ih (i + 1) (cntF l (nth l i) i 0 c) m' (by omega) g1 (by rw [cntF_len, hc]) (by
      have := hs.cntF (l := l) (x := nth l i) (k := i) (j := 0) (by omega)
      intro g; have := this g; omega)
    simp only [Int.natCast_add, Int.cast_ofNat_Int, cntF_len] at hst
    rw [r04_Distances.L0_eq]
    simp [hv.len, hi, g2, hst, cntO_succ]
    done
theorem top_wrap {l : List Int} (s : StrapOk l) : IntKind.wrap .i64 (nth l (l.length - 1) + 1) = nth l (l.length - 1) + 1 := by
  have hpos := s.pos
  have := s.nonneg (i := l.length - 1) (by omega)
  have := s.top
  exact wrap_id (by omega) (by omega)
theorem rdist_spec {v : AV} {l : List Int} (hv : IsInts v l) (s : StrapOk l) (m : Mem) : denC prog ann 26 [v] m = some (intsV (counts l), m) := by
  have hcl : closedL [v] = true := by simp [hv.closed]
  have hpos := s.pos
  have hfew := s.few
  rw [r04_Distances.call_eq _ _ hcl]
  have hlast : l.length - 1 < l.length := by omega
  have hw1 : IntKind.wrap .i64 ((l.length : Int) - 1) = ((l.length - 1 : Nat) : Int) := by rw [wrap_id (by omega) (by omega)]; omega
  have t0 : 0 ≤ top l := s.nonneg (by omega)
  have t1 : top l ≤ 1000 := s.top
  obtain ⟨t, ht⟩ : ∃ t : Nat, top l = t := ⟨(top l).toNat, by omega⟩
  have htw := top_wrap s
  have e : (top l + 1).toNat = t + 1 := by omega
  unfold top at ht
  rw [ht] at htw
  have lp := cnt_out hv s 0 l.length 0 (List.replicate (t + 1) 0) ⟨upd Mem.empty.h 0 (some (.cells (List.replicate (t + 1) (AV.int .i64 0)))), 1⟩ (by omega) (by simp [ints]) (by simp [e]) (fun g => by rw [nth_zero']; omega)
  simp only [Int.ofNat_zero, Int.cast_ofNat_Int, List.length_replicate] at lp
  rw [counts, e]
  simp [hv.len, hw1, hv.idx hlast, ints_head hlast, ht, htw, show (0 : Int) ≤ (t : Int) + 1 by omega, show t ≤ 4611686018427387903 by omega, show (t + 1) * 8 ≤ 70368744177664 by omega, lp]
  done
theorem nth_take {l : List Int} {i j : Nat} (h : j < i) : nth (l.take i) j = nth l j := by simp [nth, List.getD, List.getElem?_take, h]
theorem cn_in {v : AV} {l : List Int} (hv : IsInts v l) (s : StrapOk l) {i : Nat} (hi : i < l.length) {w : AV} (hw0 : IsInts w (l.take i)) (oid : Nat) (K : List Item) : ∀ (k j : Nat) (c : List Int) (m : Mem), j + k = i → m.h oid = some (.cells (ints c)) → c.length = (top l + 1).toNat → Small c (1000000 + j) →
    ∃ m', m'.h oid = some (.cells (ints (cntF l (nth l i) k j c))) ∧ strap_counts.L2 v (.sl oid 1 0 c.length c.length) (.int .i64 (nth l i)) v (.int .i64 l.length) (.int .i64 i) w (.int .i64 i) (.int .i64 j) m (.inBlock 1 :: .code strap_counts.r10 :: .inLoop strap_counts.l0 :: .inBlock 0 :: K) = strap_counts.L0 v (.sl oid 1 0 c.length c.length) v (.int .i64 l.length) (.int .i64 ((i : Int) + 1)) m' K := by
  intro k
  have hfew := s.few
  induction k with
  | zero =>
    intro j c m h1 hm hc hs
    have e : j = i := by omega
    subst e
    have hw : IntKind.wrap .i64 ((j : Int) + 1) = (j : Int) + 1 := wrap_id (by omega) (by omega)
    refine ⟨m, hm, ?_⟩
    rw [strap_counts.L2_eq]
    simp [hw]
    done
  | succ k ih =>
    intro j c m h1 hm hc hs
    have hj : j < i := by omega
    have hj' : j < l.length := by omega
    have hjt : j < (l.take i).length := by simp; omega
    have hix := hw0.idx hjt .i64
    have hih := ints_head hjt
    rw [nth_take hj] at hih
    have hw : IntKind.wrap .i64 ((j : Int) + 1) = (j : Int) + 1 := wrap_id (by omega) (by omega)
    have a1 := s.lt hj hi
    have a2 := s.nonneg hj'
    have a3 := s.le (show i ≤ l.length - 1 by omega) (by omega)
    have a4 := s.most hi
    obtain ⟨d, hd⟩ : ∃ d : Nat, nth l i - nth l j = d := ⟨(nth l i - nth l j).toNat, by omega⟩
    have hwd : IntKind.wrap .i64 (nth l i - nth l j) = (d : Int) := by rw [hd, wrap_id (by omega) (by omega)]
    have hdl : d < c.length := by rw [hc]; unfold top; omega
    have hs2 := hs d
    have hwc : IntKind.wrap .i64 (nth c d + 1) = nth c d + 1 := wrap_id (by omega) (by omega)
    have hst := fun m hm => ih (j + 1) (bump c d) m (by omega) hm (by rw [bump_len, hc]) (by have := hs.bump (by omega) d; rwa [show (1000000 + (j : Int) + 1) = 1000000 + ((j + 1 : Nat) : Int) by omega] at this)
    rw [bump_len] at hst
    simp only [Int.natCast_add, Int.cast_ofNat_Int] at hst
    have hc' : c.set d (nth c d + 1) = bump c d := rfl
    obtain ⟨m', g1, g2⟩ := hst ⟨upd m.h oid (some (.cells (ints (bump c d)))), m.nx⟩ (by simp)
    refine ⟨m', by rw [cntF_succ, hd]; exact g1, ?_⟩
    rw [strap_counts.L2_eq]
    simp [hj, hix, hih, hwd, hdl, hm, hwc, hw, hc', g2]
    done
theorem cn_out {v : AV} {l : List Int} (hv : IsInts v l) (s : StrapOk l) (oid : Nat) : ∀ (k i : Nat) (c : List Int) (m : Mem), i + k = l.length → m.h oid = some (.cells (ints c)) → c.length = (top l + 1).toNat → Small c (1000 * i) →
    strap_counts.L0 v (.sl oid 1 0 c.length c.length) v (.int .i64 l.length) (.int .i64 i) m [.code strap_counts.r11, .code .ret] = some (intsV (cntO l k i c), Mem.empty) := by
  intro k
  have hfew := s.few
  have hpos := s.pos
  induction k with
  | zero =>
    intro i c m h1 hm hc hs
    have e : i = l.length := by omega
    subst e
    have ht : 0 ≤ top l := s.nonneg (by omega)
    have hne : c ≠ [] := by intro e; rw [e] at hc; simp at hc; omega
    rw [strap_counts.L0_eq]
    simp [hv.len, intsV, hne, cntO, hm]
    done
  | succ k ih =>
    intro i c m h1 hm hc hs
    have hi : i < l.length := by omega
    have hw : IntKind.wrap .i64 ((i : Int) + 1) = (i : Int) + 1 := wrap_id (by omega) (by omega)
    obtain ⟨w, hw1, hw2⟩ := slice_ints hv (j := (i : Int)) (by omega) (by omega)
    rw [Int.toNat_natCast] at hw2
    have hwl := hw2.len
    rw [List.length_take, show min i l.length = i by omega] at hwl
    obtain ⟨m', g1, g2⟩ := cn_in hv s hi hw2 oid [.code strap_counts.r11, .code .ret] i 0 c m (by omega) hm hc (fun g => by have := hs g; omega)
    simp only [Int.ofNat_zero, Int.cast_ofNat_Int] at g2
    have hst := ih (i + 1) (cntF l (nth l i) i 0 c) m' (by omega) g1 (by rw [cntF_len, hc]) (by
      have := hs.cntF (l := l) (x := nth l i) (k := i) (j := 0) (by omega)
      intro g; have := this g; omega)
    simp only [Int.natCast_add, Int.cast_ofNat_Int, cntF_len] at hst
    rw [strap_counts.L0_eq]
    simp [hv.len, hi, hv.idx hi, ints_head hi, hw1, hwl, g2, hst, cntO_succ]
    done
theorem counts_spec {v : AV} {l : List Int} (hv : IsInts v l) (s : StrapOk l) (m : Mem) : denC prog ann 50 [v] m = some (intsV (counts l), m) := by
  have hcl : closedL [v] = true := by simp [hv.closed]
  have hpos := s.pos
  have hfew := s.few
  rw [strap_counts.call_eq _ _ hcl]
  have hlast : l.length - 1 < l.length := by omega
  have hw1 : IntKind.wrap .i64 ((l.length : Int) - 1) = ((l.length - 1 : Nat) : Int) := by rw [wrap_id (by omega) (by omega)]; omega
  have t0 : 0 ≤ top l := s.nonneg (by omega)
  have t1 : top l ≤ 1000 := s.top
  obtain ⟨t, ht⟩ : ∃ t : Nat, top l = t := ⟨(top l).toNat, by omega⟩
  have htw := top_wrap s
  have e : (top l + 1).toNat = t + 1 := by omega
  unfold top at ht
  rw [ht] at htw
  have lp := cn_out hv s 0 l.length 0 (List.replicate (t + 1) 0) ⟨upd Mem.empty.h 0 (some (.cells (List.replicate (t + 1) (AV.int .i64 0)))), 1⟩ (by omega) (by simp [ints]) (by simp [e]) (fun g => by rw [nth_zero']; omega)
  simp only [Int.ofNat_zero, Int.cast_ofNat_Int, List.length_replicate] at lp
  rw [counts, e]
  simp [hv.len, hw1, hv.idx hlast, ints_head hlast, ht, htw, show (0 : Int) ≤ (t : Int) + 1 by omega, show t ≤ 4611686018427387903 by omega, show (t + 1) * 8 ≤ 70368744177664 by omega, lp]
  done
end Go.Proofs.Ytpghadmpegncgaa

/-
  STRAPS (3): the distances that a strap lacks. Conditions: none.
-/
namespace Go.Proofs.Ytpghadmpegncgaa
open Go.AM
open Go.Proofs.Try (prog)
set_option linter.all false
set_option maxRecDepth 100000
set_option maxHeartbeats 4000000

theorem cntO_len (l : List Int) : ∀ (k i : Nat) (c : List Int), (cntO l k i c).length = c.length
  | 0, _, _ => rfl
  | k + 1, i, c => by rw [cntO_succ, cntO_len, cntF_len]
theorem counts_len (l : List Int) : (counts l).length = (top l + 1).toNat := by rw [counts, cntO_len, List.length_replicate]
theorem counts_few {l : List Int} (s : StrapOk l) : (counts l).length ≤ 1001 := by
  rw [counts_len]; have := s.top; unfold top; omega
theorem counts_pos {l : List Int} (s : StrapOk l) : 0 < (counts l).length := by
  rw [counts_len]; have := s.nonneg (i := l.length - 1) (by have := s.pos; omega); unfold top; omega
def missL (c : List Int) (k i : Nat) : List Int := ((List.range' i k).filter fun d => decide (0 < d) && decide (nth c d = 0)).map fun d : Nat => (d : Int)
theorem missL_succ (c : List Int) (k i : Nat) : missL c (k + 1) i = if 0 < i ∧ nth c i = 0 then (i : Int) :: missL c k (i + 1) else missL c k (i + 1) := by
  simp only [missL, List.range'_succ, List.filter_cons]
  by_cases h : 0 < i ∧ nth c i = 0 <;> simp [h]

def misses (l : List Int) : List Int := missL (counts l) (counts l).length 0
theorem rmiss_loop {w : AV} {c : List Int} (hw0 : IsInts w c) (hcl : c.length ≤ 1001) (oid : Nat) : ∀ (k i : Nat) (acc : List Int) (m : Mem), i + k = c.length → 0 < i → m.h oid = some (.cells (ints acc)) → acc.length ≤ i →
    r04_Misses.L0 w (.sl oid 1 0 acc.length acc.length) (.int .i64 i) m [.code r04_Misses.r7, .code .ret] = some (.fsl false (acc ++ missL c k i).length (ints (acc ++ missL c k i)), Mem.empty) := by
  intro k
  induction k with
  | zero =>
    intro i acc m h1 q1 ho ha
    have e : i = c.length := by omega
    subst e
    rw [r04_Misses.L0_eq]
    simp [missL, hw0.len, ho]
    done
  | succ k ih =>
    intro i acc m h1 q1 ho ha
    have hi : i < c.length := by omega
    have hw : IntKind.wrap .i64 ((i : Int) + 1) = (i : Int) + 1 := wrap_id (by omega) (by omega)
    by_cases q2 : nth c i = 0
    · have hst := ih (i + 1) (acc ++ [(i : Int)]) ⟨upd m.h oid (some (.cells (ints (acc ++ [(i : Int)])))), m.nx⟩ (by omega) (by omega) (by simp) (by simp; omega)
      have hx : ints acc ++ [AV.int .i64 (i : Int)] = ints (acc ++ [(i : Int)]) := by simp [ints]
      simp only [Int.natCast_add, Int.cast_ofNat_Int, List.append_assoc, List.singleton_append, List.length_append, List.length_singleton, List.length_cons, List.length_nil] at hst
      rw [missL_succ, if_pos ⟨q1, q2⟩, r04_Misses.L0_eq]
      simp [hi, hw0.len, hw0.idx hi, ints_head hi, q2, ho, hx, Mem.set, show acc.length ≤ 4611686018427387903 by omega, show (acc.length + 1) * 8 ≤ 70368744177664 by omega, hw, hst]
      done
    · have hst := ih (i + 1) acc m (by omega) (by omega) ho (by omega)
      simp only [Int.natCast_add, Int.cast_ofNat_Int] at hst
      rw [missL_succ, if_neg (fun h => q2 h.2), r04_Misses.L0_eq]
      simp [hi, hw0.len, hw0.idx hi, ints_head hi, q2, hw, hst]
      done
theorem rmiss_spec {v : AV} {l : List Int} (hv : IsInts v l) (s : StrapOk l) : ∃ w, IsInts w (misses l) ∧ ∀ m, denC prog ann 27 [v] m = some (w, m) := by
  have hcl : closedL [v] = true := by simp [hv.closed]
  have hw0 := intsV_is (counts l)
  have hp := counts_pos s
  have lp := rmiss_loop hw0 (counts_few s) 0 ((counts l).length - 1) 1 [] ⟨upd Mem.empty.h 0 (some (.cells (ints []))), 1⟩ (by omega) (by omega) (by simp) (by simp)
  simp only [Int.ofNat_zero, Int.cast_ofNat_Int, List.nil_append, List.length_nil] at lp
  have e : misses l = missL (counts l) ((counts l).length - 1) 1 := by
    obtain ⟨n, hn⟩ : ∃ n, (counts l).length = n + 1 := ⟨(counts l).length - 1, by omega⟩
    rw [misses, hn, missL_succ, if_neg (fun h => absurd h.1 (by omega))]; rfl
  refine ⟨_, .inr ⟨false, rfl⟩, fun m => ?_⟩
  rw [e, r04_Misses.call_eq _ _ hcl]
  simp [hv.closed, rdist_spec hv s]
  simp at lp
  simp [lp]
  done
end Go.Proofs.Ytpghadmpegncgaa

/-
  BODIES OF FUNCTIONS OF THE PROGRAM AS SMALL OPERATIONS (written by gen.py; checked by the kernel against the program). Conditions: none.
-/
namespace Go.Proofs.Ytpghadmpegncgaa
open Go.AM
open Go.Proofs.Try (prog)
set_option maxRecDepth 100000
set_option linter.all false




end Go.Proofs.Ytpghadmpegncgaa

/-
  STRAPS (4): the first distance that comes twice. Conditions: none.
-/
namespace Go.Proofs.Ytpghadmpegncgaa
open Go.AM
open Go.Proofs.Try (prog)
set_option linter.all false
set_option maxRecDepth 100000
set_option maxHeartbeats 4000000

def fstL (p : Nat → Bool) (k i : Nat) : Int := match (List.range' i k).find? p with | some d => (d : Int) | none => -1
theorem fstL_succ (p : Nat → Bool) (k i : Nat) : fstL p (k + 1) i = if p i = true then (i : Int) else fstL p k (i + 1) := by
  unfold fstL
  rw [List.range'_succ, List.find?_cons]
  cases h : p i <;> simp
def moreP (c : List Int) (d : Nat) : Bool := decide (1 < nth c d)
theorem id_loop {w : AV} {c : List Int} (hw0 : IsInts w c) (hcl : c.length ≤ 1001) (x : Int) (m : Mem) : ∀ (k i : Nat), i + k = c.length →
    slices_Index_int.L0 w (.int .i64 x) (.int .i64 c.length) (.int .i64 i) m [.code slices_Index_int.r7, .code .ret] = some (.int .i64 (fstL (fun i => decide (x = nth c i)) k i), Mem.empty) := by
  intro k
  induction k with
  | zero =>
    intro i h1
    have e : i = c.length := by omega
    subst e
    rw [slices_Index_int.L0_eq]
    simp [fstL]
    done
  | succ k ih =>
    intro i h1
    have hi : i < c.length := by omega
    have hw : IntKind.wrap .i64 ((i : Int) + 1) = (i : Int) + 1 := wrap_id (by omega) (by omega)
    have hst := ih (i + 1) (by omega)
    simp only [Int.natCast_add, Int.cast_ofNat_Int] at hst
    rw [fstL_succ, slices_Index_int.L0_eq]
    by_cases q : x = nth c i
    · rw [decide_eq_true q, if_pos rfl]
      simp [hi, hw0.idx hi, ints_head hi, q]
      done
    · rw [decide_eq_false q, if_neg (by decide)]
      simp [hi, hw0.idx hi, ints_head hi, q, hw, hst]
      done
theorem fstL_mem (c : List Int) (x : Int) : decide (0 ≤ fstL (fun i => decide (x = nth c i)) c.length 0) = decide (x ∈ c) := by
  unfold fstL
  cases h : (List.range' 0 c.length).find? (fun i => decide (x = nth c i)) with
  | some d =>
    have h1 := List.find?_some h
    have h2 := List.mem_of_find?_eq_some h
    simp [List.mem_range'_1] at h1 h2
    have : x ∈ c := by rw [h1, ← nth_get h2]; exact List.getElem_mem h2
    simp [this]
  | none =>
    have h1 := List.find?_eq_none.1 h
    have : ¬ x ∈ c := fun hx => by
      obtain ⟨i, hi, e⟩ := List.getElem_of_mem hx
      rw [nth_get hi] at e
      exact h1 i (by simp [List.mem_range'_1, hi]) (by simp [e])
    simp [this]
theorem has_spec {w : AV} {c : List Int} (hw0 : IsInts w c) (hcl : c.length ≤ 1001) (x : Int) (m : Mem) : denC prog ann 49 [w, .int .i64 x] m = some (.bool (decide (x ∈ c)), m) := by
  have hcl2 : closedL [w, .int .i64 x] = true := by simp [hw0.closed]
  have lp := id_loop hw0 hcl x Mem.empty c.length 0 (by omega)
  simp only [Int.ofNat_zero, Int.cast_ofNat_Int] at lp
  have h67 : ∀ m, denC prog ann 67 [w, .int .i64 x] m = some (.int .i64 (fstL (fun i => decide (x = nth c i)) c.length 0), m) := fun m => by
    rw [slices_Index_int.call_eq _ _ _ hcl2]
    simp [hw0.len, lp]
    done
  rw [slices_Contains_int.call_eq _ _ _ hcl2]
  simp [hw0.closed, h67, fstL_mem]
  done

def twStep (l : List Int) (d : Nat) (acc : List Int) (a : Int) : List Int := if acc.length < 4 ∧ a + (d : Int) ∈ l then acc ++ [a, a + (d : Int)] else acc
/-- What Twice hands back. -/
inductive TwRes (l : List Int) : AV → Int → Int → Prop where
  | bad {e : Int} (h : e ≠ 0) : TwRes l .nils e e
  | none (s : StrapOk l) (h : fstL (moreP (counts l)) (counts l).length 0 < 0) : TwRes l .nils 0 5
  | ok {w : AV} {d : Nat} (s : StrapOk l) (h : fstL (moreP (counts l)) (counts l).length 0 = d) (i : IsInts w (l.foldl (twStep l d) [])) : TwRes l w 0 0
end Go.Proofs.Ytpghadmpegncgaa

/-
  WHAT AN INPUT'S VALUE IS; equality of lists with nothing, and of truth values. Conditions: none.
-/
namespace Go.Proofs.Ytpghadmpegncgaa
open Go.AM
open Go.Proofs.Try (prog)
set_option linter.all false
set_option maxRecDepth 100000
theorem u3 : prog.underlying 3 = some (.int .i64) := by kernel_rfl
theorem u4 : prog.underlying 4 = some .bool := by kernel_rfl
theorem u22 : prog.underlying 22 = some (.slice 3) := by kernel_rfl
@[simp] theorem eql_nils : binA prog .eql 22 .nils .nils = some (.bool true) := by simp [binA, eqT, eqA, u22]
@[simp] theorem neq_nils : binA prog .neq 22 .nils .nils = some (.bool false) := by simp [binA, eqT, eqA, u22]
@[simp] theorem eql_fsl (ex : Bool) (n : Nat) (cs : List AV) : binA prog .eql 22 (.fsl ex n cs) .nils = some (.bool false) := by simp [binA, eqT, eqA, u22]
@[simp] theorem neq_fsl (ex : Bool) (n : Nat) (cs : List AV) : binA prog .neq 22 (.fsl ex n cs) .nils = some (.bool true) := by simp [binA, eqT, eqA, u22]
@[simp] theorem eql_bool (a b : Bool) : binA prog .eql 4 (.bool a) (.bool b) = some (.bool (a == b)) := by simp [binA, eqT, eqA, u4]

theorem dat3 {d : Nat} {cs : List AV} (h : Dat prog (d + 1) 3 cs) : ∃ n, cs = [.int .i64 n] ∧ I64 n := by
  simp only [Dat, u3] at h
  obtain ⟨n, rfl, hw⟩ := h
  refine ⟨n, rfl, ?_⟩
  simp only [Lit.wf, Bool.and_eq_true, decide_eq_true_eq] at hw
  have e1 : IntKind.min .i64 = -9223372036854775808 := by decide
  have e2 : IntKind.max .i64 = 9223372036854775807 := by decide
  rw [e1, e2] at hw
  exact hw

theorem datV3 {d : Nat} {a : AV} (h : DatV prog (d + 1) 3 a) : ∃ n, a = .int .i64 n ∧ I64 n := by
  simp only [DatV, u3] at h
  obtain ⟨n, e, hn⟩ := dat3 h
  exact ⟨n, by simpa using e, hn⟩
def byteC (n : Int) : List AV := [.int .u8 n]
end Go.Proofs.Ytpghadmpegncgaa

/-
  STRAPS (5): the specification's four loops. Conditions: none.
-/
namespace Go.Proofs.Ytpghadmpegncgaa
open Go.AM
open Go.Proofs.Try (prog)
set_option linter.all false
set_option maxRecDepth 100000
set_option maxHeartbeats 8000000

/-- The best four so far: none, or four. -/
def bestV (b : List Int) : AV := if b = [] then .nils else .fsl true b.length (ints b)
def twC (b q : List Int) : Bool := decide (b = []) || (decide (nth q 1 - nth q 0 < nth b 1 - nth b 0) || (decide (nth q 1 - nth q 0 = nth b 1 - nth b 0) && lexLt [nth q 0, nth q 2] [nth b 0, nth b 2]))
def twQ (l : List Int) (i j m n : Nat) : List Int := [nth l i, nth l j, nth l m, nth l n]
def tw7 (l : List Int) (i j m n : Nat) (b : List Int) : List Int := if nth l j - nth l i = nth l n - nth l m then (if twC b (twQ l i j m n) = true then twQ l i j m n else b) else b
def tw6 (l : List Int) (i j m k n : Nat) (b : List Int) : List Int := (List.range' n k).foldl (fun b n => tw7 l i j m n b) b
def tw4 (l : List Int) (i j k m : Nat) (b : List Int) : List Int := (List.range' m k).foldl (fun b m => tw6 l i j m (l.length - (m + 1)) (m + 1) b) b
def tw2 (l : List Int) (i k j : Nat) (b : List Int) : List Int := (List.range' j k).foldl (fun b j => tw4 l i j (l.length - (i + 1)) (i + 1) b) b
def tw0 (l : List Int) (k i : Nat) (b : List Int) : List Int := (List.range' i k).foldl (fun b i => tw2 l i (l.length - (i + 1)) (i + 1) b) b
theorem tw6_succ (l : List Int) (i j m k n : Nat) (b : List Int) : tw6 l i j m (k + 1) n b = tw6 l i j m k (n + 1) (tw7 l i j m n b) := by simp [tw6, List.range'_succ]
theorem tw4_succ (l : List Int) (i j k m : Nat) (b : List Int) : tw4 l i j (k + 1) m b = tw4 l i j k (m + 1) (tw6 l i j m (l.length - (m + 1)) (m + 1) b) := by simp [tw4, List.range'_succ]
theorem tw2_succ (l : List Int) (i k j : Nat) (b : List Int) : tw2 l i (k + 1) j b = tw2 l i k (j + 1) (tw4 l i j (l.length - (i + 1)) (i + 1) b) := by simp [tw2, List.range'_succ]
theorem tw0_succ (l : List Int) (k i : Nat) (b : List Int) : tw0 l (k + 1) i b = tw0 l k (i + 1) (tw2 l i (l.length - (i + 1)) (i + 1) b) := by simp [tw0, List.range'_succ]
/-- The best is none, or four holes. -/
def Fit (b : List Int) : Prop := b = [] ∨ ∃ p q r t : Int, b = [p, q, r, t] ∧ (0 ≤ p ∧ p ≤ 1000) ∧ (0 ≤ q ∧ q ≤ 1000) ∧ 0 ≤ r ∧ r ≤ 1000
theorem Fit.step {l : List Int} (s : StrapOk l) {b : List Int} (h : Fit b) {i j m n : Nat} (hi : i < l.length) (hj : j < l.length) (hm : m < l.length) : Fit (tw7 l i j m n b) := by
  unfold tw7
  split
  · split
    · exact .inr ⟨_, _, _, _, rfl, ⟨s.nonneg hi, s.most hi⟩, ⟨s.nonneg hj, s.most hj⟩, s.nonneg hm, s.most hm⟩
    · exact h
  · exact h
theorem Fit.six {l : List Int} (s : StrapOk l) {i j m : Nat} (hi : i < l.length) (hj : j < l.length) (hm : m < l.length) : ∀ {k n : Nat} {b : List Int}, Fit b → Fit (tw6 l i j m k n b)
  | 0, _, _, h => h
  | k + 1, n, b, h => by rw [tw6_succ]; exact (h.step s hi hj hm).six s hi hj hm
theorem Fit.four {l : List Int} (s : StrapOk l) {i j : Nat} (hi : i < l.length) (hj : j < l.length) : ∀ {k m : Nat} {b : List Int}, m + k ≤ l.length → Fit b → Fit (tw4 l i j k m b)
  | 0, _, _, _, h => h
  | k + 1, m, b, hk, h => by rw [tw4_succ]; exact (h.six s hi hj (by omega)).four s hi hj (by omega)
theorem Fit.two {l : List Int} (s : StrapOk l) {i : Nat} (hi : i < l.length) : ∀ {k j : Nat} {b : List Int}, j + k ≤ l.length → Fit b → Fit (tw2 l i k j b)
  | 0, _, _, _, h => h
  | k + 1, j, b, hk, h => by rw [tw2_succ]; exact (h.four s hi (by omega) (by omega)).two s hi (by omega)

end Go.Proofs.Ytpghadmpegncgaa

/-
  STRAPS (6): how often each distance comes, in plain terms. Conditions: none.
-/
namespace Go.Proofs.Ytpghadmpegncgaa
open Go.AM
set_option linter.all false
set_option maxRecDepth 10000
set_option maxHeartbeats 2000000

def hit (l : List Int) (g i : Nat) : Bool := (List.range' 0 i).any fun q => decide (nth l q = nth l i - g)
def D (l : List Int) (g : Nat) : Nat := l.countP fun a => decide (a - (g : Int) ∈ l)
def U (l : List Int) (g : Nat) : Nat := l.countP fun a => decide (a + (g : Int) ∈ l)
end Go.Proofs.Ytpghadmpegncgaa

/-
  STRAPS (7): the first four holes with one distance are those that the four loops find. Conditions: none.
-/
namespace Go.Proofs.Ytpghadmpegncgaa
open Go.AM
set_option linter.all false
set_option maxRecDepth 10000
set_option maxHeartbeats 2000000

def key (q : List Int) : List Int := [nth q 1 - nth q 0, nth q 0, nth q 2]
def Val (l : List Int) (i j m n : Nat) : Prop := nth l j - nth l i = nth l n - nth l m
theorem twC_key (b q : List Int) : twC b q = (decide (b = []) || lexLt (key q) (key b)) := by
  simp only [twC, key, lexLt]
  by_cases h : nth q 1 - nth q 0 = nth b 1 - nth b 0
  · simp [h]
  · simp [h]
/-- The best of what was seen. -/
def BestOk (l : List Int) (S : Nat → Nat → Nat → Nat → Prop) (b : List Int) : Prop :=
  (b = [] ∨ ∃ i j m n, S i j m n ∧ Val l i j m n ∧ b = twQ l i j m n) ∧ ∀ i j m n, S i j m n → Val l i j m n → b ≠ [] ∧ lexLt (key (twQ l i j m n)) (key b) = false
theorem BestOk.congr {l : List Int} {S S' : Nat → Nat → Nat → Nat → Prop} {b : List Int} (h : BestOk l S b) (e : ∀ i j m n, S i j m n ↔ S' i j m n) : BestOk l S' b := by
  have : S = S' := by funext i j m n; exact propext (e i j m n)
  rwa [← this]
theorem BestOk.step {l : List Int} {S : Nat → Nat → Nat → Nat → Prop} {b : List Int} (h : BestOk l S b) (i j m n : Nat) : BestOk l (fun i' j' m' n' => S i' j' m' n' ∨ (i' = i ∧ j' = j ∧ m' = m ∧ n' = n)) (tw7 l i j m n b) := by
  unfold tw7
  by_cases v : nth l j - nth l i = nth l n - nth l m
  · rw [if_pos v, twC_key]
    cases t : (decide (b = []) || lexLt (key (twQ l i j m n)) (key b)) with
    | true =>
      rw [if_pos rfl]
      refine ⟨.inr ⟨i, j, m, n, .inr ⟨rfl, rfl, rfl, rfl⟩, v, rfl⟩, ?_⟩
      rintro i' j' m' n' (hs | ⟨rfl, rfl, rfl, rfl⟩) v'
      · refine ⟨by simp [twQ], ?_⟩
        obtain ⟨h1, h2⟩ := h.2 i' j' m' n' hs v'
        rw [decide_eq_false h1, Bool.false_or] at t
        cases q : lexLt (key (twQ l i' j' m' n')) (key (twQ l i j m n)) with
        | false => rfl
        | true => rw [lex_trans q t] at h2; cases h2
      · exact ⟨by simp [twQ], lexLt_irr _⟩
    | false =>
      rw [if_neg (by decide)]
      simp only [Bool.or_eq_false_iff, decide_eq_false_iff_not] at t
      refine ⟨h.1.imp id (fun ⟨i', j', m', n', a, b⟩ => ⟨i', j', m', n', .inl a, b⟩), ?_⟩
      rintro i' j' m' n' (hs | ⟨rfl, rfl, rfl, rfl⟩) v'
      · exact h.2 i' j' m' n' hs v'
      · exact t
  · rw [if_neg v]
    refine ⟨h.1.imp id (fun ⟨i', j', m', n', a, b⟩ => ⟨i', j', m', n', .inl a, b⟩), ?_⟩
    rintro i' j' m' n' (hs | ⟨rfl, rfl, rfl, rfl⟩) v'
    · exact h.2 i' j' m' n' hs v'
    · exact absurd v' v
theorem BestOk.six {l : List Int} (i j m : Nat) : ∀ (k n : Nat) {S : Nat → Nat → Nat → Nat → Prop} {b : List Int}, BestOk l S b → BestOk l (fun i' j' m' n' => S i' j' m' n' ∨ (i' = i ∧ j' = j ∧ m' = m ∧ n ≤ n' ∧ n' < n + k)) (tw6 l i j m k n b)
  | 0, n, S, b, h => h.congr fun i' j' m' n' => ⟨.inl, fun h => h.elim id fun h => by omega⟩
  | k + 1, n, S, b, h => by
    rw [tw6_succ]
    refine ((h.step i j m n).six i j m k (n + 1)).congr fun i' j' m' n' => ⟨?_, ?_⟩
    · rintro ((h | h) | h)
      · exact .inl h
      · exact .inr (by omega)
      · exact .inr (by omega)
    · rintro (h | h)
      · exact .inl (.inl h)
      · by_cases e : n' = n
        · exact .inl (.inr (by omega))
        · exact .inr (by omega)
theorem BestOk.four {l : List Int} (i j : Nat) : ∀ (k m : Nat) {S : Nat → Nat → Nat → Nat → Prop} {b : List Int}, m + k ≤ l.length → BestOk l S b → BestOk l (fun i' j' m' n' => S i' j' m' n' ∨ (i' = i ∧ j' = j ∧ (m ≤ m' ∧ m' < m + k) ∧ m' < n' ∧ n' < l.length)) (tw4 l i j k m b)
  | 0, m, S, b, _, h => h.congr fun i' j' m' n' => ⟨.inl, fun h => h.elim id fun h => by omega⟩
  | k + 1, m, S, b, hk, h => by
    rw [tw4_succ]
    refine (BestOk.four i j k (m + 1) (by omega) (h.six i j m (l.length - (m + 1)) (m + 1))).congr fun i' j' m' n' => ⟨?_, ?_⟩
    · rintro ((h | h) | h)
      · exact .inl h
      · exact .inr (by omega)
      · exact .inr (by omega)
    · rintro (h | h)
      · exact .inl (.inl h)
      · by_cases e : m' = m
        · exact .inl (.inr (by omega))
        · exact .inr (by omega)
theorem BestOk.two {l : List Int} (i : Nat) (hi : i < l.length) : ∀ (k j : Nat) {S : Nat → Nat → Nat → Nat → Prop} {b : List Int}, j + k ≤ l.length → BestOk l S b → BestOk l (fun i' j' m' n' => S i' j' m' n' ∨ (i' = i ∧ (j ≤ j' ∧ j' < j + k) ∧ i < m' ∧ m' < n' ∧ n' < l.length)) (tw2 l i k j b)
  | 0, j, S, b, _, h => h.congr fun i' j' m' n' => ⟨.inl, fun h => h.elim id fun h => by omega⟩
  | k + 1, j, S, b, hk, h => by
    rw [tw2_succ]
    refine (BestOk.two i hi k (j + 1) (by omega) (h.four i j (l.length - (i + 1)) (i + 1) (by omega))).congr fun i' j' m' n' => ⟨?_, ?_⟩
    · rintro ((h | h) | h)
      · exact .inl h
      · exact .inr (by omega)
      · exact .inr (by omega)
    · rintro (h | h)
      · exact .inl (.inl h)
      · by_cases e : j' = j
        · exact .inl (.inr (by omega))
        · exact .inr (by omega)
theorem BestOk.zero {l : List Int} : ∀ (k i : Nat) {S : Nat → Nat → Nat → Nat → Prop} {b : List Int}, i + k ≤ l.length → BestOk l S b → BestOk l (fun i' j' m' n' => S i' j' m' n' ∨ ((i ≤ i' ∧ i' < i + k) ∧ (i' < j' ∧ j' < l.length) ∧ i' < m' ∧ m' < n' ∧ n' < l.length)) (tw0 l k i b)
  | 0, i, S, b, _, h => h.congr fun i' j' m' n' => ⟨.inl, fun h => h.elim id fun h => by omega⟩
  | k + 1, i, S, b, hk, h => by
    rw [tw0_succ]
    refine (BestOk.zero k (i + 1) (by omega) (h.two i (by omega) (l.length - (i + 1)) (i + 1) (by omega))).congr fun i' j' m' n' => ⟨?_, ?_⟩
    · rintro ((h | h) | h)
      · exact .inl h
      · exact .inr (by omega)
      · exact .inr (by omega)
    · rintro (h | h)
      · exact .inl (.inl h)
      · by_cases e : i' = i
        · exact .inl (.inr (by omega))
        · exact .inr (by omega)
def Quad (l : List Int) (i j m n : Nat) : Prop := (i < j ∧ j < l.length) ∧ i < m ∧ m < n ∧ n < l.length
end Go.Proofs.Ytpghadmpegncgaa

/-
  BODIES OF FUNCTIONS OF THE PROGRAM AS SMALL OPERATIONS (written by gen.py; checked by the kernel against the program). Conditions: none.
-/
namespace Go.Proofs.Ytpghadmpegncgaa
open Go.AM
open Go.Proofs.Try (prog)
set_option maxRecDepth 100000
set_option linter.all false


end Go.Proofs.Ytpghadmpegncgaa

/-
  STRAPS (8): holes from bytes, and holes counted from the other end. Conditions: none.
-/
namespace Go.Proofs.Ytpghadmpegncgaa
open Go.AM
open Go.Proofs.Try (prog)
set_option linter.all false
set_option maxRecDepth 100000
set_option maxHeartbeats 4000000

theorem nth_last (l : List Int) (x : Int) : nth (l ++ [x]) l.length = x := by rw [nth_append, if_neg (by omega)]; simp [nth]
theorem StrapOk.more {l : List Int} (s : StrapOk l) (h : l.length < 40) {x : Int} (h1 : Go.Proofs.Ytpghadmpegncgaa.top l < x) (h2 : x ≤ 1000) : StrapOk (l ++ [x]) where
  pos := by simp
  few := by simp; omega
  zero := by have := s.pos; rw [nth_append, if_pos this, s.zero]
  asc := fun i hi => by
    simp at hi
    by_cases e : i + 1 < l.length
    · rw [nth_append, nth_append, if_pos (by omega), if_pos e]; exact s.asc i e
    · have e2 : i + 1 = l.length := by omega
      rw [e2, nth_last, nth_append, if_pos (by omega), show i = l.length - 1 by omega]
      exact h1
  top := by simp only [List.length_append, List.length_singleton, Nat.add_sub_cancel]; rw [nth_last]; exact h2
/-! ### Holes counted from the other end -/
def mirL (l : List Int) : List Int := (l.map fun a => top l - a).reverse
end Go.Proofs.Ytpghadmpegncgaa

/-
  BODIES OF FUNCTIONS OF THE PROGRAM AS SMALL OPERATIONS (written by gen.py; checked by the kernel against the program). Conditions: none.
-/
namespace Go.Proofs.Ytpghadmpegncgaa
open Go.AM
open Go.Proofs.Try (prog)
set_option maxRecDepth 100000
set_option linter.all false


namespace strap_search_find
/-- (pommel/strap.search).find -/
noncomputable def b : Code := (Try.f43.body).getD .skip
theorem hf : prog.funcs[43]? = some Try.f43 := by kernel_rfl
noncomputable def r0 : Code := findReg b 0
noncomputable def k0 : Code := findBlk b 0
noncomputable def r1 : Code := findReg b 1
noncomputable def i0 : Code := findCond b 0
noncomputable def i0t : Code := thenOf i0
noncomputable def i0e : Code := elseOf i0
noncomputable def r2 : Code := findReg b 2
noncomputable def r3 : Code := findReg b 3
noncomputable def i1 : Code := findCond b 1
noncomputable def i1t : Code := thenOf i1
noncomputable def i1e : Code := elseOf i1
noncomputable def r4 : Code := findReg b 4
noncomputable def i2 : Code := findCond b 2
noncomputable def i2t : Code := thenOf i2
noncomputable def i2e : Code := elseOf i2
noncomputable def r5 : Code := findReg b 5
noncomputable def r6 : Code := findReg b 6
noncomputable def r7 : Code := findReg b 7
noncomputable def k1 : Code := findBlk b 1
noncomputable def l1 : Code := loopOf k1
noncomputable def L1 (x1 x2 x5 : AV) (m : Mem) (K : List Item) : Option Res := den prog ann 43 (.code l1 :: .inLoop l1 :: .inBlock 1 :: K) ⟨[(1, x1), (2, x2), (5, x5)], 54, m⟩
noncomputable def r8 : Code := findReg b 8
noncomputable def i3 : Code := findCond b 3
noncomputable def i3t : Code := thenOf i3
noncomputable def i3e : Code := elseOf i3
noncomputable def k2 : Code := findBlk b 2
noncomputable def r10 : Code := findReg b 10
noncomputable def r11 : Code := findReg b 11
noncomputable def i4 : Code := findCond b 4
noncomputable def i4t : Code := thenOf i4
noncomputable def i4e : Code := elseOf i4
noncomputable def r12 : Code := findReg b 12
noncomputable def r9 : Code := findReg b 9
noncomputable def r13 : Code := findReg b 13
theorem b_eq (K : List Item) (s : St) : den prog ann 43 (.code b :: K) s = den prog ann 43 (.code r0 :: .code k0 :: .code r7 :: .code k1 :: .code r13 :: .code .ret :: K) s := den_flat hf (l := [r0, k0, r7, k1, r13, .ret]) (by kernel_rfl) K s
theorem r0_eq (K : List Item) (s : St) : den prog ann 43 (.code r0 :: K) s = mreg prog ann 43 none [] none [] [
    ⟨some 2, none, .v fun s => frozenPtr (s.get 0)⟩,
    ⟨some 4, none, .v fun s => some (.nils)⟩] K s := (den_reg hf _ K s).trans (by kernel_rfl)
theorem k0_eq (K : List Item) (s : St) : den prog ann 43 (.code k0 :: K) s = den prog ann 43 (.code r1 :: .code i0 :: .inBlock 0 :: K) s := den_blk hf (b := blkOf k0) (l := [r1, i0]) (by kernel_rfl) (by kernel_rfl) K s
theorem r1_eq (K : List Item) (s : St) : den prog ann 43 (.code r1 :: K) s = mreg prog ann 43 none [] none [] [
    ⟨some 8, none, .v fun s => fieldA 2 (s.get 2)⟩,
    ⟨some 9, none, .v fun s => loadF false 1 (s.get 8)⟩,
    ⟨some 10, none, .v fun s => some (s.get 1)⟩,
    ⟨some 11, none, .c 0 (fun s => (s.get 9)) fun s => [(s.get 10)]⟩,
    ⟨some 12, none, .v fun s => unA .not (s.get 11)⟩,
    ⟨some 7, none, .v fun s => some (s.get 12)⟩] K s := (den_reg hf _ K s).trans (by kernel_rfl)
theorem i0_eq (K : List Item) (s : St) : den prog ann 43 (.code i0 :: K) s = ifV prog ann 43 7 i0t i0e K s (s.get 7) := den_if hf (by kernel_rfl) K s
theorem i0t_eq (K : List Item) (s : St) : den prog ann 43 (.code i0t :: K) s = den prog ann 43 (.code r2 :: .code .ret :: K) s := den_flat hf (l := [r2, .ret]) (by kernel_rfl) K s
theorem r2_eq (K : List Item) (s : St) : den prog ann 43 (.code r2 :: K) s = mreg prog ann 43 none [] none [] [
    ⟨some 4, none, .v fun s => some (.nils)⟩] K s := (den_reg hf _ K s).trans (by kernel_rfl)
theorem i0e_eq (K : List Item) (s : St) : den prog ann 43 (.code i0e :: K) s = den prog ann 43 (.code r3 :: .code i1 :: K) s := den_flat hf (l := [r3, i1]) (by kernel_rfl) K s
theorem r3_eq (K : List Item) (s : St) : den prog ann 43 (.code r3 :: K) s = mreg prog ann 43 none [] none [] [
    ⟨some 14, none, .v fun s => some (s.get 1)⟩,
    ⟨some 15, none, .v fun s => lenSl (s.get 14)⟩,
    ⟨some 16, none, .v fun s => fieldA 0 (s.get 2)⟩,
    ⟨some 17, none, .v fun s => loadF false 1 (s.get 16)⟩,
    ⟨some 18, none, .v fun s => binA prog .eql 3 (s.get 15) (s.get 17)⟩,
    ⟨some 13, none, .v fun s => some (s.get 18)⟩] K s := (den_reg hf _ K s).trans (by kernel_rfl)
theorem i1_eq (K : List Item) (s : St) : den prog ann 43 (.code i1 :: K) s = ifV prog ann 43 13 i1t i1e K s (s.get 13) := den_if hf (by kernel_rfl) K s
theorem i1t_eq (K : List Item) (s : St) : den prog ann 43 (.code i1t :: K) s = den prog ann 43 (.code r4 :: .code i2 :: .code r6 :: .code .ret :: K) s := den_flat hf (l := [r4, i2, r6, .ret]) (by kernel_rfl) K s
theorem r4_eq (K : List Item) (s : St) : den prog ann 43 (.code r4 :: K) s = mreg prog ann 43 none [] none [] [
    ⟨some 19, none, .v fun s => fieldA 3 (s.get 2)⟩,
    ⟨some 20, none, .v fun s => loadF false 1 (s.get 19)⟩,
    ⟨some 21, none, .v fun s => some (s.get 1)⟩,
    ⟨some 22, none, .c 0 (fun s => (s.get 20)) fun s => [(s.get 21)]⟩] K s := (den_reg hf _ K s).trans (by kernel_rfl)
theorem i2_eq (K : List Item) (s : St) : den prog ann 43 (.code i2 :: K) s = ifV prog ann 43 22 i2t i2e K s (s.get 22) := den_if hf (by kernel_rfl) K s
theorem i2t_eq (K : List Item) (s : St) : den prog ann 43 (.code i2t :: K) s = den prog ann 43 (.code r5 :: .code .ret :: K) s := den_flat hf (l := [r5, .ret]) (by kernel_rfl) K s
theorem r5_eq (K : List Item) (s : St) : den prog ann 43 (.code r5 :: K) s = mreg prog ann 43 none [] none [] [
    ⟨some 23, none, .v fun s => some (s.get 1)⟩,
    ⟨some 4, none, .v fun s => some (s.get 23)⟩] K s := (den_reg hf _ K s).trans (by kernel_rfl)
theorem i2e_eq (K : List Item) (s : St) : den prog ann 43 (.code i2e :: K) s = den prog ann 43 (K) s := den_flat hf (l := []) (by kernel_rfl) K s
theorem r6_eq (K : List Item) (s : St) : den prog ann 43 (.code r6 :: K) s = mreg prog ann 43 none [] none [] [
    ⟨some 4, none, .v fun s => some (.nils)⟩] K s := (den_reg hf _ K s).trans (by kernel_rfl)
theorem i1e_eq (K : List Item) (s : St) : den prog ann 43 (.code i1e :: K) s = den prog ann 43 (K) s := den_flat hf (l := []) (by kernel_rfl) K s
theorem r7_eq (K : List Item) (s : St) : den prog ann 43 (.code r7 :: K) s = mreg prog ann 43 (some [1, 2]) [] none [] [
    ⟨some 24, none, .v fun s => some (s.get 1)⟩,
    ⟨some 25, none, .v fun s => some (s.get 1)⟩,
    ⟨some 26, none, .v fun s => lenSl (s.get 25)⟩,
    ⟨some 27, none, .v fun s => binA prog .sub 3 (s.get 26) (.int .i64 1)⟩,
    ⟨some 28, none, .v fun s => idxSl 1 (s.get 24) (s.get 27)⟩,
    ⟨some 29, none, .v fun s => loadF false 1 (s.get 28)⟩,
    ⟨some 30, none, .v fun s => binA prog .add 3 (s.get 29) (.int .i64 1)⟩,
    ⟨some 5, none, .v fun s => some (s.get 30)⟩] K s := (den_reg hf _ K s).trans (by kernel_rfl)
theorem k1_eq (K : List Item) (t : List (Nat × AV)) (m : Mem) : den prog ann 43 (.code k1 :: K) ⟨t, 54, m⟩ = L1 (get t 1) (get t 2) (get t 5) m K := den_loop_enter hf (b := l1) (id := 8) (l := [1, 2, 5]) (by kernel_rfl) (by kernel_rfl) (by kernel_rfl) K _
theorem l1_eq (K : List Item) (t : List (Nat × AV)) (m : Mem) : den prog ann 43 (.inLoop l1 :: .inBlock 1 :: K) ⟨t, 54, m⟩ = L1 (get t 1) (get t 2) (get t 5) m K := den_loop_again hf (id := 8) (l := [1, 2, 5]) (by kernel_rfl) (by kernel_rfl) (.inBlock 1 :: K) _
theorem L1_eq (x1 x2 x5 : AV) (m : Mem) (K : List Item) : L1 x1 x2 x5 m K = den prog ann 43 (.code r8 :: .code i3 :: .code k2 :: .code r9 :: .inLoop l1 :: .inBlock 1 :: K) ⟨[(1, x1), (2, x2), (5, x5)], 54, m⟩ := den_flat hf (l := [r8, i3, k2, r9]) (by kernel_rfl) _ _
theorem r8_eq (K : List Item) (s : St) : den prog ann 43 (.code r8 :: K) s = mreg prog ann 43 (some [1, 2, 5]) [] none [] [
    ⟨some 31, none, .v fun s => some (s.get 5)⟩,
    ⟨some 32, none, .v fun s => fieldA 1 (s.get 2)⟩,
    ⟨some 33, none, .v fun s => loadF false 1 (s.get 32)⟩,
    ⟨some 34, none, .v fun s => fieldA 0 (s.get 2)⟩,
    ⟨some 35, none, .v fun s => loadF false 1 (s.get 34)⟩,
    ⟨some 36, none, .v fun s => some (s.get 1)⟩,
    ⟨some 37, none, .v fun s => lenSl (s.get 36)⟩,
    ⟨some 38, none, .v fun s => binA prog .sub 3 (s.get 35) (s.get 37)⟩,
    ⟨some 39, none, .v fun s => binA prog .sub 3 (s.get 38) (.int .i64 1)⟩,
    ⟨some 40, none, .v fun s => binA prog .sub 3 (s.get 33) (s.get 39)⟩,
    ⟨some 41, none, .v fun s => binA prog .leq 3 (s.get 31) (s.get 40)⟩] K s := (den_reg hf _ K s).trans (by kernel_rfl)
theorem i3_eq (K : List Item) (s : St) : den prog ann 43 (.code i3 :: K) s = ifV prog ann 43 41 i3t i3e K s (s.get 41) := den_if hf (by kernel_rfl) K s
theorem i3t_eq (K : List Item) (s : St) : den prog ann 43 (.code i3t :: K) s = den prog ann 43 (K) s := den_flat hf (l := []) (by kernel_rfl) K s
theorem i3e_eq (K : List Item) (s : St) : den prog ann 43 (.code i3e :: K) s = den prog ann 43 (.code (.exit 1) :: K) s := den_flat hf (l := [(.exit 1)]) (by kernel_rfl) K s
theorem k2_eq (K : List Item) (s : St) : den prog ann 43 (.code k2 :: K) s = den prog ann 43 (.code r10 :: .code r11 :: .code i4 :: .inBlock 2 :: K) s := den_blk hf (b := blkOf k2) (l := [r10, r11, i4]) (by kernel_rfl) (by kernel_rfl) K s
theorem r10_draw : drawOk (fun g => (ann g).pure) (modeOf (ann 43) (idOf r10)) (frzOf (ann 43) (idOf r10)) (opsOf r10) = true := drawOk_of (an := [0, 0, 2, 0, 8, 30, 63, 127]) (by kernel_rfl) (by kernel_rfl)
theorem r10_eq (K : List Item) (s : St) : den prog ann 43 (.code r10 :: K) s = mreg prog ann 43 none [] (some 8) [] [
    ⟨some 44, none, .v fun s => loadF true 4 (s.get 2)⟩,
    ⟨some 45, none, .v fun s => some (s.get 1)⟩,
    ⟨some 46, none, .c 0 (fun s => (.fn 64 [] [])) fun s => [(s.get 45)]⟩,
    ⟨some 47, none, .v fun s => some (s.get 5)⟩,
    ⟨some 48, none, .v fun s => bslF 1 (bslA 1 1 [.int .i64 0] [(0, (s.get 47))])⟩,
    ⟨some 49, none, .w false (some 5) fun s => appendA 1 8 s.m (s.get 46) (s.get 48)⟩,
    ⟨some 50, none, .c 2 (fun s => (.fn 43 [] [])) fun s => [(s.get 44), (s.get 49)]⟩,
    ⟨some 6, none, .v fun s => some (s.get 50)⟩] K s := (den_regD hf r10_draw K s).trans (by kernel_rfl)
theorem r11_eq (K : List Item) (s : St) : den prog ann 43 (.code r11 :: K) s = mreg prog ann 43 none [] none [] [
    ⟨some 51, none, .v fun s => some (s.get 6)⟩,
    ⟨some 52, none, .v fun s => binA prog .neq 22 (s.get 51) (.nils)⟩] K s := (den_reg hf _ K s).trans (by kernel_rfl)
theorem i4_eq (K : List Item) (s : St) : den prog ann 43 (.code i4 :: K) s = ifV prog ann 43 52 i4t i4e K s (s.get 52) := den_if hf (by kernel_rfl) K s
theorem i4t_eq (K : List Item) (s : St) : den prog ann 43 (.code i4t :: K) s = den prog ann 43 (.code r12 :: .code .ret :: K) s := den_flat hf (l := [r12, .ret]) (by kernel_rfl) K s
theorem r12_eq (K : List Item) (s : St) : den prog ann 43 (.code r12 :: K) s = mreg prog ann 43 none [] none [] [
    ⟨some 53, none, .v fun s => some (s.get 6)⟩,
    ⟨some 4, none, .v fun s => some (s.get 53)⟩] K s := (den_reg hf _ K s).trans (by kernel_rfl)
theorem i4e_eq (K : List Item) (s : St) : den prog ann 43 (.code i4e :: K) s = den prog ann 43 (K) s := den_flat hf (l := []) (by kernel_rfl) K s
theorem r9_eq (K : List Item) (s : St) : den prog ann 43 (.code r9 :: K) s = mreg prog ann 43 (some [1, 2, 5]) [] none [] [
    ⟨some 42, none, .v fun s => some (s.get 5)⟩,
    ⟨some 43, none, .v fun s => binA prog .add 3 (s.get 42) (.int .i64 1)⟩,
    ⟨some 5, none, .v fun s => some (s.get 43)⟩] K s := (den_reg hf _ K s).trans (by kernel_rfl)
theorem r13_eq (K : List Item) (s : St) : den prog ann 43 (.code r13 :: K) s = mreg prog ann 43 (some []) [] none [] [
    ⟨some 4, none, .v fun s => some (.nils)⟩] K s := (den_reg hf _ K s).trans (by kernel_rfl)
theorem ret_eq (K : List Item) (s : St) : den prog ann 43 (.code .ret :: K) s = finM true [fun s => some (s.get 4)] s := (den_ret hf K s).trans (by kernel_rfl)
theorem nil_eq (s : St) : den prog ann 43 [] s = finM true [fun s => some (s.get 4)] s := (den_nil hf s).trans (by kernel_rfl)
theorem inBlock_eq (id : Nat) (K : List Item) (s : St) : den prog ann 43 (.inBlock id :: K) s = den prog ann 43 K s := den_inBlock hf id K s
theorem exit_eq (id : Nat) (K : List Item) (s : St) : den prog ann 43 (.code (.exit id) :: K) s = exitV prog ann 43 (exitTo id K) s := den_exitV hf id K s
theorem call_eq (v0 v1 : AV) (m : Mem) (h : closedL [v0, v1] = true) : denC prog ann 43 [v0, v1] m = (den prog ann 43 [.code b] ⟨[(0, v0), (1, v1)], 54, Mem.empty⟩).bind fun r => some (r.1, m) := (denC_pure hf (b := b) (by kernel_rfl) (by kernel_rfl) (by kernel_rfl) h m).trans (by kernel_rfl)
theorem pure_eq : (ann 43).pure = true := by kernel_rfl
attribute [simp] b_eq r0_eq k0_eq r1_eq i0_eq i0t_eq r2_eq i0e_eq r3_eq i1_eq i1t_eq r4_eq i2_eq i2t_eq r5_eq i2e_eq r6_eq i1e_eq r7_eq k1_eq l1_eq r8_eq i3_eq i3t_eq i3e_eq k2_eq r10_eq r11_eq i4_eq i4t_eq r12_eq i4e_eq r9_eq r13_eq ret_eq nil_eq inBlock_eq exit_eq pure_eq
end strap_search_find



end Go.Proofs.Ytpghadmpegncgaa
