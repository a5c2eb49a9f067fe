/-
  SLICES WHOSE ELEMENTS ARE THEMSELVES SLICES, AS VALUES. Conditions: none.
-/
import Derived.Test.YtpghadmpegncgaaKAmG
import Derived.Test.YtpghadmpegncgaaKAmH
set_option linter.all false
namespace Go.AM
set_option linter.all false

def cAt (cs : List AV) (i : Nat) : AV := cs.getD i .undef
theorem cAt_eq {cs : List AV} {i : Nat} (h : i < cs.length) : cs[i]? = some (cAt cs i) := by
  rw [List.getElem?_eq_getElem h]; simp [cAt, List.getD, List.getElem?_eq_getElem h]
theorem cAt_load {cs : List AV} {i : Nat} (h : i < cs.length) : loadF false 1 (.fptr (cs.drop i)) = some (cAt cs i) := by
  simp [List.head?_drop, cAt_eq h]
def gth {α : Type} [Inhabited α] (l : List α) (i : Nat) : α := l.getD i default
/-- A slice of cells that stand each for an element. -/
structure IsVec {α : Type} [Inhabited α] (R : AV → α → Prop) (v : AV) (cs : List AV) (l : List α) : Prop where
  n : cs.length = l.length
  rel : ∀ i, i < l.length → R (cAt cs i) (gth l i)
  cl : closedL cs = true
  v : (v = .nils ∧ l = []) ∨ ∃ ex, v = .fsl ex l.length cs
section
variable {α : Type} [Inhabited α] {R : AV → α → Prop} {v : AV} {cs : List AV} {l : List α}
theorem IsVec.closed (h : IsVec R v cs l) : v.closed = true := by rcases h.v with ⟨rfl, _⟩ | ⟨_, rfl⟩ <;> rfl
theorem IsVec.one (h : IsVec R v cs l) : v.one = true := by rcases h.v with ⟨rfl, _⟩ | ⟨_, rfl⟩ <;> rfl
theorem IsVec.cells (h : IsVec R v cs l) : v.cells = [v] := by rcases h.v with ⟨rfl, _⟩ | ⟨_, rfl⟩ <;> rfl
theorem IsVec.len (h : IsVec R v cs l) : lenSl v = some (.int .i64 l.length) := by rcases h.v with ⟨rfl, rfl⟩ | ⟨_, rfl⟩ <;> simp
theorem IsVec.deep (h : IsVec R v cs l) (hp : Nat → Option AObj) (d : Nat) : AM.deep hp (d + 1) v = some v := by rcases h.v with ⟨rfl, _⟩ | ⟨_, rfl⟩ <;> rfl
theorem IsVec.frz (h : IsVec R v cs l) (m : Mem) : frzV v m = some (v, m) := by rcases h.v with ⟨rfl, _⟩ | ⟨_, rfl⟩ <;> rfl
theorem IsVec.idx (h : IsVec R v cs l) {i : Nat} (hi : i < l.length) (k : IntKind) : idxSl 1 v (.int k (i : Int)) = some (.fptr (cs.drop i)) := by
  rcases h.v with ⟨rfl, rfl⟩ | ⟨_, rfl⟩
  · simp at hi
  · simp [hi]
theorem IsVec.load (h : IsVec R v cs l) {i : Nat} (hi : i < l.length) : loadF false 1 (.fptr (cs.drop i)) = some (cAt cs i) := cAt_load (by rw [h.n]; exact hi)
theorem IsVec.at (h : IsVec R v cs l) {i : Nat} (hi : i < l.length) : R (cAt cs i) (gth l i) := h.rel i hi
end
/-! ### Bools -/
def boolC (b : Bool) : List AV := [.bool b]
def bnth (l : List Bool) (i : Nat) : Bool := l.getD i false
abbrev IsBools : AV → List Bool → Prop := IsSl boolC
end Go.AM

/-
  LISTS OF NUMBERS: what all laws share. Conditions: none.
-/
namespace Go.AM
set_option linter.all false

/-- The lexicographic order. -/
def lexLt : List Int → List Int → Bool
  | [], [] => false
  | [], _ :: _ => true
  | _ :: _, [] => false
  | a :: x, b :: y => if a = b then lexLt x y else decide (a < b)
theorem lexLt_irr : ∀ a : List Int, lexLt a a = false
  | [] => rfl
  | a :: x => by simp [lexLt, lexLt_irr x]
theorem lex_trans : ∀ {a b c : List Int}, lexLt a b = true → lexLt b c = true → lexLt a c = true
  | [], [], _, h, _ => by simp [lexLt] at h
  | [], _ :: _, [], _, h => by simp [lexLt] at h
  | [], _ :: _, _ :: _, _, _ => rfl
  | _ :: _, [], _, h, _ => by simp [lexLt] at h
  | _ :: _, _ :: _, [], _, h => by simp [lexLt] at h
  | x :: a, y :: b, z :: c, h1, h2 => by
    simp only [lexLt] at h1 h2 ⊢
    by_cases e1 : x = y
    · subst e1
      rw [if_pos rfl] at h1
      by_cases e2 : x = z
      · subst e2
        rw [if_pos rfl] at h2 ⊢
        exact lex_trans h1 h2
      · rw [if_neg e2] at h2 ⊢; exact h2
    · rw [if_neg e1, decide_eq_true_eq] at h1
      by_cases e2 : y = z
      · subst e2
        rw [if_neg e1, decide_eq_true_eq]; exact h1
      · rw [if_neg e2, decide_eq_true_eq] at h2
        rw [if_neg (by omega), decide_eq_true_eq]; omega

theorem updNe {h : Nat → Option AObj} {i j : Nat} {o : Option AObj} (e : j ≠ i) : upd h i o j = h j := by simp [upd, show (j == i) = false from beq_eq_false_iff_ne.2 e]
theorem nth_set (l : List Int) (i j : Nat) (v : Int) : nth (l.set i v) j = if i = j ∧ i < l.length then v else nth l j := by
  simp only [nth, List.getD, List.getElem?_set]
  by_cases h : i = j
  · subst h
    by_cases h2 : i < l.length
    · simp [h2]
    · simp [h2, List.getElem?_eq_none (show l.length ≤ i by omega)]
  · simp [h]
theorem nth_zero' (n i : Nat) : nth (List.replicate n 0) i = 0 := by
  simp only [nth, List.getD, List.getElem?_replicate]; split <;> rfl
theorem nth_append (a b : List Int) (i : Nat) : nth (a ++ b) i = if i < a.length then nth a i else nth b (i - a.length) := by
  simp only [nth, List.getD]
  by_cases h : i < a.length
  · rw [List.getElem?_append_left h, if_pos h]
  · rw [List.getElem?_append_right (by omega), if_neg h]
/-- One more at a place. -/
def bump (c : List Int) (h : Nat) : List Int := c.set h (nth c h + 1)
theorem bump_len (c : List Int) (h : Nat) : (bump c h).length = c.length := by simp [bump]
theorem nth_bump {c : List Int} {h : Nat} (hh : h < c.length) (g : Nat) : nth (bump c h) g = if g = h then nth c h + 1 else nth c g := by
  rw [bump, nth_set]
  by_cases e : h = g
  · subst e; simp [hh]
  · have e' : ¬ g = h := fun x => e x.symm
    simp [e, e']

theorem slice_ints {v : AV} {l : List Int} (h : IsInts v l) {j : Int} (h0 : 0 ≤ j) (h1 : j ≤ l.length) : ∃ v', sliceSl 1 v none (some (.int .i64 j)) = some v' ∧ IsInts v' (l.take j.toNat) := by
  rcases h with ⟨rfl, rfl⟩ | ⟨ex, rfl⟩
  · have : j = 0 := by simp at h1; omega
    subst this
    exact ⟨.nils, by simp [sliceSl, bnds, bnd], .inl ⟨rfl, by simp⟩⟩
  · refine ⟨.fsl (ex && j.toNat == l.length) j.toNat (ints (l.take j.toNat)), by simp [sliceSl, bnds, bnd, h0, h1], .inr ⟨ex && j.toNat == l.length, by simp [show min j.toNat l.length = j.toNat by omega]⟩⟩
theorem frz_ints {v : AV} {l : List Int} (h : IsInts v l) (m : Mem) : frzV v m = some (v, m) := by rcases h with ⟨rfl, _⟩ | ⟨_, rfl⟩ <;> simp [frzV]
def I64 (n : Int) : Prop := -9223372036854775808 ≤ n ∧ n ≤ 9223372036854775807
/-! ### A list that grows in memory -/
/-- The slice: nothing at first, then one object. -/
def outI (oid : Nat) (acc : List Int) : AV := if acc = [] then .nils else .sl oid 1 0 acc.length acc.length
def OutI (m : Mem) (oid : Nat) (acc : List Int) : Prop := acc ≠ [] → m.h oid = some (.cells (ints acc)) ∧ oid < m.nx
def intsV (acc : List Int) : AV := if acc = [] then .nils else .fsl false acc.length (ints acc)
theorem intsV_is (acc : List Int) : IsInts (intsV acc) acc := by
  by_cases e : acc = []
  · exact .inl ⟨by rw [intsV, if_pos e], e⟩
  · exact .inr ⟨false, by rw [intsV, if_neg e]⟩
theorem outI_deep {m : Mem} {oid : Nat} {acc : List Int} (h : OutI m oid acc) (d : Nat) : deep m.h (d + 2) (outI oid acc) = some (intsV acc) := by
  by_cases e : acc = []
  · simp [outI, intsV, e]
  · obtain ⟨a, _⟩ := h e
    rw [outI, intsV, if_neg e, if_neg e]
    exact deep_ints a rfl d
/-- One more. -/
theorem outI_app {m : Mem} {oid : Nat} {acc : List Int} (h : OutI m oid acc) (hl : acc.length < 1000000) (x : Int) (ex : Bool) : ∃ oid' m', appendA 1 8 m (outI oid acc) (.fsl ex 1 [.int .i64 x]) = some (outI oid' (acc ++ [x]), m') ∧ OutI m' oid' (acc ++ [x]) ∧ m.nx ≤ m'.nx ∧ (∀ id, id < m.nx → id ≠ oid → m'.h id = m.h id) ∧ (acc = [] → ∀ id, id < m.nx → m'.h id = m.h id) := by
  by_cases e : acc = []
  · subst e
    refine ⟨m.nx, ⟨upd m.h m.nx (some (.cells [.int .i64 x])), m.nx + 1⟩, by simp [outI], fun _ => ⟨by simp, by show m.nx < m.nx + 1; omega⟩, by simp, fun id hid _ => updNe (by omega), fun _ id hid => updNe (by omega)⟩
  · obtain ⟨a, b⟩ := h e
    have hx : ints acc ++ [AV.int .i64 x] = ints (acc ++ [x]) := by simp [ints]
    refine ⟨oid, ⟨upd m.h oid (some (.cells (ints (acc ++ [x])))), m.nx⟩, ?_, fun _ => ⟨by simp, b⟩, Nat.le_refl _, fun id _ hne => updNe hne, fun h => absurd h e⟩
    have e2 : outI oid (acc ++ [x]) = .sl oid 1 0 (acc.length + 1) (acc.length + 1) := by simp [outI]
    rw [e2, outI, if_neg e]
    simp [a, hx, Mem.set, show acc.length ≤ 4611686018427387903 by omega, show (acc.length + 1) * 8 ≤ 70368744177664 by omega]
theorem outI_appT {m : Mem} {oid : Nat} {acc : List Int} (h : OutI m oid acc) (hl : acc.length < 1000000) (x : Int) : ∃ oid' m', appT 1 8 m (outI oid acc) (some (1, [.int .i64 x])) = some (outI oid' (acc ++ [x]), m') ∧ OutI m' oid' (acc ++ [x]) ∧ m.nx ≤ m'.nx ∧ (∀ id, id < m.nx → id ≠ oid → m'.h id = m.h id) ∧ (acc = [] → ∀ id, id < m.nx → m'.h id = m.h id) := by
  obtain ⟨o, m', a, b⟩ := outI_app h hl x false
  exact ⟨o, m', by simpa using a, b⟩
/-- Two more. -/
theorem outI_app2 {m : Mem} {oid : Nat} {acc : List Int} (h : OutI m oid acc) (hl : acc.length < 1000000) (x y : Int) : ∃ oid' m', appT 1 8 m (outI oid acc) (some (2, [.int .i64 x, .int .i64 y])) = some (outI oid' (acc ++ [x, y]), m') ∧ OutI m' oid' (acc ++ [x, y]) ∧ m.nx ≤ m'.nx := by
  by_cases e : acc = []
  · subst e
    exact ⟨m.nx, ⟨upd m.h m.nx (some (.cells [.int .i64 x, .int .i64 y])), m.nx + 1⟩, by simp [outI], fun _ => ⟨by simp, by show m.nx < m.nx + 1; omega⟩, by simp⟩
  · obtain ⟨a, b⟩ := h e
    have hx : ints acc ++ [AV.int .i64 x, AV.int .i64 y] = ints (acc ++ [x, y]) := by simp [ints]
    refine ⟨oid, ⟨upd m.h oid (some (.cells (ints (acc ++ [x, y])))), m.nx⟩, ?_, fun _ => ⟨by simp, b⟩, Nat.le_refl _⟩
    have e2 : outI oid (acc ++ [x, y]) = .sl oid 1 0 (acc.length + 2) (acc.length + 2) := by simp [outI]
    rw [e2, outI, if_neg e]
    simp [a, hx, Mem.set, show acc.length ≤ 4611686018427387902 by omega, show (acc.length + 2) * 8 ≤ 70368744177664 by omega]
end Go.AM

/-
  BODIES OF FUNCTIONS OF THE PROGRAM AS SMALL OPERATIONS (written by gen.py; checked by the kernel against the program). Conditions: none.
-/
namespace Go.Proofs.Ytpghadmpegncgaa
open Go.AM
open Go.Proofs.Try (prog)
set_option maxRecDepth 100000
set_option linter.all false



namespace strap_check
/-- pommel/strap.check -/
noncomputable def b : Code := (Try.f52.body).getD .skip
theorem hf : prog.funcs[52]? = some Try.f52 := by kernel_rfl
noncomputable def r0 : Code := findReg b 0
noncomputable def r1 : Code := findReg b 1
noncomputable def k0 : Code := findBlk b 0
noncomputable def r2 : Code := findReg b 2
noncomputable def i0 : Code := findCond b 0
noncomputable def i0t : Code := thenOf i0
noncomputable def i0e : Code := elseOf i0
noncomputable def r3 : Code := findReg b 3
noncomputable def r4 : Code := findReg b 4
noncomputable def i1 : Code := findCond b 1
noncomputable def i1t : Code := thenOf i1
noncomputable def i1e : Code := elseOf i1
noncomputable def r5 : Code := findReg b 5
noncomputable def r6 : Code := findReg b 6
noncomputable def k1 : Code := findBlk b 1
noncomputable def l1 : Code := loopOf k1
noncomputable def L1 (x0 x4 : AV) (m : Mem) (K : List Item) : Option Res := den prog ann 52 (.code l1 :: .inLoop l1 :: .inBlock 1 :: K) ⟨[(0, x0), (4, x4)], 43, m⟩
noncomputable def r7 : Code := findReg b 7
noncomputable def i2 : Code := findCond b 2
noncomputable def i2t : Code := thenOf i2
noncomputable def i2e : Code := elseOf i2
noncomputable def k2 : Code := findBlk b 2
noncomputable def r9 : Code := findReg b 9
noncomputable def i3 : Code := findCond b 3
noncomputable def i3t : Code := thenOf i3
noncomputable def i3e : Code := elseOf i3
noncomputable def r10 : Code := findReg b 10
noncomputable def r8 : Code := findReg b 8
noncomputable def r11 : Code := findReg b 11
theorem b_eq (K : List Item) (s : St) : den prog ann 52 (.code b :: K) s = den prog ann 52 (.code r0 :: .code r1 :: .code k0 :: .code r6 :: .code k1 :: .code r11 :: .code .ret :: K) s := den_flat hf (l := [r0, r1, k0, r6, k1, r11, .ret]) (by kernel_rfl) K s
theorem r0_eq (K : List Item) (s : St) : den prog ann 52 (.code r0 :: K) s = mreg prog ann 52 none [] none [] [
    ⟨some 2, none, .v fun s => some (.int .i64 0)⟩] K s := (den_reg hf _ K s).trans (by kernel_rfl)
theorem r1_eq (K : List Item) (s : St) : den prog ann 52 (.code r1 :: K) s = mreg prog ann 52 none [] none [] [
    ⟨some 5, none, .v fun s => some (s.get 0)⟩,
    ⟨some 6, none, .v fun s => lenSl (s.get 5)⟩,
    ⟨some 3, none, .v fun s => some (s.get 6)⟩] K s := (den_reg hf _ K s).trans (by kernel_rfl)
theorem k0_eq (K : List Item) (s : St) : den prog ann 52 (.code k0 :: K) s = den prog ann 52 (.code r2 :: .code i0 :: .inBlock 0 :: K) s := den_blk hf (b := blkOf k0) (l := [r2, i0]) (by kernel_rfl) (by kernel_rfl) K s
theorem r2_eq (K : List Item) (s : St) : den prog ann 52 (.code r2 :: K) s = mreg prog ann 52 none [] none [] [
    ⟨some 8, none, .v fun s => some (s.get 3)⟩,
    ⟨some 9, none, .v fun s => binA prog .gtr 3 (s.get 8) (.int .i64 40)⟩,
    ⟨some 7, none, .v fun s => some (s.get 9)⟩] K s := (den_reg hf _ K s).trans (by kernel_rfl)
theorem i0_eq (K : List Item) (s : St) : den prog ann 52 (.code i0 :: K) s = ifV prog ann 52 7 i0t i0e K s (s.get 7) := den_if hf (by kernel_rfl) K s
theorem i0t_eq (K : List Item) (s : St) : den prog ann 52 (.code i0t :: K) s = den prog ann 52 (.code r3 :: .code .ret :: K) s := den_flat hf (l := [r3, .ret]) (by kernel_rfl) K s
theorem r3_eq (K : List Item) (s : St) : den prog ann 52 (.code r3 :: K) s = mreg prog ann 52 none [] none [] [
    ⟨some 2, none, .v fun s => some (.int .i64 3)⟩] K s := (den_reg hf _ K s).trans (by kernel_rfl)
theorem i0e_eq (K : List Item) (s : St) : den prog ann 52 (.code i0e :: K) s = den prog ann 52 (.code r4 :: .code i1 :: K) s := den_flat hf (l := [r4, i1]) (by kernel_rfl) K s
theorem r4_eq (K : List Item) (s : St) : den prog ann 52 (.code r4 :: K) s = mreg prog ann 52 none [] none [] [
    ⟨some 11, none, .v fun s => some (s.get 3)⟩,
    ⟨some 12, none, .v fun s => binA prog .eql 3 (s.get 11) (.int .i64 0)⟩,
    ⟨some 13, none, .v fun s => some (s.get 12)⟩,
    ⟨some 14, some (13, false), .v fun s => some (s.get 0)⟩,
    ⟨some 15, some (13, false), .v fun s => idxSl 1 (s.get 14) (.int .i64 0)⟩,
    ⟨some 16, some (13, false), .v fun s => loadF false 1 (s.get 15)⟩,
    ⟨some 17, some (13, false), .v fun s => binA prog .neq 3 (s.get 16) (.int .i64 0)⟩,
    ⟨some 18, none, .v fun s => pickA (s.get 13) (.bool true) (s.get 17)⟩,
    ⟨some 19, none, .v fun s => some (s.get 18)⟩,
    ⟨some 20, some (19, false), .v fun s => some (s.get 0)⟩,
    ⟨some 21, some (19, false), .v fun s => some (s.get 3)⟩,
    ⟨some 22, some (19, false), .v fun s => binA prog .sub 3 (s.get 21) (.int .i64 1)⟩,
    ⟨some 23, some (19, false), .v fun s => idxSl 1 (s.get 20) (s.get 22)⟩,
    ⟨some 24, some (19, false), .v fun s => loadF false 1 (s.get 23)⟩,
    ⟨some 25, some (19, false), .v fun s => binA prog .gtr 3 (s.get 24) (.int .i64 1000)⟩,
    ⟨some 26, none, .v fun s => pickA (s.get 19) (.bool true) (s.get 25)⟩,
    ⟨some 10, none, .v fun s => some (s.get 26)⟩] K s := (den_reg hf _ K s).trans (by kernel_rfl)
theorem i1_eq (K : List Item) (s : St) : den prog ann 52 (.code i1 :: K) s = ifV prog ann 52 10 i1t i1e K s (s.get 10) := den_if hf (by kernel_rfl) K s
theorem i1t_eq (K : List Item) (s : St) : den prog ann 52 (.code i1t :: K) s = den prog ann 52 (.code r5 :: .code .ret :: K) s := den_flat hf (l := [r5, .ret]) (by kernel_rfl) K s
theorem r5_eq (K : List Item) (s : St) : den prog ann 52 (.code r5 :: K) s = mreg prog ann 52 none [] none [] [
    ⟨some 2, none, .v fun s => some (.int .i64 2)⟩] K s := (den_reg hf _ K s).trans (by kernel_rfl)
theorem i1e_eq (K : List Item) (s : St) : den prog ann 52 (.code i1e :: K) s = den prog ann 52 (K) s := den_flat hf (l := []) (by kernel_rfl) K s
theorem r6_eq (K : List Item) (s : St) : den prog ann 52 (.code r6 :: K) s = mreg prog ann 52 (some [0]) [] none [] [
    ⟨some 4, none, .v fun s => some (.int .i64 1)⟩] K s := (den_reg hf _ K s).trans (by kernel_rfl)
theorem k1_eq (K : List Item) (t : List (Nat × AV)) (m : Mem) : den prog ann 52 (.code k1 :: K) ⟨t, 43, m⟩ = L1 (get t 0) (get t 4) m K := den_loop_enter hf (b := l1) (id := 7) (l := [0, 4]) (by kernel_rfl) (by kernel_rfl) (by kernel_rfl) K _
theorem l1_eq (K : List Item) (t : List (Nat × AV)) (m : Mem) : den prog ann 52 (.inLoop l1 :: .inBlock 1 :: K) ⟨t, 43, m⟩ = L1 (get t 0) (get t 4) m K := den_loop_again hf (id := 7) (l := [0, 4]) (by kernel_rfl) (by kernel_rfl) (.inBlock 1 :: K) _
theorem L1_eq (x0 x4 : AV) (m : Mem) (K : List Item) : L1 x0 x4 m K = den prog ann 52 (.code r7 :: .code i2 :: .code k2 :: .code r8 :: .inLoop l1 :: .inBlock 1 :: K) ⟨[(0, x0), (4, x4)], 43, m⟩ := den_flat hf (l := [r7, i2, k2, r8]) (by kernel_rfl) _ _
theorem r7_eq (K : List Item) (s : St) : den prog ann 52 (.code r7 :: K) s = mreg prog ann 52 (some [0, 4]) [] none [] [
    ⟨some 27, none, .v fun s => some (s.get 4)⟩,
    ⟨some 28, none, .v fun s => some (s.get 0)⟩,
    ⟨some 29, none, .v fun s => lenSl (s.get 28)⟩,
    ⟨some 30, none, .v fun s => binA prog .lss 3 (s.get 27) (s.get 29)⟩] K s := (den_reg hf _ K s).trans (by kernel_rfl)
theorem i2_eq (K : List Item) (s : St) : den prog ann 52 (.code i2 :: K) s = ifV prog ann 52 30 i2t i2e K s (s.get 30) := den_if hf (by kernel_rfl) K s
theorem i2t_eq (K : List Item) (s : St) : den prog ann 52 (.code i2t :: K) s = den prog ann 52 (K) s := den_flat hf (l := []) (by kernel_rfl) K s
theorem i2e_eq (K : List Item) (s : St) : den prog ann 52 (.code i2e :: K) s = den prog ann 52 (.code (.exit 1) :: K) s := den_flat hf (l := [(.exit 1)]) (by kernel_rfl) K s
theorem k2_eq (K : List Item) (s : St) : den prog ann 52 (.code k2 :: K) s = den prog ann 52 (.code r9 :: .code i3 :: .inBlock 2 :: K) s := den_blk hf (b := blkOf k2) (l := [r9, i3]) (by kernel_rfl) (by kernel_rfl) K s
theorem r9_draw : drawOk (fun g => (ann g).pure) (modeOf (ann 52) (idOf r9)) (frzOf (ann 52) (idOf r9)) (opsOf r9) = true := drawOk_of (an := [0, 0, 3, 7, 0, 0, 32, 112, 240, 511]) (by kernel_rfl) (by kernel_rfl)
theorem r9_eq (K : List Item) (s : St) : den prog ann 52 (.code r9 :: K) s = mreg prog ann 52 none [] (some 10) [] [
    ⟨some 33, none, .v fun s => some (s.get 0)⟩,
    ⟨some 34, none, .v fun s => some (s.get 4)⟩,
    ⟨some 35, none, .v fun s => idxSl 1 (s.get 33) (s.get 34)⟩,
    ⟨some 36, none, .v fun s => loadF false 1 (s.get 35)⟩,
    ⟨some 37, none, .v fun s => some (s.get 0)⟩,
    ⟨some 38, none, .v fun s => some (s.get 4)⟩,
    ⟨some 39, none, .v fun s => binA prog .sub 3 (s.get 38) (.int .i64 1)⟩,
    ⟨some 40, none, .v fun s => idxSl 1 (s.get 37) (s.get 39)⟩,
    ⟨some 41, none, .v fun s => loadF false 1 (s.get 40)⟩,
    ⟨some 42, none, .v fun s => binA prog .leq 3 (s.get 36) (s.get 41)⟩] K s := (den_regD hf r9_draw K s).trans (by kernel_rfl)
theorem i3_eq (K : List Item) (s : St) : den prog ann 52 (.code i3 :: K) s = ifV prog ann 52 42 i3t i3e K s (s.get 42) := den_if hf (by kernel_rfl) K s
theorem i3t_eq (K : List Item) (s : St) : den prog ann 52 (.code i3t :: K) s = den prog ann 52 (.code r10 :: .code .ret :: K) s := den_flat hf (l := [r10, .ret]) (by kernel_rfl) K s
theorem r10_eq (K : List Item) (s : St) : den prog ann 52 (.code r10 :: K) s = mreg prog ann 52 none [] none [] [
    ⟨some 2, none, .v fun s => some (.int .i64 2)⟩] K s := (den_reg hf _ K s).trans (by kernel_rfl)
theorem i3e_eq (K : List Item) (s : St) : den prog ann 52 (.code i3e :: K) s = den prog ann 52 (K) s := den_flat hf (l := []) (by kernel_rfl) K s
theorem r8_eq (K : List Item) (s : St) : den prog ann 52 (.code r8 :: K) s = mreg prog ann 52 (some [0, 4]) [] none [] [
    ⟨some 31, none, .v fun s => some (s.get 4)⟩,
    ⟨some 32, none, .v fun s => binA prog .add 3 (s.get 31) (.int .i64 1)⟩,
    ⟨some 4, none, .v fun s => some (s.get 32)⟩] K s := (den_reg hf _ K s).trans (by kernel_rfl)
theorem r11_eq (K : List Item) (s : St) : den prog ann 52 (.code r11 :: K) s = mreg prog ann 52 (some []) [] none [] [
    ⟨some 2, none, .v fun s => some (.int .i64 0)⟩] K s := (den_reg hf _ K s).trans (by kernel_rfl)
theorem ret_eq (K : List Item) (s : St) : den prog ann 52 (.code .ret :: K) s = finM true [fun s => some (s.get 2)] s := (den_ret hf K s).trans (by kernel_rfl)
theorem nil_eq (s : St) : den prog ann 52 [] s = finM true [fun s => some (s.get 2)] s := (den_nil hf s).trans (by kernel_rfl)
theorem inBlock_eq (id : Nat) (K : List Item) (s : St) : den prog ann 52 (.inBlock id :: K) s = den prog ann 52 K s := den_inBlock hf id K s
theorem exit_eq (id : Nat) (K : List Item) (s : St) : den prog ann 52 (.code (.exit id) :: K) s = exitV prog ann 52 (exitTo id K) s := den_exitV hf id K s
theorem call_eq (v0 : AV) (m : Mem) (h : closedL [v0] = true) : denC prog ann 52 [v0] m = (den prog ann 52 [.code b] ⟨[(0, v0)], 43, Mem.empty⟩).bind fun r => some (r.1, m) := (denC_pure hf (b := b) (by kernel_rfl) (by kernel_rfl) (by kernel_rfl) h m).trans (by kernel_rfl)
theorem pure_eq : (ann 52).pure = true := by kernel_rfl
attribute [simp] b_eq r0_eq r1_eq k0_eq r2_eq i0_eq i0t_eq r3_eq i0e_eq r4_eq i1_eq i1t_eq r5_eq i1e_eq r6_eq k1_eq l1_eq r7_eq i2_eq i2t_eq i2e_eq k2_eq r9_eq i3_eq i3t_eq r10_eq i3e_eq r8_eq r11_eq ret_eq nil_eq inBlock_eq exit_eq pure_eq
end strap_check

namespace strap_counts
/-- pommel/strap.counts -/
noncomputable def b : Code := (Try.f50.body).getD .skip
theorem hf : prog.funcs[50]? = some Try.f50 := by kernel_rfl
noncomputable def r0 : Code := findReg b 0
noncomputable def r1 : Code := findReg b 1
noncomputable def r2 : Code := findReg b 2
noncomputable def k0 : Code := findBlk b 0
noncomputable def l0 : Code := loopOf k0
noncomputable def L0 (x0 x3 x16 x17 x18 : AV) (m : Mem) (K : List Item) : Option Res := den prog ann 50 (.code l0 :: .inLoop l0 :: .inBlock 0 :: K) ⟨[(0, x0), (3, x3), (16, x16), (17, x17), (18, x18)], 42, m⟩
noncomputable def r3 : Code := findReg b 3
noncomputable def i0 : Code := findCond b 0
noncomputable def i0t : Code := thenOf i0
noncomputable def i0e : Code := elseOf i0
noncomputable def k1 : Code := findBlk b 1
noncomputable def r4 : Code := findReg b 4
noncomputable def r5 : Code := findReg b 5
noncomputable def k2 : Code := findBlk b 2
noncomputable def l2 : Code := loopOf k2
noncomputable def L2 (x0 x3 x5 x16 x17 x18 x25 x26 x27 : AV) (m : Mem) (K : List Item) : Option Res := den prog ann 50 (.code l2 :: .inLoop l2 :: .inBlock 2 :: K) ⟨[(0, x0), (3, x3), (5, x5), (16, x16), (17, x17), (18, x18), (25, x25), (26, x26), (27, x27)], 42, m⟩
noncomputable def r6 : Code := findReg b 6
noncomputable def i1 : Code := findCond b 1
noncomputable def i1t : Code := thenOf i1
noncomputable def i1e : Code := elseOf i1
noncomputable def k3 : Code := findBlk b 3
noncomputable def r7 : Code := findReg b 7
noncomputable def r8 : Code := findReg b 8
noncomputable def r9 : Code := findReg b 9
noncomputable def r10 : Code := findReg b 10
noncomputable def r11 : Code := findReg b 11
theorem b_eq (K : List Item) (s : St) : den prog ann 50 (.code b :: K) s = den prog ann 50 (.code r0 :: .code r1 :: .code r2 :: .code k0 :: .code r11 :: .code .ret :: K) s := den_flat hf (l := [r0, r1, r2, k0, r11, .ret]) (by kernel_rfl) K s
theorem r0_eq (K : List Item) (s : St) : den prog ann 50 (.code r0 :: K) s = mreg prog ann 50 none [] none [] [
    ⟨some 2, none, .v fun s => some (.nils)⟩] K s := (den_reg hf _ K s).trans (by kernel_rfl)
theorem r1_eq (K : List Item) (s : St) : den prog ann 50 (.code r1 :: K) s = mreg prog ann 50 none [] none [] [
    ⟨some 8, none, .v fun s => some (s.get 0)⟩,
    ⟨some 9, none, .v fun s => some (s.get 0)⟩,
    ⟨some 10, none, .v fun s => lenSl (s.get 9)⟩,
    ⟨some 11, none, .v fun s => binA prog .sub 3 (s.get 10) (.int .i64 1)⟩,
    ⟨some 12, none, .v fun s => idxSl 1 (s.get 8) (s.get 11)⟩,
    ⟨some 13, none, .v fun s => loadF false 1 (s.get 12)⟩,
    ⟨some 14, none, .v fun s => binA prog .add 3 (s.get 13) (.int .i64 1)⟩,
    ⟨some 15, none, .w false none fun s => makeA 1 8 (.int .i64 0) s.m (s.get 14) (s.get 14)⟩,
    ⟨some 3, none, .v fun s => some (s.get 15)⟩] K s := (den_reg hf _ K s).trans (by kernel_rfl)
theorem r2_eq (K : List Item) (s : St) : den prog ann 50 (.code r2 :: K) s = mreg prog ann 50 none [] none [] [
    ⟨some 16, none, .v fun s => some (s.get 0)⟩,
    ⟨some 17, none, .v fun s => lenSl (s.get 16)⟩,
    ⟨some 18, none, .v fun s => some (.int .i64 0)⟩] K s := (den_reg hf _ K s).trans (by kernel_rfl)
theorem k0_eq (K : List Item) (t : List (Nat × AV)) (m : Mem) : den prog ann 50 (.code k0 :: K) ⟨t, 42, m⟩ = L0 (get t 0) (get t 3) (get t 16) (get t 17) (get t 18) m K := den_loop_enter hf (b := l0) (id := 3) (l := [0, 3, 16, 17, 18]) (by kernel_rfl) (by kernel_rfl) (by kernel_rfl) K _
theorem l0_eq (K : List Item) (t : List (Nat × AV)) (m : Mem) : den prog ann 50 (.inLoop l0 :: .inBlock 0 :: K) ⟨t, 42, m⟩ = L0 (get t 0) (get t 3) (get t 16) (get t 17) (get t 18) m K := den_loop_again hf (id := 3) (l := [0, 3, 16, 17, 18]) (by kernel_rfl) (by kernel_rfl) (.inBlock 0 :: K) _
theorem L0_eq (x0 x3 x16 x17 x18 : AV) (m : Mem) (K : List Item) : L0 x0 x3 x16 x17 x18 m K = den prog ann 50 (.code r3 :: .code i0 :: .code k1 :: .code r10 :: .inLoop l0 :: .inBlock 0 :: K) ⟨[(0, x0), (3, x3), (16, x16), (17, x17), (18, x18)], 42, m⟩ := den_flat hf (l := [r3, i0, k1, r10]) (by kernel_rfl) _ _
theorem r3_eq (K : List Item) (s : St) : den prog ann 50 (.code r3 :: K) s = mreg prog ann 50 (some [0, 3, 16, 17, 18]) [] none [] [
    ⟨some 19, none, .v fun s => binA prog .lss 3 (s.get 18) (s.get 17)⟩] K s := (den_reg hf _ K s).trans (by kernel_rfl)
theorem i0_eq (K : List Item) (s : St) : den prog ann 50 (.code i0 :: K) s = ifV prog ann 50 19 i0t i0e K s (s.get 19) := den_if hf (by kernel_rfl) K s
theorem i0t_eq (K : List Item) (s : St) : den prog ann 50 (.code i0t :: K) s = den prog ann 50 (K) s := den_flat hf (l := []) (by kernel_rfl) K s
theorem i0e_eq (K : List Item) (s : St) : den prog ann 50 (.code i0e :: K) s = den prog ann 50 (.code (.exit 0) :: K) s := den_flat hf (l := [(.exit 0)]) (by kernel_rfl) K s
theorem k1_eq (K : List Item) (s : St) : den prog ann 50 (.code k1 :: K) s = den prog ann 50 (.code r4 :: .code r5 :: .code k2 :: .inBlock 1 :: K) s := den_blk hf (b := blkOf k1) (l := [r4, r5, k2]) (by kernel_rfl) (by kernel_rfl) K s
theorem r4_eq (K : List Item) (s : St) : den prog ann 50 (.code r4 :: K) s = mreg prog ann 50 none [] none [] [
    ⟨some 20, none, .v fun s => some (s.get 18)⟩,
    ⟨some 21, none, .v fun s => idxSl 1 (s.get 16) (s.get 18)⟩,
    ⟨some 22, none, .v fun s => loadF false 1 (s.get 21)⟩,
    ⟨some 4, none, .v fun s => some (s.get 20)⟩,
    ⟨some 5, none, .v fun s => some (s.get 22)⟩] K s := (den_reg hf _ K s).trans (by kernel_rfl)
theorem r5_eq (K : List Item) (s : St) : den prog ann 50 (.code r5 :: K) s = mreg prog ann 50 none [] none [] [
    ⟨some 23, none, .v fun s => some (s.get 0)⟩,
    ⟨some 24, none, .v fun s => some (s.get 4)⟩,
    ⟨some 25, none, .v fun s => sliceSl 1 (s.get 23) none (some (s.get 24))⟩,
    ⟨some 26, none, .v fun s => lenSl (s.get 25)⟩,
    ⟨some 27, none, .v fun s => some (.int .i64 0)⟩] K s := (den_reg hf _ K s).trans (by kernel_rfl)
theorem k2_eq (K : List Item) (t : List (Nat × AV)) (m : Mem) : den prog ann 50 (.code k2 :: K) ⟨t, 42, m⟩ = L2 (get t 0) (get t 3) (get t 5) (get t 16) (get t 17) (get t 18) (get t 25) (get t 26) (get t 27) m K := den_loop_enter hf (b := l2) (id := 6) (l := [0, 3, 5, 16, 17, 18, 25, 26, 27]) (by kernel_rfl) (by kernel_rfl) (by kernel_rfl) K _
theorem l2_eq (K : List Item) (t : List (Nat × AV)) (m : Mem) : den prog ann 50 (.inLoop l2 :: .inBlock 2 :: K) ⟨t, 42, m⟩ = L2 (get t 0) (get t 3) (get t 5) (get t 16) (get t 17) (get t 18) (get t 25) (get t 26) (get t 27) m K := den_loop_again hf (id := 6) (l := [0, 3, 5, 16, 17, 18, 25, 26, 27]) (by kernel_rfl) (by kernel_rfl) (.inBlock 2 :: K) _
theorem L2_eq (x0 x3 x5 x16 x17 x18 x25 x26 x27 : AV) (m : Mem) (K : List Item) : L2 x0 x3 x5 x16 x17 x18 x25 x26 x27 m K = den prog ann 50 (.code r6 :: .code i1 :: .code k3 :: .code r9 :: .inLoop l2 :: .inBlock 2 :: K) ⟨[(0, x0), (3, x3), (5, x5), (16, x16), (17, x17), (18, x18), (25, x25), (26, x26), (27, x27)], 42, m⟩ := den_flat hf (l := [r6, i1, k3, r9]) (by kernel_rfl) _ _
theorem r6_eq (K : List Item) (s : St) : den prog ann 50 (.code r6 :: K) s = mreg prog ann 50 (some [0, 3, 5, 16, 17, 18, 25, 26, 27]) [] none [] [
    ⟨some 28, none, .v fun s => binA prog .lss 3 (s.get 27) (s.get 26)⟩] K s := (den_reg hf _ K s).trans (by kernel_rfl)
theorem i1_eq (K : List Item) (s : St) : den prog ann 50 (.code i1 :: K) s = ifV prog ann 50 28 i1t i1e K s (s.get 28) := den_if hf (by kernel_rfl) K s
theorem i1t_eq (K : List Item) (s : St) : den prog ann 50 (.code i1t :: K) s = den prog ann 50 (K) s := den_flat hf (l := []) (by kernel_rfl) K s
theorem i1e_eq (K : List Item) (s : St) : den prog ann 50 (.code i1e :: K) s = den prog ann 50 (.code (.exit 2) :: K) s := den_flat hf (l := [(.exit 2)]) (by kernel_rfl) K s
theorem k3_eq (K : List Item) (s : St) : den prog ann 50 (.code k3 :: K) s = den prog ann 50 (.code r7 :: .code r8 :: .inBlock 3 :: K) s := den_blk hf (b := blkOf k3) (l := [r7, r8]) (by kernel_rfl) (by kernel_rfl) K s
theorem r7_eq (K : List Item) (s : St) : den prog ann 50 (.code r7 :: K) s = mreg prog ann 50 none [] none [] [
    ⟨some 29, none, .v fun s => idxSl 1 (s.get 25) (s.get 27)⟩,
    ⟨some 30, none, .v fun s => loadF false 1 (s.get 29)⟩,
    ⟨some 7, none, .v fun s => some (s.get 30)⟩] K s := (den_reg hf _ K s).trans (by kernel_rfl)
theorem r8_eq (K : List Item) (s : St) : den prog ann 50 (.code r8 :: K) s = mreg prog ann 50 none [] none [] [
    ⟨some 31, none, .v fun s => some (s.get 3)⟩,
    ⟨some 32, none, .v fun s => some (s.get 5)⟩,
    ⟨some 33, none, .v fun s => some (s.get 7)⟩,
    ⟨some 34, none, .v fun s => binA prog .sub 3 (s.get 32) (s.get 33)⟩,
    ⟨some 35, none, .v fun s => idxSl 1 (s.get 31) (s.get 34)⟩,
    ⟨some 36, none, .v fun s => loadA false 1 s.m (s.get 35)⟩,
    ⟨some 37, none, .v fun s => binA prog .add 3 (s.get 36) (.int .i64 1)⟩,
    ⟨some 38, none, .v fun s => idxSl 1 (s.get 31) (s.get 34)⟩,
    ⟨none, none, .w false none fun s => stA false 1 s.m (s.get 38) (s.get 37)⟩] K s := (den_reg hf _ K s).trans (by kernel_rfl)
theorem r9_eq (K : List Item) (s : St) : den prog ann 50 (.code r9 :: K) s = mreg prog ann 50 (some [0, 3, 5, 16, 17, 18, 25, 26, 27]) [] none [] [
    ⟨some 39, none, .v fun s => binA prog .add 3 (s.get 27) (.int .i64 1)⟩,
    ⟨some 27, none, .v fun s => some (s.get 39)⟩] K s := (den_reg hf _ K s).trans (by kernel_rfl)
theorem r10_eq (K : List Item) (s : St) : den prog ann 50 (.code r10 :: K) s = mreg prog ann 50 (some [0, 3, 16, 17, 18]) [] none [] [
    ⟨some 40, none, .v fun s => binA prog .add 3 (s.get 18) (.int .i64 1)⟩,
    ⟨some 18, none, .v fun s => some (s.get 40)⟩] K s := (den_reg hf _ K s).trans (by kernel_rfl)
theorem r11_eq (K : List Item) (s : St) : den prog ann 50 (.code r11 :: K) s = mreg prog ann 50 (some [3]) [] none [] [
    ⟨some 41, none, .v fun s => some (s.get 3)⟩,
    ⟨some 2, none, .v fun s => some (s.get 41)⟩] K s := (den_reg hf _ K s).trans (by kernel_rfl)
theorem ret_eq (K : List Item) (s : St) : den prog ann 50 (.code .ret :: K) s = finM true [fun s => some (s.get 2)] s := (den_ret hf K s).trans (by kernel_rfl)
theorem nil_eq (s : St) : den prog ann 50 [] s = finM true [fun s => some (s.get 2)] s := (den_nil hf s).trans (by kernel_rfl)
theorem inBlock_eq (id : Nat) (K : List Item) (s : St) : den prog ann 50 (.inBlock id :: K) s = den prog ann 50 K s := den_inBlock hf id K s
theorem exit_eq (id : Nat) (K : List Item) (s : St) : den prog ann 50 (.code (.exit id) :: K) s = exitV prog ann 50 (exitTo id K) s := den_exitV hf id K s
theorem call_eq (v0 : AV) (m : Mem) (h : closedL [v0] = true) : denC prog ann 50 [v0] m = (den prog ann 50 [.code b] ⟨[(0, v0)], 42, Mem.empty⟩).bind fun r => some (r.1, m) := (denC_pure hf (b := b) (by kernel_rfl) (by kernel_rfl) (by kernel_rfl) h m).trans (by kernel_rfl)
theorem pure_eq : (ann 50).pure = true := by kernel_rfl
attribute [simp] b_eq r0_eq r1_eq r2_eq k0_eq l0_eq r3_eq i0_eq i0t_eq i0e_eq k1_eq r4_eq r5_eq k2_eq l2_eq r6_eq i1_eq i1t_eq i1e_eq k3_eq r7_eq r8_eq r9_eq r10_eq r11_eq ret_eq nil_eq inBlock_eq exit_eq pure_eq
end strap_counts


namespace strap_Misses
/-- pommel/strap.Misses -/
noncomputable def b : Code := (Try.f23.body).getD .skip
theorem hf : prog.funcs[23]? = some Try.f23 := by kernel_rfl
noncomputable def r0 : Code := findReg b 0
noncomputable def r1 : Code := findReg b 1
noncomputable def r2 : Code := findReg b 2
noncomputable def i0 : Code := findCond b 0
noncomputable def i0t : Code := thenOf i0
noncomputable def i0e : Code := elseOf i0
noncomputable def r3 : Code := findReg b 3
noncomputable def r4 : Code := findReg b 4
noncomputable def r5 : Code := findReg b 5
noncomputable def k0 : Code := findBlk b 0
noncomputable def l0 : Code := loopOf k0
noncomputable def L0 (x5 x14 x15 x16 : AV) (m : Mem) (K : List Item) : Option Res := den prog ann 23 (.code l0 :: .inLoop l0 :: .inBlock 0 :: K) ⟨[(5, x5), (14, x14), (15, x15), (16, x16)], 33, m⟩
noncomputable def r6 : Code := findReg b 6
noncomputable def i1 : Code := findCond b 1
noncomputable def i1t : Code := thenOf i1
noncomputable def i1e : Code := elseOf i1
noncomputable def k1 : Code := findBlk b 1
noncomputable def r7 : Code := findReg b 7
noncomputable def r8 : Code := findReg b 8
noncomputable def i2 : Code := findCond b 2
noncomputable def i2t : Code := thenOf i2
noncomputable def i2e : Code := elseOf i2
noncomputable def r9 : Code := findReg b 9
noncomputable def r10 : Code := findReg b 10
noncomputable def r11 : Code := findReg b 11
theorem b_eq (K : List Item) (s : St) : den prog ann 23 (.code b :: K) s = den prog ann 23 (.code r0 :: .code r1 :: .code r2 :: .code i0 :: .code r4 :: .code r5 :: .code k0 :: .code r11 :: .code .ret :: K) s := den_flat hf (l := [r0, r1, r2, i0, r4, r5, k0, r11, .ret]) (by kernel_rfl) K s
theorem r0_eq (K : List Item) (s : St) : den prog ann 23 (.code r0 :: K) s = mreg prog ann 23 none [] none [] [
    ⟨some 2, none, .v fun s => some (.nils)⟩,
    ⟨some 3, none, .v fun s => some (.int .i64 0)⟩] K s := (den_reg hf _ K s).trans (by kernel_rfl)
theorem r1_eq (K : List Item) (s : St) : den prog ann 23 (.code r1 :: K) s = mreg prog ann 23 none [] none [] [
    ⟨some 8, none, .v fun s => some (s.get 0)⟩,
    ⟨some 9, none, .c 0 (fun s => (.fn 52 [] [])) fun s => [(s.get 8)]⟩,
    ⟨some 4, none, .v fun s => some (s.get 9)⟩] K s := (den_reg hf _ K s).trans (by kernel_rfl)
theorem r2_eq (K : List Item) (s : St) : den prog ann 23 (.code r2 :: K) s = mreg prog ann 23 none [] none [] [
    ⟨some 10, none, .v fun s => some (s.get 4)⟩,
    ⟨some 11, none, .v fun s => binA prog .neq 23 (s.get 10) (.int .i64 0)⟩] K s := (den_reg hf _ K s).trans (by kernel_rfl)
theorem i0_eq (K : List Item) (s : St) : den prog ann 23 (.code i0 :: K) s = ifV prog ann 23 11 i0t i0e K s (s.get 11) := den_if hf (by kernel_rfl) K s
theorem i0t_eq (K : List Item) (s : St) : den prog ann 23 (.code i0t :: K) s = den prog ann 23 (.code r3 :: .code .ret :: K) s := den_flat hf (l := [r3, .ret]) (by kernel_rfl) K s
theorem r3_eq (K : List Item) (s : St) : den prog ann 23 (.code r3 :: K) s = mreg prog ann 23 none [] none [] [
    ⟨some 12, none, .v fun s => some (s.get 4)⟩,
    ⟨some 2, none, .v fun s => some (.nils)⟩,
    ⟨some 3, none, .v fun s => some (s.get 12)⟩] K s := (den_reg hf _ K s).trans (by kernel_rfl)
theorem i0e_eq (K : List Item) (s : St) : den prog ann 23 (.code i0e :: K) s = den prog ann 23 (K) s := den_flat hf (l := []) (by kernel_rfl) K s
theorem r4_eq (K : List Item) (s : St) : den prog ann 23 (.code r4 :: K) s = mreg prog ann 23 none [] none [] [
    ⟨some 5, none, .v fun s => some (.nils)⟩] K s := (den_reg hf _ K s).trans (by kernel_rfl)
theorem r5_eq (K : List Item) (s : St) : den prog ann 23 (.code r5 :: K) s = mreg prog ann 23 none [] none [] [
    ⟨some 13, none, .v fun s => some (s.get 0)⟩,
    ⟨some 14, none, .c 0 (fun s => (.fn 50 [] [])) fun s => [(s.get 13)]⟩,
    ⟨some 15, none, .v fun s => lenSl (s.get 14)⟩,
    ⟨some 16, none, .v fun s => some (.int .i64 0)⟩] K s := (den_reg hf _ K s).trans (by kernel_rfl)
theorem k0_eq (K : List Item) (t : List (Nat × AV)) (m : Mem) : den prog ann 23 (.code k0 :: K) ⟨t, 33, m⟩ = L0 (get t 5) (get t 14) (get t 15) (get t 16) m K := den_loop_enter hf (b := l0) (id := 6) (l := [5, 14, 15, 16]) (by kernel_rfl) (by kernel_rfl) (by kernel_rfl) K _
theorem l0_eq (K : List Item) (t : List (Nat × AV)) (m : Mem) : den prog ann 23 (.inLoop l0 :: .inBlock 0 :: K) ⟨t, 33, m⟩ = L0 (get t 5) (get t 14) (get t 15) (get t 16) m K := den_loop_again hf (id := 6) (l := [5, 14, 15, 16]) (by kernel_rfl) (by kernel_rfl) (.inBlock 0 :: K) _
theorem L0_eq (x5 x14 x15 x16 : AV) (m : Mem) (K : List Item) : L0 x5 x14 x15 x16 m K = den prog ann 23 (.code r6 :: .code i1 :: .code k1 :: .code r10 :: .inLoop l0 :: .inBlock 0 :: K) ⟨[(5, x5), (14, x14), (15, x15), (16, x16)], 33, m⟩ := den_flat hf (l := [r6, i1, k1, r10]) (by kernel_rfl) _ _
theorem r6_eq (K : List Item) (s : St) : den prog ann 23 (.code r6 :: K) s = mreg prog ann 23 (some [5, 14, 15, 16]) [] none [] [
    ⟨some 17, none, .v fun s => binA prog .lss 3 (s.get 16) (s.get 15)⟩] K s := (den_reg hf _ K s).trans (by kernel_rfl)
theorem i1_eq (K : List Item) (s : St) : den prog ann 23 (.code i1 :: K) s = ifV prog ann 23 17 i1t i1e K s (s.get 17) := den_if hf (by kernel_rfl) K s
theorem i1t_eq (K : List Item) (s : St) : den prog ann 23 (.code i1t :: K) s = den prog ann 23 (K) s := den_flat hf (l := []) (by kernel_rfl) K s
theorem i1e_eq (K : List Item) (s : St) : den prog ann 23 (.code i1e :: K) s = den prog ann 23 (.code (.exit 0) :: K) s := den_flat hf (l := [(.exit 0)]) (by kernel_rfl) K s
theorem k1_eq (K : List Item) (s : St) : den prog ann 23 (.code k1 :: K) s = den prog ann 23 (.code r7 :: .code r8 :: .code i2 :: .inBlock 1 :: K) s := den_blk hf (b := blkOf k1) (l := [r7, r8, i2]) (by kernel_rfl) (by kernel_rfl) K s
theorem r7_eq (K : List Item) (s : St) : den prog ann 23 (.code r7 :: K) s = mreg prog ann 23 none [] none [] [
    ⟨some 18, none, .v fun s => some (s.get 16)⟩,
    ⟨some 19, none, .v fun s => idxSl 1 (s.get 14) (s.get 16)⟩,
    ⟨some 20, none, .v fun s => loadF false 1 (s.get 19)⟩,
    ⟨some 6, none, .v fun s => some (s.get 18)⟩,
    ⟨some 7, none, .v fun s => some (s.get 20)⟩] K s := (den_reg hf _ K s).trans (by kernel_rfl)
theorem r8_eq (K : List Item) (s : St) : den prog ann 23 (.code r8 :: K) s = mreg prog ann 23 none [] none [] [
    ⟨some 21, none, .v fun s => some (s.get 6)⟩,
    ⟨some 22, none, .v fun s => binA prog .gtr 3 (s.get 21) (.int .i64 0)⟩,
    ⟨some 23, none, .v fun s => some (s.get 22)⟩,
    ⟨some 24, some (23, true), .v fun s => some (s.get 7)⟩,
    ⟨some 25, some (23, true), .v fun s => binA prog .eql 3 (s.get 24) (.int .i64 0)⟩,
    ⟨some 26, none, .v fun s => pickA (s.get 23) (s.get 25) (.bool false)⟩] K s := (den_reg hf _ K s).trans (by kernel_rfl)
theorem i2_eq (K : List Item) (s : St) : den prog ann 23 (.code i2 :: K) s = ifV prog ann 23 26 i2t i2e K s (s.get 26) := den_if hf (by kernel_rfl) K s
theorem i2t_eq (K : List Item) (s : St) : den prog ann 23 (.code i2t :: K) s = den prog ann 23 (.code r9 :: K) s := den_flat hf (l := [r9]) (by kernel_rfl) K s
theorem r9_eq (K : List Item) (s : St) : den prog ann 23 (.code r9 :: K) s = mreg prog ann 23 none [] none [] [
    ⟨some 27, none, .v fun s => some (s.get 5)⟩,
    ⟨some 28, none, .v fun s => some (s.get 6)⟩,
    ⟨some 29, none, .v fun s => bslF 1 (bslA 1 1 [.int .i64 0] [(0, (s.get 28))])⟩,
    ⟨some 30, none, .w false none fun s => appendA 1 8 s.m (s.get 27) (s.get 29)⟩,
    ⟨some 5, none, .v fun s => some (s.get 30)⟩] K s := (den_reg hf _ K s).trans (by kernel_rfl)
theorem i2e_eq (K : List Item) (s : St) : den prog ann 23 (.code i2e :: K) s = den prog ann 23 (K) s := den_flat hf (l := []) (by kernel_rfl) K s
theorem r10_eq (K : List Item) (s : St) : den prog ann 23 (.code r10 :: K) s = mreg prog ann 23 (some [5, 14, 15, 16]) [] none [] [
    ⟨some 31, none, .v fun s => binA prog .add 3 (s.get 16) (.int .i64 1)⟩,
    ⟨some 16, none, .v fun s => some (s.get 31)⟩] K s := (den_reg hf _ K s).trans (by kernel_rfl)
theorem r11_eq (K : List Item) (s : St) : den prog ann 23 (.code r11 :: K) s = mreg prog ann 23 (some [5]) [] none [] [
    ⟨some 32, none, .v fun s => some (s.get 5)⟩,
    ⟨some 2, none, .v fun s => some (s.get 32)⟩,
    ⟨some 3, none, .v fun s => some (.int .i64 0)⟩] K s := (den_reg hf _ K s).trans (by kernel_rfl)
theorem ret_eq (K : List Item) (s : St) : den prog ann 23 (.code .ret :: K) s = finM true [fun s => some (s.get 2), fun s => some (s.get 3)] s := (den_ret hf K s).trans (by kernel_rfl)
theorem nil_eq (s : St) : den prog ann 23 [] s = finM true [fun s => some (s.get 2), fun s => some (s.get 3)] s := (den_nil hf s).trans (by kernel_rfl)
theorem inBlock_eq (id : Nat) (K : List Item) (s : St) : den prog ann 23 (.inBlock id :: K) s = den prog ann 23 K s := den_inBlock hf id K s
theorem exit_eq (id : Nat) (K : List Item) (s : St) : den prog ann 23 (.code (.exit id) :: K) s = exitV prog ann 23 (exitTo id K) s := den_exitV hf id K s
theorem call_eq (v0 : AV) (m : Mem) (h : closedL [v0] = true) : denC prog ann 23 [v0] m = (den prog ann 23 [.code b] ⟨[(0, v0)], 33, Mem.empty⟩).bind fun r => some (r.1, m) := (denC_pure hf (b := b) (by kernel_rfl) (by kernel_rfl) (by kernel_rfl) h m).trans (by kernel_rfl)
theorem pure_eq : (ann 23).pure = true := by kernel_rfl
attribute [simp] b_eq r0_eq r1_eq r2_eq i0_eq i0t_eq r3_eq i0e_eq r4_eq r5_eq k0_eq l0_eq r6_eq i1_eq i1t_eq i1e_eq k1_eq r7_eq r8_eq i2_eq i2t_eq r9_eq i2e_eq r10_eq r11_eq ret_eq nil_eq inBlock_eq exit_eq pure_eq
end strap_Misses

namespace strap_Twice
/-- pommel/strap.Twice -/
noncomputable def b : Code := (Try.f24.body).getD .skip
theorem hf : prog.funcs[24]? = some Try.f24 := by kernel_rfl
noncomputable def r0 : Code := findReg b 0
noncomputable def r1 : Code := findReg b 1
noncomputable def r2 : Code := findReg b 2
noncomputable def i0 : Code := findCond b 0
noncomputable def i0t : Code := thenOf i0
noncomputable def i0e : Code := elseOf i0
noncomputable def r3 : Code := findReg b 3
noncomputable def r4 : Code := findReg b 4
noncomputable def r5 : Code := findReg b 5
noncomputable def i1 : Code := findCond b 1
noncomputable def i1t : Code := thenOf i1
noncomputable def i1e : Code := elseOf i1
noncomputable def r6 : Code := findReg b 6
noncomputable def r7 : Code := findReg b 7
noncomputable def r8 : Code := findReg b 8
noncomputable def k0 : Code := findBlk b 0
noncomputable def l0 : Code := loopOf k0
noncomputable def L0 (x0 x5 x6 x19 x20 x21 : AV) (m : Mem) (K : List Item) : Option Res := den prog ann 24 (.code l0 :: .inLoop l0 :: .inBlock 0 :: K) ⟨[(0, x0), (5, x5), (6, x6), (19, x19), (20, x20), (21, x21)], 44, m⟩
noncomputable def r9 : Code := findReg b 9
noncomputable def i2 : Code := findCond b 2
noncomputable def i2t : Code := thenOf i2
noncomputable def i2e : Code := elseOf i2
noncomputable def k1 : Code := findBlk b 1
noncomputable def r10 : Code := findReg b 10
noncomputable def r11 : Code := findReg b 11
noncomputable def i3 : Code := findCond b 3
noncomputable def i3t : Code := thenOf i3
noncomputable def i3e : Code := elseOf i3
noncomputable def r12 : Code := findReg b 12
noncomputable def r13 : Code := findReg b 13
noncomputable def r14 : Code := findReg b 14
theorem b_eq (K : List Item) (s : St) : den prog ann 24 (.code b :: K) s = den prog ann 24 (.code r0 :: .code r1 :: .code r2 :: .code i0 :: .code r4 :: .code r5 :: .code i1 :: .code r7 :: .code r8 :: .code k0 :: .code r14 :: .code .ret :: K) s := den_flat hf (l := [r0, r1, r2, i0, r4, r5, i1, r7, r8, k0, r14, .ret]) (by kernel_rfl) K s
theorem r0_eq (K : List Item) (s : St) : den prog ann 24 (.code r0 :: K) s = mreg prog ann 24 none [] none [] [
    ⟨some 2, none, .v fun s => some (.nils)⟩,
    ⟨some 3, none, .v fun s => some (.int .i64 0)⟩] K s := (den_reg hf _ K s).trans (by kernel_rfl)
theorem r1_eq (K : List Item) (s : St) : den prog ann 24 (.code r1 :: K) s = mreg prog ann 24 none [] none [] [
    ⟨some 9, none, .v fun s => some (s.get 0)⟩,
    ⟨some 10, none, .c 0 (fun s => (.fn 52 [] [])) fun s => [(s.get 9)]⟩,
    ⟨some 4, none, .v fun s => some (s.get 10)⟩] K s := (den_reg hf _ K s).trans (by kernel_rfl)
theorem r2_eq (K : List Item) (s : St) : den prog ann 24 (.code r2 :: K) s = mreg prog ann 24 none [] none [] [
    ⟨some 11, none, .v fun s => some (s.get 4)⟩,
    ⟨some 12, none, .v fun s => binA prog .neq 23 (s.get 11) (.int .i64 0)⟩] K s := (den_reg hf _ K s).trans (by kernel_rfl)
theorem i0_eq (K : List Item) (s : St) : den prog ann 24 (.code i0 :: K) s = ifV prog ann 24 12 i0t i0e K s (s.get 12) := den_if hf (by kernel_rfl) K s
theorem i0t_eq (K : List Item) (s : St) : den prog ann 24 (.code i0t :: K) s = den prog ann 24 (.code r3 :: .code .ret :: K) s := den_flat hf (l := [r3, .ret]) (by kernel_rfl) K s
theorem r3_eq (K : List Item) (s : St) : den prog ann 24 (.code r3 :: K) s = mreg prog ann 24 none [] none [] [
    ⟨some 13, none, .v fun s => some (s.get 4)⟩,
    ⟨some 2, none, .v fun s => some (.nils)⟩,
    ⟨some 3, none, .v fun s => some (s.get 13)⟩] K s := (den_reg hf _ K s).trans (by kernel_rfl)
theorem i0e_eq (K : List Item) (s : St) : den prog ann 24 (.code i0e :: K) s = den prog ann 24 (K) s := den_flat hf (l := []) (by kernel_rfl) K s
theorem r4_eq (K : List Item) (s : St) : den prog ann 24 (.code r4 :: K) s = mreg prog ann 24 none [] none [] [
    ⟨some 14, none, .v fun s => some (s.get 0)⟩,
    ⟨some 15, none, .c 0 (fun s => (.fn 50 [] [])) fun s => [(s.get 14)]⟩,
    ⟨some 16, none, .c 0 (fun s => (.fn 53 [] [])) fun s => [(s.get 15), (.fn 54 [] [])]⟩,
    ⟨some 5, none, .v fun s => some (s.get 16)⟩] K s := (den_reg hf _ K s).trans (by kernel_rfl)
theorem r5_eq (K : List Item) (s : St) : den prog ann 24 (.code r5 :: K) s = mreg prog ann 24 none [] none [] [
    ⟨some 17, none, .v fun s => some (s.get 5)⟩,
    ⟨some 18, none, .v fun s => binA prog .lss 3 (s.get 17) (.int .i64 0)⟩] K s := (den_reg hf _ K s).trans (by kernel_rfl)
theorem i1_eq (K : List Item) (s : St) : den prog ann 24 (.code i1 :: K) s = ifV prog ann 24 18 i1t i1e K s (s.get 18) := den_if hf (by kernel_rfl) K s
theorem i1t_eq (K : List Item) (s : St) : den prog ann 24 (.code i1t :: K) s = den prog ann 24 (.code r6 :: .code .ret :: K) s := den_flat hf (l := [r6, .ret]) (by kernel_rfl) K s
theorem r6_eq (K : List Item) (s : St) : den prog ann 24 (.code r6 :: K) s = mreg prog ann 24 none [] none [] [
    ⟨some 2, none, .v fun s => some (.nils)⟩,
    ⟨some 3, none, .v fun s => some (.int .i64 5)⟩] K s := (den_reg hf _ K s).trans (by kernel_rfl)
theorem i1e_eq (K : List Item) (s : St) : den prog ann 24 (.code i1e :: K) s = den prog ann 24 (K) s := den_flat hf (l := []) (by kernel_rfl) K s
theorem r7_eq (K : List Item) (s : St) : den prog ann 24 (.code r7 :: K) s = mreg prog ann 24 none [] none [] [
    ⟨some 6, none, .v fun s => some (.nils)⟩] K s := (den_reg hf _ K s).trans (by kernel_rfl)
theorem r8_eq (K : List Item) (s : St) : den prog ann 24 (.code r8 :: K) s = mreg prog ann 24 none [] none [] [
    ⟨some 19, none, .v fun s => some (s.get 0)⟩,
    ⟨some 20, none, .v fun s => lenSl (s.get 19)⟩,
    ⟨some 21, none, .v fun s => some (.int .i64 0)⟩] K s := (den_reg hf _ K s).trans (by kernel_rfl)
theorem k0_eq (K : List Item) (t : List (Nat × AV)) (m : Mem) : den prog ann 24 (.code k0 :: K) ⟨t, 44, m⟩ = L0 (get t 0) (get t 5) (get t 6) (get t 19) (get t 20) (get t 21) m K := den_loop_enter hf (b := l0) (id := 9) (l := [0, 5, 6, 19, 20, 21]) (by kernel_rfl) (by kernel_rfl) (by kernel_rfl) K _
theorem l0_eq (K : List Item) (t : List (Nat × AV)) (m : Mem) : den prog ann 24 (.inLoop l0 :: .inBlock 0 :: K) ⟨t, 44, m⟩ = L0 (get t 0) (get t 5) (get t 6) (get t 19) (get t 20) (get t 21) m K := den_loop_again hf (id := 9) (l := [0, 5, 6, 19, 20, 21]) (by kernel_rfl) (by kernel_rfl) (.inBlock 0 :: K) _
theorem L0_eq (x0 x5 x6 x19 x20 x21 : AV) (m : Mem) (K : List Item) : L0 x0 x5 x6 x19 x20 x21 m K = den prog ann 24 (.code r9 :: .code i2 :: .code k1 :: .code r13 :: .inLoop l0 :: .inBlock 0 :: K) ⟨[(0, x0), (5, x5), (6, x6), (19, x19), (20, x20), (21, x21)], 44, m⟩ := den_flat hf (l := [r9, i2, k1, r13]) (by kernel_rfl) _ _
theorem r9_eq (K : List Item) (s : St) : den prog ann 24 (.code r9 :: K) s = mreg prog ann 24 (some [0, 5, 6, 19, 20, 21]) [] none [] [
    ⟨some 22, none, .v fun s => binA prog .lss 3 (s.get 21) (s.get 20)⟩] K s := (den_reg hf _ K s).trans (by kernel_rfl)
theorem i2_eq (K : List Item) (s : St) : den prog ann 24 (.code i2 :: K) s = ifV prog ann 24 22 i2t i2e K s (s.get 22) := den_if hf (by kernel_rfl) K s
theorem i2t_eq (K : List Item) (s : St) : den prog ann 24 (.code i2t :: K) s = den prog ann 24 (K) s := den_flat hf (l := []) (by kernel_rfl) K s
theorem i2e_eq (K : List Item) (s : St) : den prog ann 24 (.code i2e :: K) s = den prog ann 24 (.code (.exit 0) :: K) s := den_flat hf (l := [(.exit 0)]) (by kernel_rfl) K s
theorem k1_eq (K : List Item) (s : St) : den prog ann 24 (.code k1 :: K) s = den prog ann 24 (.code r10 :: .code r11 :: .code i3 :: .inBlock 1 :: K) s := den_blk hf (b := blkOf k1) (l := [r10, r11, i3]) (by kernel_rfl) (by kernel_rfl) K s
theorem r10_eq (K : List Item) (s : St) : den prog ann 24 (.code r10 :: K) s = mreg prog ann 24 none [] none [] [
    ⟨some 23, none, .v fun s => idxSl 1 (s.get 19) (s.get 21)⟩,
    ⟨some 24, none, .v fun s => loadF false 1 (s.get 23)⟩,
    ⟨some 8, none, .v fun s => some (s.get 24)⟩] K s := (den_reg hf _ K s).trans (by kernel_rfl)
theorem r11_eq (K : List Item) (s : St) : den prog ann 24 (.code r11 :: K) s = mreg prog ann 24 none [] none [] [
    ⟨some 25, none, .v fun s => some (s.get 6)⟩,
    ⟨some 26, none, .v fun s => lenSl (s.get 25)⟩,
    ⟨some 27, none, .v fun s => binA prog .lss 3 (s.get 26) (.int .i64 4)⟩,
    ⟨some 28, none, .v fun s => some (s.get 27)⟩,
    ⟨some 29, some (28, true), .v fun s => some (s.get 0)⟩,
    ⟨some 30, some (28, true), .v fun s => some (s.get 8)⟩,
    ⟨some 31, some (28, true), .v fun s => some (s.get 5)⟩,
    ⟨some 32, some (28, true), .v fun s => binA prog .add 3 (s.get 30) (s.get 31)⟩,
    ⟨some 33, some (28, true), .c 0 (fun s => (.fn 49 [] [])) fun s => [(s.get 29), (s.get 32)]⟩,
    ⟨some 34, none, .v fun s => pickA (s.get 28) (s.get 33) (.bool false)⟩] K s := (den_reg hf _ K s).trans (by kernel_rfl)
theorem i3_eq (K : List Item) (s : St) : den prog ann 24 (.code i3 :: K) s = ifV prog ann 24 34 i3t i3e K s (s.get 34) := den_if hf (by kernel_rfl) K s
theorem i3t_eq (K : List Item) (s : St) : den prog ann 24 (.code i3t :: K) s = den prog ann 24 (.code r12 :: K) s := den_flat hf (l := [r12]) (by kernel_rfl) K s
theorem r12_eq (K : List Item) (s : St) : den prog ann 24 (.code r12 :: K) s = mreg prog ann 24 none [] none [] [
    ⟨some 35, none, .v fun s => some (s.get 6)⟩,
    ⟨some 36, none, .v fun s => some (s.get 8)⟩,
    ⟨some 37, none, .v fun s => some (s.get 8)⟩,
    ⟨some 38, none, .v fun s => some (s.get 5)⟩,
    ⟨some 39, none, .v fun s => binA prog .add 3 (s.get 37) (s.get 38)⟩,
    ⟨some 40, none, .v fun s => bslF 2 (bslA 1 2 [.int .i64 0] [(0, (s.get 36)), (1, (s.get 39))])⟩,
    ⟨some 41, none, .w false none fun s => appendA 1 8 s.m (s.get 35) (s.get 40)⟩,
    ⟨some 6, none, .v fun s => some (s.get 41)⟩] K s := (den_reg hf _ K s).trans (by kernel_rfl)
theorem i3e_eq (K : List Item) (s : St) : den prog ann 24 (.code i3e :: K) s = den prog ann 24 (K) s := den_flat hf (l := []) (by kernel_rfl) K s
theorem r13_eq (K : List Item) (s : St) : den prog ann 24 (.code r13 :: K) s = mreg prog ann 24 (some [0, 5, 6, 19, 20, 21]) [] none [] [
    ⟨some 42, none, .v fun s => binA prog .add 3 (s.get 21) (.int .i64 1)⟩,
    ⟨some 21, none, .v fun s => some (s.get 42)⟩] K s := (den_reg hf _ K s).trans (by kernel_rfl)
theorem r14_eq (K : List Item) (s : St) : den prog ann 24 (.code r14 :: K) s = mreg prog ann 24 (some [6]) [] none [] [
    ⟨some 43, none, .v fun s => some (s.get 6)⟩,
    ⟨some 2, none, .v fun s => some (s.get 43)⟩,
    ⟨some 3, none, .v fun s => some (.int .i64 0)⟩] K s := (den_reg hf _ K s).trans (by kernel_rfl)
theorem ret_eq (K : List Item) (s : St) : den prog ann 24 (.code .ret :: K) s = finM true [fun s => some (s.get 2), fun s => some (s.get 3)] s := (den_ret hf K s).trans (by kernel_rfl)
theorem nil_eq (s : St) : den prog ann 24 [] s = finM true [fun s => some (s.get 2), fun s => some (s.get 3)] s := (den_nil hf s).trans (by kernel_rfl)
theorem inBlock_eq (id : Nat) (K : List Item) (s : St) : den prog ann 24 (.inBlock id :: K) s = den prog ann 24 K s := den_inBlock hf id K s
theorem exit_eq (id : Nat) (K : List Item) (s : St) : den prog ann 24 (.code (.exit id) :: K) s = exitV prog ann 24 (exitTo id K) s := den_exitV hf id K s
theorem call_eq (v0 : AV) (m : Mem) (h : closedL [v0] = true) : denC prog ann 24 [v0] m = (den prog ann 24 [.code b] ⟨[(0, v0)], 44, Mem.empty⟩).bind fun r => some (r.1, m) := (denC_pure hf (b := b) (by kernel_rfl) (by kernel_rfl) (by kernel_rfl) h m).trans (by kernel_rfl)
theorem pure_eq : (ann 24).pure = true := by kernel_rfl
attribute [simp] b_eq r0_eq r1_eq r2_eq i0_eq i0t_eq r3_eq i0e_eq r4_eq r5_eq i1_eq i1t_eq r6_eq i1e_eq r7_eq r8_eq k0_eq l0_eq r9_eq i2_eq i2t_eq i2e_eq k1_eq r10_eq r11_eq i3_eq i3t_eq r12_eq i3e_eq r13_eq r14_eq ret_eq nil_eq inBlock_eq exit_eq pure_eq
end strap_Twice

namespace strap_Twice_1
/-- pommel/strap.Twice$1 -/
noncomputable def b : Code := (Try.f54.body).getD .skip
theorem hf : prog.funcs[54]? = some Try.f54 := by kernel_rfl
noncomputable def r0 : Code := findReg b 0
noncomputable def r1 : Code := findReg b 1
theorem b_eq (K : List Item) (s : St) : den prog ann 54 (.code b :: K) s = den prog ann 54 (.code r0 :: .code r1 :: .code .ret :: K) s := den_flat hf (l := [r0, r1, .ret]) (by kernel_rfl) K s
theorem r0_eq (K : List Item) (s : St) : den prog ann 54 (.code r0 :: K) s = mreg prog ann 54 none [] none [] [
    ⟨some 2, none, .v fun s => some (.bool false)⟩] K s := (den_reg hf _ K s).trans (by kernel_rfl)
theorem r1_eq (K : List Item) (s : St) : den prog ann 54 (.code r1 :: K) s = mreg prog ann 54 none [] none [] [
    ⟨some 3, none, .v fun s => some (s.get 0)⟩,
    ⟨some 4, none, .v fun s => binA prog .gtr 3 (s.get 3) (.int .i64 1)⟩,
    ⟨some 2, none, .v fun s => some (s.get 4)⟩] K s := (den_reg hf _ K s).trans (by kernel_rfl)
theorem ret_eq (K : List Item) (s : St) : den prog ann 54 (.code .ret :: K) s = finM true [fun s => some (s.get 2)] s := (den_ret hf K s).trans (by kernel_rfl)
theorem nil_eq (s : St) : den prog ann 54 [] s = finM true [fun s => some (s.get 2)] s := (den_nil hf s).trans (by kernel_rfl)
theorem inBlock_eq (id : Nat) (K : List Item) (s : St) : den prog ann 54 (.inBlock id :: K) s = den prog ann 54 K s := den_inBlock hf id K s
theorem exit_eq (id : Nat) (K : List Item) (s : St) : den prog ann 54 (.code (.exit id) :: K) s = exitV prog ann 54 (exitTo id K) s := den_exitV hf id K s
theorem call_eq (v0 : AV) (m : Mem) (h : closedL [v0] = true) : denC prog ann 54 [v0] m = (den prog ann 54 [.code b] ⟨[(0, v0)], 5, Mem.empty⟩).bind fun r => some (r.1, m) := (denC_pure hf (b := b) (by kernel_rfl) (by kernel_rfl) (by kernel_rfl) h m).trans (by kernel_rfl)
theorem pure_eq : (ann 54).pure = true := by kernel_rfl
attribute [simp] b_eq r0_eq r1_eq ret_eq nil_eq inBlock_eq exit_eq pure_eq
end strap_Twice_1

namespace slices_IndexFunc_int
/-- slices.IndexFuncintint -/
noncomputable def b : Code := (Try.f53.body).getD .skip
theorem hf : prog.funcs[53]? = some Try.f53 := by kernel_rfl
noncomputable def r0 : Code := findReg b 0
noncomputable def r1 : Code := findReg b 1
noncomputable def k0 : Code := findBlk b 0
noncomputable def l0 : Code := loopOf k0
noncomputable def L0 (x0 x1 x7 x8 : AV) (m : Mem) (K : List Item) : Option Res := den prog ann 53 (.code l0 :: .inLoop l0 :: .inBlock 0 :: K) ⟨[(0, x0), (1, x1), (7, x7), (8, x8)], 19, m⟩
noncomputable def r2 : Code := findReg b 2
noncomputable def i0 : Code := findCond b 0
noncomputable def i0t : Code := thenOf i0
noncomputable def i0e : Code := elseOf i0
noncomputable def k1 : Code := findBlk b 1
noncomputable def r3 : Code := findReg b 3
noncomputable def r4 : Code := findReg b 4
noncomputable def i1 : Code := findCond b 1
noncomputable def i1t : Code := thenOf i1
noncomputable def i1e : Code := elseOf i1
noncomputable def r5 : Code := findReg b 5
noncomputable def r6 : Code := findReg b 6
noncomputable def r7 : Code := findReg b 7
theorem b_eq (K : List Item) (s : St) : den prog ann 53 (.code b :: K) s = den prog ann 53 (.code r0 :: .code r1 :: .code k0 :: .code r7 :: .code .ret :: K) s := den_flat hf (l := [r0, r1, k0, r7, .ret]) (by kernel_rfl) K s
theorem r0_eq (K : List Item) (s : St) : den prog ann 53 (.code r0 :: K) s = mreg prog ann 53 none [] none [] [
    ⟨some 4, none, .v fun s => some (.int .i64 0)⟩] K s := (den_reg hf _ K s).trans (by kernel_rfl)
theorem r1_eq (K : List Item) (s : St) : den prog ann 53 (.code r1 :: K) s = mreg prog ann 53 none [] none [] [
    ⟨some 6, none, .v fun s => some (s.get 0)⟩,
    ⟨some 7, none, .v fun s => lenSl (s.get 6)⟩,
    ⟨some 8, none, .v fun s => some (.int .i64 0)⟩] K s := (den_reg hf _ K s).trans (by kernel_rfl)
theorem k0_eq (K : List Item) (t : List (Nat × AV)) (m : Mem) : den prog ann 53 (.code k0 :: K) ⟨t, 19, m⟩ = L0 (get t 0) (get t 1) (get t 7) (get t 8) m K := den_loop_enter hf (b := l0) (id := 2) (l := [0, 1, 7, 8]) (by kernel_rfl) (by kernel_rfl) (by kernel_rfl) K _
theorem l0_eq (K : List Item) (t : List (Nat × AV)) (m : Mem) : den prog ann 53 (.inLoop l0 :: .inBlock 0 :: K) ⟨t, 19, m⟩ = L0 (get t 0) (get t 1) (get t 7) (get t 8) m K := den_loop_again hf (id := 2) (l := [0, 1, 7, 8]) (by kernel_rfl) (by kernel_rfl) (.inBlock 0 :: K) _
theorem L0_eq (x0 x1 x7 x8 : AV) (m : Mem) (K : List Item) : L0 x0 x1 x7 x8 m K = den prog ann 53 (.code r2 :: .code i0 :: .code k1 :: .code r6 :: .inLoop l0 :: .inBlock 0 :: K) ⟨[(0, x0), (1, x1), (7, x7), (8, x8)], 19, m⟩ := den_flat hf (l := [r2, i0, k1, r6]) (by kernel_rfl) _ _
theorem r2_eq (K : List Item) (s : St) : den prog ann 53 (.code r2 :: K) s = mreg prog ann 53 (some [0, 1, 7, 8]) [] none [] [
    ⟨some 9, none, .v fun s => binA prog .lss 3 (s.get 8) (s.get 7)⟩] K s := (den_reg hf _ K s).trans (by kernel_rfl)
theorem i0_eq (K : List Item) (s : St) : den prog ann 53 (.code i0 :: K) s = ifV prog ann 53 9 i0t i0e K s (s.get 9) := den_if hf (by kernel_rfl) K s
theorem i0t_eq (K : List Item) (s : St) : den prog ann 53 (.code i0t :: K) s = den prog ann 53 (K) s := den_flat hf (l := []) (by kernel_rfl) K s
theorem i0e_eq (K : List Item) (s : St) : den prog ann 53 (.code i0e :: K) s = den prog ann 53 (.code (.exit 0) :: K) s := den_flat hf (l := [(.exit 0)]) (by kernel_rfl) K s
theorem k1_eq (K : List Item) (s : St) : den prog ann 53 (.code k1 :: K) s = den prog ann 53 (.code r3 :: .code r4 :: .code i1 :: .inBlock 1 :: K) s := den_blk hf (b := blkOf k1) (l := [r3, r4, i1]) (by kernel_rfl) (by kernel_rfl) K s
theorem r3_eq (K : List Item) (s : St) : den prog ann 53 (.code r3 :: K) s = mreg prog ann 53 none [] none [] [
    ⟨some 10, none, .v fun s => some (s.get 8)⟩,
    ⟨some 5, none, .v fun s => some (s.get 10)⟩] K s := (den_reg hf _ K s).trans (by kernel_rfl)
theorem r4_eq (K : List Item) (s : St) : den prog ann 53 (.code r4 :: K) s = mreg prog ann 53 none [] none [] [
    ⟨some 11, none, .v fun s => some (s.get 1)⟩,
    ⟨some 12, none, .v fun s => some (s.get 0)⟩,
    ⟨some 13, none, .v fun s => some (s.get 5)⟩,
    ⟨some 14, none, .v fun s => idxSl 1 (s.get 12) (s.get 13)⟩,
    ⟨some 15, none, .v fun s => loadA false 1 s.m (s.get 14)⟩,
    ⟨some 16, none, .c 0 (fun s => (s.get 11)) fun s => [(s.get 15)]⟩] K s := (den_reg hf _ K s).trans (by kernel_rfl)
theorem i1_eq (K : List Item) (s : St) : den prog ann 53 (.code i1 :: K) s = ifV prog ann 53 16 i1t i1e K s (s.get 16) := den_if hf (by kernel_rfl) K s
theorem i1t_eq (K : List Item) (s : St) : den prog ann 53 (.code i1t :: K) s = den prog ann 53 (.code r5 :: .code .ret :: K) s := den_flat hf (l := [r5, .ret]) (by kernel_rfl) K s
theorem r5_eq (K : List Item) (s : St) : den prog ann 53 (.code r5 :: K) s = mreg prog ann 53 none [] none [] [
    ⟨some 17, none, .v fun s => some (s.get 5)⟩,
    ⟨some 4, none, .v fun s => some (s.get 17)⟩] K s := (den_reg hf _ K s).trans (by kernel_rfl)
theorem i1e_eq (K : List Item) (s : St) : den prog ann 53 (.code i1e :: K) s = den prog ann 53 (K) s := den_flat hf (l := []) (by kernel_rfl) K s
theorem r6_eq (K : List Item) (s : St) : den prog ann 53 (.code r6 :: K) s = mreg prog ann 53 (some [0, 1, 7, 8]) [] none [] [
    ⟨some 18, none, .v fun s => binA prog .add 3 (s.get 8) (.int .i64 1)⟩,
    ⟨some 8, none, .v fun s => some (s.get 18)⟩] K s := (den_reg hf _ K s).trans (by kernel_rfl)
theorem r7_eq (K : List Item) (s : St) : den prog ann 53 (.code r7 :: K) s = mreg prog ann 53 (some []) [] none [] [
    ⟨some 4, none, .v fun s => some (.int .i64 (-1))⟩] K s := (den_reg hf _ K s).trans (by kernel_rfl)
theorem ret_eq (K : List Item) (s : St) : den prog ann 53 (.code .ret :: K) s = finM false [fun s => some (s.get 4)] s := (den_ret hf K s).trans (by kernel_rfl)
theorem nil_eq (s : St) : den prog ann 53 [] s = finM false [fun s => some (s.get 4)] s := (den_nil hf s).trans (by kernel_rfl)
theorem inBlock_eq (id : Nat) (K : List Item) (s : St) : den prog ann 53 (.inBlock id :: K) s = den prog ann 53 K s := den_inBlock hf id K s
theorem exit_eq (id : Nat) (K : List Item) (s : St) : den prog ann 53 (.code (.exit id) :: K) s = exitV prog ann 53 (exitTo id K) s := den_exitV hf id K s
theorem call_eq (v0 v1 : AV) (m : Mem) : denC prog ann 53 [v0, v1] m = den prog ann 53 [.code b] ⟨[(0, v0), (1, v1)], 19, m⟩ := (denC_impure hf (b := b) (by kernel_rfl) (by kernel_rfl) (by kernel_rfl) m).trans (by kernel_rfl)
theorem pure_eq : (ann 53).pure = false := by kernel_rfl
attribute [simp] b_eq r0_eq r1_eq k0_eq l0_eq r2_eq i0_eq i0t_eq i0e_eq k1_eq r3_eq r4_eq i1_eq i1t_eq r5_eq i1e_eq r6_eq r7_eq ret_eq nil_eq inBlock_eq exit_eq pure_eq
end slices_IndexFunc_int

namespace slices_Contains_int
/-- slices.Containsintint -/
noncomputable def b : Code := (Try.f49.body).getD .skip
theorem hf : prog.funcs[49]? = some Try.f49 := by kernel_rfl
noncomputable def r0 : Code := findReg b 0
noncomputable def r1 : Code := findReg b 1
theorem b_eq (K : List Item) (s : St) : den prog ann 49 (.code b :: K) s = den prog ann 49 (.code r0 :: .code r1 :: .code .ret :: K) s := den_flat hf (l := [r0, r1, .ret]) (by kernel_rfl) K s
theorem r0_eq (K : List Item) (s : St) : den prog ann 49 (.code r0 :: K) s = mreg prog ann 49 none [] none [] [
    ⟨some 4, none, .v fun s => some (.bool false)⟩] K s := (den_reg hf _ K s).trans (by kernel_rfl)
theorem r1_eq (K : List Item) (s : St) : den prog ann 49 (.code r1 :: K) s = mreg prog ann 49 none [] none [] [
    ⟨some 5, none, .v fun s => some (s.get 0)⟩,
    ⟨some 6, none, .v fun s => some (s.get 1)⟩,
    ⟨some 7, none, .c 0 (fun s => (.fn 67 [] [])) fun s => [(s.get 5), (s.get 6)]⟩,
    ⟨some 8, none, .v fun s => binA prog .geq 3 (s.get 7) (.int .i64 0)⟩,
    ⟨some 4, none, .v fun s => some (s.get 8)⟩] K s := (den_reg hf _ K s).trans (by kernel_rfl)
theorem ret_eq (K : List Item) (s : St) : den prog ann 49 (.code .ret :: K) s = finM true [fun s => some (s.get 4)] s := (den_ret hf K s).trans (by kernel_rfl)
theorem nil_eq (s : St) : den prog ann 49 [] s = finM true [fun s => some (s.get 4)] s := (den_nil hf s).trans (by kernel_rfl)
theorem inBlock_eq (id : Nat) (K : List Item) (s : St) : den prog ann 49 (.inBlock id :: K) s = den prog ann 49 K s := den_inBlock hf id K s
theorem exit_eq (id : Nat) (K : List Item) (s : St) : den prog ann 49 (.code (.exit id) :: K) s = exitV prog ann 49 (exitTo id K) s := den_exitV hf id K s
theorem call_eq (v0 v1 : AV) (m : Mem) (h : closedL [v0, v1] = true) : denC prog ann 49 [v0, v1] m = (den prog ann 49 [.code b] ⟨[(0, v0), (1, v1)], 9, Mem.empty⟩).bind fun r => some (r.1, m) := (denC_pure hf (b := b) (by kernel_rfl) (by kernel_rfl) (by kernel_rfl) h m).trans (by kernel_rfl)
theorem pure_eq : (ann 49).pure = true := by kernel_rfl
attribute [simp] b_eq r0_eq r1_eq ret_eq nil_eq inBlock_eq exit_eq pure_eq
end slices_Contains_int

namespace slices_Index_int
/-- slices.Indexintint -/
noncomputable def b : Code := (Try.f67.body).getD .skip
theorem hf : prog.funcs[67]? = some Try.f67 := by kernel_rfl
noncomputable def r0 : Code := findReg b 0
noncomputable def r1 : Code := findReg b 1
noncomputable def k0 : Code := findBlk b 0
noncomputable def l0 : Code := loopOf k0
noncomputable def L0 (x0 x1 x7 x8 : AV) (m : Mem) (K : List Item) : Option Res := den prog ann 67 (.code l0 :: .inLoop l0 :: .inBlock 0 :: K) ⟨[(0, x0), (1, x1), (7, x7), (8, x8)], 19, m⟩
noncomputable def r2 : Code := findReg b 2
noncomputable def i0 : Code := findCond b 0
noncomputable def i0t : Code := thenOf i0
noncomputable def i0e : Code := elseOf i0
noncomputable def k1 : Code := findBlk b 1
noncomputable def r3 : Code := findReg b 3
noncomputable def r4 : Code := findReg b 4
noncomputable def i1 : Code := findCond b 1
noncomputable def i1t : Code := thenOf i1
noncomputable def i1e : Code := elseOf i1
noncomputable def r5 : Code := findReg b 5
noncomputable def r6 : Code := findReg b 6
noncomputable def r7 : Code := findReg b 7
theorem b_eq (K : List Item) (s : St) : den prog ann 67 (.code b :: K) s = den prog ann 67 (.code r0 :: .code r1 :: .code k0 :: .code r7 :: .code .ret :: K) s := den_flat hf (l := [r0, r1, k0, r7, .ret]) (by kernel_rfl) K s
theorem r0_eq (K : List Item) (s : St) : den prog ann 67 (.code r0 :: K) s = mreg prog ann 67 none [] none [] [
    ⟨some 4, none, .v fun s => some (.int .i64 0)⟩] K s := (den_reg hf _ K s).trans (by kernel_rfl)
theorem r1_eq (K : List Item) (s : St) : den prog ann 67 (.code r1 :: K) s = mreg prog ann 67 none [] none [] [
    ⟨some 6, none, .v fun s => some (s.get 0)⟩,
    ⟨some 7, none, .v fun s => lenSl (s.get 6)⟩,
    ⟨some 8, none, .v fun s => some (.int .i64 0)⟩] K s := (den_reg hf _ K s).trans (by kernel_rfl)
theorem k0_eq (K : List Item) (t : List (Nat × AV)) (m : Mem) : den prog ann 67 (.code k0 :: K) ⟨t, 19, m⟩ = L0 (get t 0) (get t 1) (get t 7) (get t 8) m K := den_loop_enter hf (b := l0) (id := 2) (l := [0, 1, 7, 8]) (by kernel_rfl) (by kernel_rfl) (by kernel_rfl) K _
theorem l0_eq (K : List Item) (t : List (Nat × AV)) (m : Mem) : den prog ann 67 (.inLoop l0 :: .inBlock 0 :: K) ⟨t, 19, m⟩ = L0 (get t 0) (get t 1) (get t 7) (get t 8) m K := den_loop_again hf (id := 2) (l := [0, 1, 7, 8]) (by kernel_rfl) (by kernel_rfl) (.inBlock 0 :: K) _
theorem L0_eq (x0 x1 x7 x8 : AV) (m : Mem) (K : List Item) : L0 x0 x1 x7 x8 m K = den prog ann 67 (.code r2 :: .code i0 :: .code k1 :: .code r6 :: .inLoop l0 :: .inBlock 0 :: K) ⟨[(0, x0), (1, x1), (7, x7), (8, x8)], 19, m⟩ := den_flat hf (l := [r2, i0, k1, r6]) (by kernel_rfl) _ _
theorem r2_eq (K : List Item) (s : St) : den prog ann 67 (.code r2 :: K) s = mreg prog ann 67 (some [0, 1, 7, 8]) [] none [] [
    ⟨some 9, none, .v fun s => binA prog .lss 3 (s.get 8) (s.get 7)⟩] K s := (den_reg hf _ K s).trans (by kernel_rfl)
theorem i0_eq (K : List Item) (s : St) : den prog ann 67 (.code i0 :: K) s = ifV prog ann 67 9 i0t i0e K s (s.get 9) := den_if hf (by kernel_rfl) K s
theorem i0t_eq (K : List Item) (s : St) : den prog ann 67 (.code i0t :: K) s = den prog ann 67 (K) s := den_flat hf (l := []) (by kernel_rfl) K s
theorem i0e_eq (K : List Item) (s : St) : den prog ann 67 (.code i0e :: K) s = den prog ann 67 (.code (.exit 0) :: K) s := den_flat hf (l := [(.exit 0)]) (by kernel_rfl) K s
theorem k1_eq (K : List Item) (s : St) : den prog ann 67 (.code k1 :: K) s = den prog ann 67 (.code r3 :: .code r4 :: .code i1 :: .inBlock 1 :: K) s := den_blk hf (b := blkOf k1) (l := [r3, r4, i1]) (by kernel_rfl) (by kernel_rfl) K s
theorem r3_eq (K : List Item) (s : St) : den prog ann 67 (.code r3 :: K) s = mreg prog ann 67 none [] none [] [
    ⟨some 10, none, .v fun s => some (s.get 8)⟩,
    ⟨some 5, none, .v fun s => some (s.get 10)⟩] K s := (den_reg hf _ K s).trans (by kernel_rfl)
theorem r4_eq (K : List Item) (s : St) : den prog ann 67 (.code r4 :: K) s = mreg prog ann 67 none [] none [] [
    ⟨some 11, none, .v fun s => some (s.get 1)⟩,
    ⟨some 12, none, .v fun s => some (s.get 0)⟩,
    ⟨some 13, none, .v fun s => some (s.get 5)⟩,
    ⟨some 14, none, .v fun s => idxSl 1 (s.get 12) (s.get 13)⟩,
    ⟨some 15, none, .v fun s => loadF false 1 (s.get 14)⟩,
    ⟨some 16, none, .v fun s => binA prog .eql 3 (s.get 11) (s.get 15)⟩] K s := (den_reg hf _ K s).trans (by kernel_rfl)
theorem i1_eq (K : List Item) (s : St) : den prog ann 67 (.code i1 :: K) s = ifV prog ann 67 16 i1t i1e K s (s.get 16) := den_if hf (by kernel_rfl) K s
theorem i1t_eq (K : List Item) (s : St) : den prog ann 67 (.code i1t :: K) s = den prog ann 67 (.code r5 :: .code .ret :: K) s := den_flat hf (l := [r5, .ret]) (by kernel_rfl) K s
theorem r5_eq (K : List Item) (s : St) : den prog ann 67 (.code r5 :: K) s = mreg prog ann 67 none [] none [] [
    ⟨some 17, none, .v fun s => some (s.get 5)⟩,
    ⟨some 4, none, .v fun s => some (s.get 17)⟩] K s := (den_reg hf _ K s).trans (by kernel_rfl)
theorem i1e_eq (K : List Item) (s : St) : den prog ann 67 (.code i1e :: K) s = den prog ann 67 (K) s := den_flat hf (l := []) (by kernel_rfl) K s
theorem r6_eq (K : List Item) (s : St) : den prog ann 67 (.code r6 :: K) s = mreg prog ann 67 (some [0, 1, 7, 8]) [] none [] [
    ⟨some 18, none, .v fun s => binA prog .add 3 (s.get 8) (.int .i64 1)⟩,
    ⟨some 8, none, .v fun s => some (s.get 18)⟩] K s := (den_reg hf _ K s).trans (by kernel_rfl)
theorem r7_eq (K : List Item) (s : St) : den prog ann 67 (.code r7 :: K) s = mreg prog ann 67 (some []) [] none [] [
    ⟨some 4, none, .v fun s => some (.int .i64 (-1))⟩] K s := (den_reg hf _ K s).trans (by kernel_rfl)
theorem ret_eq (K : List Item) (s : St) : den prog ann 67 (.code .ret :: K) s = finM true [fun s => some (s.get 4)] s := (den_ret hf K s).trans (by kernel_rfl)
theorem nil_eq (s : St) : den prog ann 67 [] s = finM true [fun s => some (s.get 4)] s := (den_nil hf s).trans (by kernel_rfl)
theorem inBlock_eq (id : Nat) (K : List Item) (s : St) : den prog ann 67 (.inBlock id :: K) s = den prog ann 67 K s := den_inBlock hf id K s
theorem exit_eq (id : Nat) (K : List Item) (s : St) : den prog ann 67 (.code (.exit id) :: K) s = exitV prog ann 67 (exitTo id K) s := den_exitV hf id K s
theorem call_eq (v0 v1 : AV) (m : Mem) (h : closedL [v0, v1] = true) : denC prog ann 67 [v0, v1] m = (den prog ann 67 [.code b] ⟨[(0, v0), (1, v1)], 19, Mem.empty⟩).bind fun r => some (r.1, m) := (denC_pure hf (b := b) (by kernel_rfl) (by kernel_rfl) (by kernel_rfl) h m).trans (by kernel_rfl)
theorem pure_eq : (ann 67).pure = true := by kernel_rfl
attribute [simp] b_eq r0_eq r1_eq k0_eq l0_eq r2_eq i0_eq i0t_eq i0e_eq k1_eq r3_eq r4_eq i1_eq i1t_eq r5_eq i1e_eq r6_eq r7_eq ret_eq nil_eq inBlock_eq exit_eq pure_eq
end slices_Index_int
end Go.Proofs.Ytpghadmpegncgaa

/-
  BODIES OF FUNCTIONS OF THE PROGRAM AS SMALL OPERATIONS (written by gen.py; checked by the kernel against the program). Conditions: none.
-/
namespace Go.Proofs.Ytpghadmpegncgaa
open Go.AM
open Go.Proofs.Try (prog)
set_option maxRecDepth 100000
set_option linter.all false

namespace r04_Strap
/-- pommel/pommelref04.Strap -/
noncomputable def b : Code := (Try.f25.body).getD .skip
theorem hf : prog.funcs[25]? = some Try.f25 := by kernel_rfl
noncomputable def r0 : Code := findReg b 0
noncomputable def r1 : Code := findReg b 1
noncomputable def i0 : Code := findCond b 0
noncomputable def i0t : Code := thenOf i0
noncomputable def i0e : Code := elseOf i0
noncomputable def r2 : Code := findReg b 2
noncomputable def r3 : Code := findReg b 3
noncomputable def k0 : Code := findBlk b 0
noncomputable def l0 : Code := loopOf k0
noncomputable def L0 (x0 x3 : AV) (m : Mem) (K : List Item) : Option Res := den prog ann 25 (.code l0 :: .inLoop l0 :: .inBlock 0 :: K) ⟨[(0, x0), (3, x3)], 48, m⟩
noncomputable def r4 : Code := findReg b 4
noncomputable def i1 : Code := findCond b 1
noncomputable def i1t : Code := thenOf i1
noncomputable def i1e : Code := elseOf i1
noncomputable def k1 : Code := findBlk b 1
noncomputable def r6 : Code := findReg b 6
noncomputable def i2 : Code := findCond b 2
noncomputable def i2t : Code := thenOf i2
noncomputable def i2e : Code := elseOf i2
noncomputable def r7 : Code := findReg b 7
noncomputable def r5 : Code := findReg b 5
noncomputable def r8 : Code := findReg b 8
noncomputable def i3 : Code := findCond b 3
noncomputable def i3t : Code := thenOf i3
noncomputable def i3e : Code := elseOf i3
noncomputable def r9 : Code := findReg b 9
noncomputable def r10 : Code := findReg b 10
theorem b_eq (K : List Item) (s : St) : den prog ann 25 (.code b :: K) s = den prog ann 25 (.code r0 :: .code r1 :: .code i0 :: .code r3 :: .code k0 :: .code r8 :: .code i3 :: .code r10 :: .code .ret :: K) s := den_flat hf (l := [r0, r1, i0, r3, k0, r8, i3, r10, .ret]) (by kernel_rfl) K s
theorem r0_eq (K : List Item) (s : St) : den prog ann 25 (.code r0 :: K) s = mreg prog ann 25 none [] none [] [
    ⟨some 2, none, .v fun s => some (.int .i64 0)⟩] K s := (den_reg hf _ K s).trans (by kernel_rfl)
theorem r1_eq (K : List Item) (s : St) : den prog ann 25 (.code r1 :: K) s = mreg prog ann 25 none [] none [] [
    ⟨some 4, none, .v fun s => some (s.get 0)⟩,
    ⟨some 5, none, .v fun s => lenSl (s.get 4)⟩,
    ⟨some 6, none, .v fun s => binA prog .gtr 3 (s.get 5) (.int .i64 40)⟩] K s := (den_reg hf _ K s).trans (by kernel_rfl)
theorem i0_eq (K : List Item) (s : St) : den prog ann 25 (.code i0 :: K) s = ifV prog ann 25 6 i0t i0e K s (s.get 6) := den_if hf (by kernel_rfl) K s
theorem i0t_eq (K : List Item) (s : St) : den prog ann 25 (.code i0t :: K) s = den prog ann 25 (.code r2 :: .code .ret :: K) s := den_flat hf (l := [r2, .ret]) (by kernel_rfl) K s
theorem r2_eq (K : List Item) (s : St) : den prog ann 25 (.code r2 :: K) s = mreg prog ann 25 none [] none [] [
    ⟨some 2, none, .v fun s => some (.int .i64 3)⟩] K s := (den_reg hf _ K s).trans (by kernel_rfl)
theorem i0e_eq (K : List Item) (s : St) : den prog ann 25 (.code i0e :: K) s = den prog ann 25 (K) s := den_flat hf (l := []) (by kernel_rfl) K s
theorem r3_eq (K : List Item) (s : St) : den prog ann 25 (.code r3 :: K) s = mreg prog ann 25 none [] none [] [
    ⟨some 3, none, .v fun s => some (.int .i64 0)⟩] K s := (den_reg hf _ K s).trans (by kernel_rfl)
theorem k0_eq (K : List Item) (t : List (Nat × AV)) (m : Mem) : den prog ann 25 (.code k0 :: K) ⟨t, 48, m⟩ = L0 (get t 0) (get t 3) m K := den_loop_enter hf (b := l0) (id := 4) (l := [0, 3]) (by kernel_rfl) (by kernel_rfl) (by kernel_rfl) K _
theorem l0_eq (K : List Item) (t : List (Nat × AV)) (m : Mem) : den prog ann 25 (.inLoop l0 :: .inBlock 0 :: K) ⟨t, 48, m⟩ = L0 (get t 0) (get t 3) m K := den_loop_again hf (id := 4) (l := [0, 3]) (by kernel_rfl) (by kernel_rfl) (.inBlock 0 :: K) _
theorem L0_eq (x0 x3 : AV) (m : Mem) (K : List Item) : L0 x0 x3 m K = den prog ann 25 (.code r4 :: .code i1 :: .code k1 :: .code r5 :: .inLoop l0 :: .inBlock 0 :: K) ⟨[(0, x0), (3, x3)], 48, m⟩ := den_flat hf (l := [r4, i1, k1, r5]) (by kernel_rfl) _ _
theorem r4_eq (K : List Item) (s : St) : den prog ann 25 (.code r4 :: K) s = mreg prog ann 25 (some [0, 3]) [] none [] [
    ⟨some 7, none, .v fun s => some (s.get 3)⟩,
    ⟨some 8, none, .v fun s => some (s.get 0)⟩,
    ⟨some 9, none, .v fun s => lenSl (s.get 8)⟩,
    ⟨some 10, none, .v fun s => binA prog .lss 3 (s.get 7) (s.get 9)⟩] K s := (den_reg hf _ K s).trans (by kernel_rfl)
theorem i1_eq (K : List Item) (s : St) : den prog ann 25 (.code i1 :: K) s = ifV prog ann 25 10 i1t i1e K s (s.get 10) := den_if hf (by kernel_rfl) K s
theorem i1t_eq (K : List Item) (s : St) : den prog ann 25 (.code i1t :: K) s = den prog ann 25 (K) s := den_flat hf (l := []) (by kernel_rfl) K s
theorem i1e_eq (K : List Item) (s : St) : den prog ann 25 (.code i1e :: K) s = den prog ann 25 (.code (.exit 0) :: K) s := den_flat hf (l := [(.exit 0)]) (by kernel_rfl) K s
theorem k1_eq (K : List Item) (s : St) : den prog ann 25 (.code k1 :: K) s = den prog ann 25 (.code r6 :: .code i2 :: .inBlock 1 :: K) s := den_blk hf (b := blkOf k1) (l := [r6, i2]) (by kernel_rfl) (by kernel_rfl) K s
theorem r6_draw : drawOk (fun g => (ann g).pure) (modeOf (ann 25) (idOf r6)) (frzOf (ann 25) (idOf r6)) (opsOf r6) = true := drawOk_of (an := [0, 1, 3, 7, 7, 31, 63, 127, 255, 511, 1023, 2047, 4095, 8191, 8191, 32767, 65535, 8191, 8191, 270335, 925695, 1974271, 4194303, 8388607, 16777215, 33554431, 67108863, 67108863, 268435455, 536870911, 1073741823, 2147483647]) (by kernel_rfl) (by kernel_rfl)
theorem r6_eq (K : List Item) (s : St) : den prog ann 25 (.code r6 :: K) s = mreg prog ann 25 none [] (some 32) [] [
    ⟨some 13, none, .v fun s => some (s.get 3)⟩,
    ⟨some 14, none, .v fun s => binA prog .eql 3 (s.get 13) (.int .i64 0)⟩,
    ⟨some 15, none, .v fun s => some (s.get 14)⟩,
    ⟨some 16, some (15, true), .v fun s => some (s.get 0)⟩,
    ⟨some 17, some (15, true), .v fun s => some (s.get 3)⟩,
    ⟨some 18, some (15, true), .v fun s => idxSl 1 (s.get 16) (s.get 17)⟩,
    ⟨some 19, some (15, true), .v fun s => loadF false 1 (s.get 18)⟩,
    ⟨some 20, some (15, true), .v fun s => binA prog .neq 3 (s.get 19) (.int .i64 0)⟩,
    ⟨some 21, none, .v fun s => pickA (s.get 15) (s.get 20) (.bool false)⟩,
    ⟨some 22, none, .v fun s => some (s.get 21)⟩,
    ⟨some 23, some (22, false), .v fun s => some (s.get 3)⟩,
    ⟨some 24, some (22, false), .v fun s => binA prog .gtr 3 (s.get 23) (.int .i64 0)⟩,
    ⟨some 25, some (22, false), .v fun s => some (s.get 24)⟩,
    ⟨some 26, some (25, true), .v fun s => some (s.get 0)⟩,
    ⟨some 27, some (25, true), .v fun s => some (s.get 3)⟩,
    ⟨some 28, some (25, true), .v fun s => idxSl 1 (s.get 26) (s.get 27)⟩,
    ⟨some 29, some (25, true), .v fun s => loadF false 1 (s.get 28)⟩,
    ⟨some 30, some (25, true), .v fun s => some (s.get 0)⟩,
    ⟨some 31, some (25, true), .v fun s => some (s.get 3)⟩,
    ⟨some 32, some (25, true), .v fun s => binA prog .sub 3 (s.get 31) (.int .i64 1)⟩,
    ⟨some 33, some (25, true), .v fun s => idxSl 1 (s.get 30) (s.get 32)⟩,
    ⟨some 34, some (25, true), .v fun s => loadF false 1 (s.get 33)⟩,
    ⟨some 35, some (25, true), .v fun s => binA prog .leq 3 (s.get 29) (s.get 34)⟩,
    ⟨some 36, some (22, false), .v fun s => pickA (s.get 25) (s.get 35) (.bool false)⟩,
    ⟨some 37, none, .v fun s => pickA (s.get 22) (.bool true) (s.get 36)⟩,
    ⟨some 38, none, .v fun s => some (s.get 37)⟩,
    ⟨some 39, some (38, false), .v fun s => some (s.get 0)⟩,
    ⟨some 40, some (38, false), .v fun s => some (s.get 3)⟩,
    ⟨some 41, some (38, false), .v fun s => idxSl 1 (s.get 39) (s.get 40)⟩,
    ⟨some 42, some (38, false), .v fun s => loadF false 1 (s.get 41)⟩,
    ⟨some 43, some (38, false), .v fun s => binA prog .gtr 3 (s.get 42) (.int .i64 1000)⟩,
    ⟨some 44, none, .v fun s => pickA (s.get 38) (.bool true) (s.get 43)⟩] K s := (den_regD hf r6_draw K s).trans (by kernel_rfl)
theorem i2_eq (K : List Item) (s : St) : den prog ann 25 (.code i2 :: K) s = ifV prog ann 25 44 i2t i2e K s (s.get 44) := den_if hf (by kernel_rfl) K s
theorem i2t_eq (K : List Item) (s : St) : den prog ann 25 (.code i2t :: K) s = den prog ann 25 (.code r7 :: .code .ret :: K) s := den_flat hf (l := [r7, .ret]) (by kernel_rfl) K s
theorem r7_eq (K : List Item) (s : St) : den prog ann 25 (.code r7 :: K) s = mreg prog ann 25 none [] none [] [
    ⟨some 2, none, .v fun s => some (.int .i64 2)⟩] K s := (den_reg hf _ K s).trans (by kernel_rfl)
theorem i2e_eq (K : List Item) (s : St) : den prog ann 25 (.code i2e :: K) s = den prog ann 25 (K) s := den_flat hf (l := []) (by kernel_rfl) K s
theorem r5_eq (K : List Item) (s : St) : den prog ann 25 (.code r5 :: K) s = mreg prog ann 25 (some [0, 3]) [] none [] [
    ⟨some 11, none, .v fun s => some (s.get 3)⟩,
    ⟨some 12, none, .v fun s => binA prog .add 3 (s.get 11) (.int .i64 1)⟩,
    ⟨some 3, none, .v fun s => some (s.get 12)⟩] K s := (den_reg hf _ K s).trans (by kernel_rfl)
theorem r8_eq (K : List Item) (s : St) : den prog ann 25 (.code r8 :: K) s = mreg prog ann 25 (some [0]) [] none [] [
    ⟨some 45, none, .v fun s => some (s.get 0)⟩,
    ⟨some 46, none, .v fun s => lenSl (s.get 45)⟩,
    ⟨some 47, none, .v fun s => binA prog .eql 3 (s.get 46) (.int .i64 0)⟩] K s := (den_reg hf _ K s).trans (by kernel_rfl)
theorem i3_eq (K : List Item) (s : St) : den prog ann 25 (.code i3 :: K) s = ifV prog ann 25 47 i3t i3e K s (s.get 47) := den_if hf (by kernel_rfl) K s
theorem i3t_eq (K : List Item) (s : St) : den prog ann 25 (.code i3t :: K) s = den prog ann 25 (.code r9 :: .code .ret :: K) s := den_flat hf (l := [r9, .ret]) (by kernel_rfl) K s
theorem r9_eq (K : List Item) (s : St) : den prog ann 25 (.code r9 :: K) s = mreg prog ann 25 none [] none [] [
    ⟨some 2, none, .v fun s => some (.int .i64 2)⟩] K s := (den_reg hf _ K s).trans (by kernel_rfl)
theorem i3e_eq (K : List Item) (s : St) : den prog ann 25 (.code i3e :: K) s = den prog ann 25 (K) s := den_flat hf (l := []) (by kernel_rfl) K s
theorem r10_eq (K : List Item) (s : St) : den prog ann 25 (.code r10 :: K) s = mreg prog ann 25 none [] none [] [
    ⟨some 2, none, .v fun s => some (.int .i64 0)⟩] K s := (den_reg hf _ K s).trans (by kernel_rfl)
theorem ret_eq (K : List Item) (s : St) : den prog ann 25 (.code .ret :: K) s = finM true [fun s => some (s.get 2)] s := (den_ret hf K s).trans (by kernel_rfl)
theorem nil_eq (s : St) : den prog ann 25 [] s = finM true [fun s => some (s.get 2)] s := (den_nil hf s).trans (by kernel_rfl)
theorem inBlock_eq (id : Nat) (K : List Item) (s : St) : den prog ann 25 (.inBlock id :: K) s = den prog ann 25 K s := den_inBlock hf id K s
theorem exit_eq (id : Nat) (K : List Item) (s : St) : den prog ann 25 (.code (.exit id) :: K) s = exitV prog ann 25 (exitTo id K) s := den_exitV hf id K s
theorem call_eq (v0 : AV) (m : Mem) (h : closedL [v0] = true) : denC prog ann 25 [v0] m = (den prog ann 25 [.code b] ⟨[(0, v0)], 48, Mem.empty⟩).bind fun r => some (r.1, m) := (denC_pure hf (b := b) (by kernel_rfl) (by kernel_rfl) (by kernel_rfl) h m).trans (by kernel_rfl)
theorem pure_eq : (ann 25).pure = true := by kernel_rfl
attribute [simp] b_eq r0_eq r1_eq i0_eq i0t_eq r2_eq i0e_eq r3_eq k0_eq l0_eq r4_eq i1_eq i1t_eq i1e_eq k1_eq r6_eq i2_eq i2t_eq r7_eq i2e_eq r5_eq r8_eq i3_eq i3t_eq r9_eq i3e_eq r10_eq ret_eq nil_eq inBlock_eq exit_eq pure_eq
end r04_Strap



end Go.Proofs.Ytpghadmpegncgaa

/-
  STRAPS (1): the order of lists, the same list; what a strap is. Conditions: none.
-/
namespace Go.Proofs.Ytpghadmpegncgaa
open Go.AM
open Go.Proofs.Try (prog)
set_option linter.all false
set_option maxRecDepth 100000
set_option maxHeartbeats 4000000

/-! ### What a strap is -/
def ascB (l : List Int) (k i : Nat) : Bool := (List.range' i k).all fun i => decide (nth l (i - 1) < nth l i)
/-- A strap: from 0, rising, no more than 1000 long. -/
structure StrapOk (l : List Int) : Prop where
  pos : 0 < l.length
  few : l.length ≤ 40
  zero : nth l 0 = 0
  asc : ∀ i, i + 1 < l.length → nth l i < nth l (i + 1)
  top : nth l (l.length - 1) ≤ 1000
theorem StrapOk.lt {l : List Int} (s : StrapOk l) {i : Nat} : ∀ {j : Nat}, i < j → j < l.length → nth l i < nth l j
  | j + 1, h, hj => by
    rcases Nat.eq_or_lt_of_le (Nat.le_of_lt_succ h) with e | e
    · subst e; exact s.asc i hj
    · exact Int.lt_trans (s.lt e (by omega)) (s.asc j hj)
theorem StrapOk.le {l : List Int} (s : StrapOk l) {i j : Nat} (h : i ≤ j) (hj : j < l.length) : nth l i ≤ nth l j := by
  rcases Nat.eq_or_lt_of_le h with e | e
  · subst e; exact Int.le_refl _
  · exact Int.le_of_lt (s.lt e hj)
theorem StrapOk.nonneg {l : List Int} (s : StrapOk l) {i : Nat} (hi : i < l.length) : 0 ≤ nth l i := by
  have := s.le (Nat.zero_le i) hi
  rw [s.zero] at this; exact this
theorem StrapOk.most {l : List Int} (s : StrapOk l) {i : Nat} (hi : i < l.length) : nth l i ≤ 1000 := by
  have := s.le (show i ≤ l.length - 1 by omega) (by omega)
  have := s.top
  omega
/-- Why a list is no strap. -/
inductive StrapErr (l : List Int) : Int → Prop where
  | long (h : 40 < l.length) : StrapErr l 3
  | form (h : l.length ≤ 40) (h2 : ¬ StrapOk l) : StrapErr l 2
  | ok (h : StrapOk l) : StrapErr l 0
theorem StrapErr.uniq {l : List Int} {a b : Int} (h : StrapErr l a) (k : StrapErr l b) : a = b := by
  cases h with
  | long h => cases k with
    | long _ => rfl
    | form h2 _ => omega
    | ok s => have := s.few; omega
  | form h h2 => cases k with
    | long _ => omega
    | form _ _ => rfl
    | ok s => exact absurd s h2
  | ok s => cases k with
    | long _ => have := s.few; omega
    | form _ h => exact absurd s h
    | ok _ => rfl

theorem check_loop {v : AV} {l : List Int} (hv : IsInts v l) (hl : l.length ≤ 40) : ∀ (k i : Nat) (m : Mem), i + k = l.length → 1 ≤ i →
    strap_check.L1 v (.int .i64 i) m [.code strap_check.r11, .code .ret] = some (.int .i64 (if ascB l k i = true then 0 else 2), Mem.empty) := by
  intro k
  induction k with
  | zero =>
    intro i m h1 h2
    have e : i = l.length := by omega
    rw [strap_check.L1_eq]
    simp [e, hv.len, ascB]
    done
  | succ k ih =>
    intro i m h1 h2
    have hi : i < l.length := by omega
    have hw : IntKind.wrap .i64 ((i : Int) + 1) = (i : Int) + 1 := wrap_id (by omega) (by omega)
    have hw1 : IntKind.wrap .i64 ((i : Int) - 1) = ((i - 1 : Nat) : Int) := by rw [wrap_id (by omega) (by omega)]; omega
    have hj : i - 1 < l.length := by omega
    have hst := fun m => ih (i + 1) m (by omega) (by omega)
    simp only [Int.natCast_add, Int.cast_ofNat_Int] at hst
    have e : ascB l (k + 1) i = (decide (nth l (i - 1) < nth l i) && ascB l k (i + 1)) := by simp [ascB, List.range'_succ]
    rw [e, strap_check.L1_eq]
    by_cases q : nth l (i - 1) < nth l i
    · rw [decide_eq_true q, Bool.true_and]
      simp [hv.len, hi, hv.idx hi, ints_head hi, hw1, hv.idx hj, ints_head hj, show ¬ nth l i ≤ nth l (i - 1) by omega, hw, hst]
      done
    · rw [decide_eq_false q, Bool.false_and]
      simp [hv.len, hi, hv.idx hi, ints_head hi, hw1, hv.idx hj, ints_head hj, show nth l i ≤ nth l (i - 1) by omega]
      done
theorem asc_iff {l : List Int} {k i : Nat} (h : i + k = l.length) (hi : 1 ≤ i) : ascB l k i = true ↔ ∀ j, i ≤ j + 1 → j + 1 < l.length → nth l j < nth l (j + 1) := by
  simp only [ascB, List.all_eq_true, List.mem_range'_1, decide_eq_true_eq]
  constructor
  · intro a j h1 h2
    have := a (j + 1) ⟨by omega, by omega⟩
    simpa using this
  · intro a j hj
    have := a (j - 1) (by omega) (by omega)
    rwa [show j - 1 + 1 = j by omega] at this

theorem check_spec {v : AV} {l : List Int} (hv : IsInts v l) (hl : l.length < 1000000) : ∃ e, StrapErr l e ∧ ∀ m, denC prog ann 52 [v] m = some (.int .i64 e, m) := by
  have hcl : closedL [v] = true := by simp [hv.closed]
  by_cases q1 : (40 : Int) < l.length
  · refine ⟨3, .long (by omega), fun m => ?_⟩
    rw [strap_check.call_eq _ _ hcl]
    simp [hv.len, q1]
    done
  · by_cases q2 : l.length = 0
    · refine ⟨2, .form (by omega) (fun s => by have := s.pos; omega), fun m => ?_⟩
      rw [strap_check.call_eq _ _ hcl]
      simp [hv.len, q1, q2]
      done
    · have h0 : 0 < l.length := by omega
      have hlast : l.length - 1 < l.length := by omega
      have hw1 : IntKind.wrap .i64 ((l.length : Int) - 1) = ((l.length - 1 : Nat) : Int) := by rw [wrap_id (by omega) (by omega)]; omega
      have i0 := hv.idx h0 .i64
      have i1 := ints_head h0
      simp only [Int.ofNat_zero, Int.cast_ofNat_Int, List.drop_zero] at i0 i1
      have i2 := hv.idx hlast .i64
      have i3 := ints_head hlast
      by_cases q3 : nth l 0 = 0
      · by_cases q4 : 1000 < nth l (l.length - 1)
        · refine ⟨2, .form (by omega) (fun s => by have := s.top; omega), fun m => ?_⟩
          rw [strap_check.call_eq _ _ hcl]
          simp [hv.len, q1, q2, i0, i1, q3, hw1, i2, i3, q4]
          done
        · have lp := check_loop hv (by omega) (l.length - 1) 1 Mem.empty (by omega) (Nat.le_refl _)
          have hai := asc_iff (l := l) (k := l.length - 1) (i := 1) (by omega) (Nat.le_refl _)
          simp only [Int.cast_ofNat_Int] at lp
          cases q5 : ascB l (l.length - 1) 1 with
          | true =>
            rw [q5] at lp
            simp at lp
            refine ⟨0, .ok ⟨h0, by omega, q3, fun i hi => hai.1 q5 i (by omega) hi, by omega⟩, fun m => ?_⟩
            rw [strap_check.call_eq _ _ hcl]
            simp [hv.len, q1, q2, i0, i1, q3, hw1, i2, i3, q4, lp]
            done
          | false =>
            rw [q5] at lp
            simp at lp
            refine ⟨2, .form (by omega) (fun s => ?_), fun m => ?_⟩
            · rw [hai.2 fun j _ hj => s.asc j hj] at q5; cases q5
            · rw [strap_check.call_eq _ _ hcl]
              simp [hv.len, q1, q2, i0, i1, q3, hw1, i2, i3, q4, lp]
              done
      · refine ⟨2, .form (by omega) (fun s => q3 s.zero), fun m => ?_⟩
        rw [strap_check.call_eq _ _ hcl]
        simp [hv.len, q1, q2, i0, i1, q3]
        done
end Go.Proofs.Ytpghadmpegncgaa

/-
  STRAPS (2): the specification's test; how often each distance comes. Conditions: none.
-/
namespace Go.Proofs.Ytpghadmpegncgaa
open Go.AM
open Go.Proofs.Try (prog)
set_option linter.all false
set_option maxRecDepth 100000
set_option maxHeartbeats 4000000

def okAt (l : List Int) (j : Nat) : Bool := if j = 0 then decide (nth l 0 = 0) else decide (nth l (j - 1) < nth l j) && decide (nth l j ≤ 1000)
theorem ref_loop {v : AV} {l : List Int} (hv : IsInts v l) (hl : l.length ≤ 40) : ∀ (k i : Nat) (m : Mem), i + k = l.length →
    r04_Strap.L0 v (.int .i64 i) m [.code r04_Strap.r8, .code r04_Strap.i3, .code r04_Strap.r10, .code .ret] = some (.int .i64 (if (List.range' i k).all (okAt l) = true ∧ l.length ≠ 0 then 0 else 2), Mem.empty) := by
  intro k
  induction k with
  | zero =>
    intro i m h1
    have e : i = l.length := by omega
    rw [r04_Strap.L0_eq]
    by_cases h0 : l.length = 0
    · simp [e, hv.len, h0]
      done
    · simp [e, hv.len, h0]
      done
  | succ k ih =>
    intro i m h1
    have hi : i < l.length := by omega
    have hw : IntKind.wrap .i64 ((i : Int) + 1) = (i : Int) + 1 := wrap_id (by omega) (by omega)
    have hst := fun m => ih (i + 1) m (by omega)
    simp only [Int.natCast_add, Int.cast_ofNat_Int] at hst
    have e : (List.range' i (k + 1)).all (okAt l) = (okAt l i && (List.range' (i + 1) k).all (okAt l)) := by simp [List.range'_succ]
    rw [e, r04_Strap.L0_eq]
    have h0 : ¬ l.length = 0 := by omega
    by_cases hz : i = 0
    · subst hz
      have i0 := hv.idx hi .i64
      have i1 := ints_head hi
      simp only [Int.ofNat_zero, Int.cast_ofNat_Int, List.drop_zero, Int.zero_add, Nat.zero_add] at i0 i1 hst hw
      by_cases q : nth l 0 = 0
      · have ho : okAt l 0 = true := by simp [okAt, q]
        rw [ho, Bool.true_and]
        simp [hv.len, hi, i0, i1, q, hw, hst, h0]
        done
      · have ho : okAt l 0 = false := by simp [okAt, q]
        rw [ho, Bool.false_and]
        simp [hv.len, hi, i0, i1, q, hw, hst]
        done
    · have hw1 : IntKind.wrap .i64 ((i : Int) - 1) = ((i - 1 : Nat) : Int) := by rw [wrap_id (by omega) (by omega)]; omega
      have hj : i - 1 < l.length := by omega
      have hz' : ¬ (i : Int) = 0 := by omega
      have hp : 0 < i := by omega
      by_cases q : nth l (i - 1) < nth l i
      · have q' : ¬ nth l i ≤ nth l (i - 1) := by omega
        by_cases q2 : 1000 < nth l i
        · have ho : okAt l i = false := by simp [okAt, hz]; omega
          rw [ho, Bool.false_and]
          simp [hv.len, hi, hv.idx hi, ints_head hi, hw1, hv.idx hj, ints_head hj, q', hw, hst, hz, hz', hp, q2]
          done
        · have ho : okAt l i = true := by simp [okAt, hz, q]; omega
          rw [ho, Bool.true_and]
          simp [hv.len, hi, hv.idx hi, ints_head hi, hw1, hv.idx hj, ints_head hj, q', hw, hst, h0, hz, hz', hp, q2]
          done
      · have q' : nth l i ≤ nth l (i - 1) := by omega
        have ho : okAt l i = false := by simp [okAt, hz]; omega
        rw [ho, Bool.false_and]
        simp [hv.len, hi, hv.idx hi, ints_head hi, hw1, hv.idx hj, ints_head hj, q', hw, hst, hz, hz', hp]
        done
theorem ref_spec {v : AV} {l : List Int} (hv : IsInts v l) (hl : l.length < 1000000) : ∃ e, StrapErr l e ∧ ∀ m, denC prog ann 25 [v] m = some (.int .i64 e, m) := by
  have hcl : closedL [v] = true := by simp [hv.closed]
  by_cases q1 : (40 : Int) < l.length
  · refine ⟨3, .long (by omega), fun m => ?_⟩
    rw [r04_Strap.call_eq _ _ hcl]
    simp [hv.len, q1]
    done
  · have lp := ref_loop hv (by omega) l.length 0 Mem.empty (by omega)
    simp only [Int.ofNat_zero, Int.cast_ofNat_Int] at lp
    by_cases q : (List.range' 0 l.length).all (okAt l) = true ∧ l.length ≠ 0
    · rw [if_pos q] at lp
      refine ⟨0, .ok ?_, fun m => ?_⟩
      · have a : ∀ j, j < l.length → okAt l j = true := fun j hj => by
          have := List.all_eq_true.1 q.1 j
          exact this (by simp [List.mem_range'_1]; omega)
        refine ⟨by omega, by omega, by simpa [okAt] using a 0 (by omega), fun i hi => ?_, ?_⟩
        · have := a (i + 1) hi
          simp [okAt] at this
          exact this.1
        · by_cases h1 : l.length = 1
          · have := a 0 (by omega)
            simp [okAt] at this
            rw [h1, show nth l (1 - 1) = nth l 0 from rfl, this]; decide
          · have := a (l.length - 1) (by omega)
            simp [okAt, show ¬ l.length - 1 = 0 by omega] at this
            exact this.2
      · rw [r04_Strap.call_eq _ _ hcl]
        simp [hv.len, q1, lp]
        done
    · rw [if_neg q] at lp
      refine ⟨2, .form (by omega) (fun s => q ⟨?_, by have := s.pos; omega⟩), fun m => ?_⟩
      · rw [List.all_eq_true]
        intro j hj
        simp [List.mem_range'_1] at hj
        by_cases hz : j = 0
        · simp [okAt, hz, s.zero]
        · have a := s.asc (j - 1) (by omega)
          rw [show j - 1 + 1 = j by omega] at a
          have b := s.most hj
          simp [okAt, hz, a, b]
      · rw [r04_Strap.call_eq _ _ hcl]
        simp [hv.len, q1, lp]
        done
theorem check_ref {v : AV} {l : List Int} (hv : IsInts v l) (hl : l.length < 1000000) : ∃ e, StrapErr l e ∧ (∀ m, denC prog ann 52 [v] m = some (.int .i64 e, m)) ∧ ∀ m, denC prog ann 25 [v] m = some (.int .i64 e, m) := by
  obtain ⟨e, h1, h2⟩ := check_spec hv hl
  obtain ⟨e', h3, h4⟩ := ref_spec hv hl
  have := h1.uniq h3
  subst this
  exact ⟨e, h1, h2, h4⟩

/-! ### How often each distance comes -/
def cntF (l : List Int) (x : Int) (k j : Nat) (c : List Int) : List Int := (List.range' j k).foldl (fun c q => bump c (x - nth l q).toNat) c
def cntO (l : List Int) (k i : Nat) (c : List Int) : List Int := (List.range' i k).foldl (fun c i => cntF l (nth l i) i 0 c) c
theorem cntF_succ (l : List Int) (x : Int) (k j : Nat) (c : List Int) : cntF l x (k + 1) j c = cntF l x k (j + 1) (bump c (x - nth l j).toNat) := by simp [cntF, List.range'_succ]
theorem cntO_succ (l : List Int) (k i : Nat) (c : List Int) : cntO l (k + 1) i c = cntO l k (i + 1) (cntF l (nth l i) i 0 c) := by simp [cntO, List.range'_succ]
theorem cntF_len (l : List Int) (x : Int) : ∀ (k j : Nat) (c : List Int), (cntF l x k j c).length = c.length
  | 0, _, _ => rfl
  | k + 1, j, c => by rw [cntF_succ, cntF_len, bump_len]
/-- The counts are small. -/
def Small (c : List Int) (B : Int) : Prop := ∀ g, 0 ≤ nth c g ∧ nth c g ≤ B
theorem Small.bump {c : List Int} {B : Int} (h : Small c B) (hB : 0 ≤ B) (q : Nat) : Small (bump c q) (B + 1) := by
  intro g
  have := h g
  have h2 := h q
  rw [Go.AM.bump, nth_set]
  split <;> omega
theorem Small.cntF {l : List Int} {x : Int} : ∀ {k j : Nat} {c : List Int} {B : Int}, Small c B → 0 ≤ B → Small (cntF l x k j c) (B + k)
  | 0, _, _, _, h, _ => by simpa [Go.Proofs.Ytpghadmpegncgaa.cntF] using h
  | k + 1, j, c, B, h, hB => by
    rw [cntF_succ]
    have := (h.bump hB (x - nth l j).toNat).cntF (l := l) (x := x) (k := k) (j := j + 1) (by omega)
    rwa [show B + 1 + (k : Int) = B + ((k + 1 : Nat) : Int) by omega] at this

/-- What a strap's counting keeps. -/
def top (l : List Int) : Int := nth l (l.length - 1)
def counts (l : List Int) : List Int := cntO l l.length 0 (List.replicate (top l + 1).toNat 0)
theorem top_wrap {l : List Int} (s : StrapOk l) : IntKind.wrap .i64 (nth l (l.length - 1) + 1) = nth l (l.length - 1) + 1 := by
  have hpos := s.pos
  have := s.nonneg (i := l.length - 1) (by omega)
  have := s.top
  exact wrap_id (by omega) (by omega)
theorem nth_take {l : List Int} {i j : Nat} (h : j < i) : nth (l.take i) j = nth l j := by simp [nth, List.getD, List.getElem?_take, h]
theorem cn_in {v : AV} {l : List Int} (hv : IsInts v l) (s : StrapOk l) {i : Nat} (hi : i < l.length) {w : AV} (hw0 : IsInts w (l.take i)) (oid : Nat) (K : List Item) : ∀ (k j : Nat) (c : List Int) (m : Mem), j + k = i → m.h oid = some (.cells (ints c)) → c.length = (top l + 1).toNat → Small c (1000000 + j) →
    ∃ m', m'.h oid = some (.cells (ints (cntF l (nth l i) k j c))) ∧ strap_counts.L2 v (.sl oid 1 0 c.length c.length) (.int .i64 (nth l i)) v (.int .i64 l.length) (.int .i64 i) w (.int .i64 i) (.int .i64 j) m (.inBlock 1 :: .code strap_counts.r10 :: .inLoop strap_counts.l0 :: .inBlock 0 :: K) = strap_counts.L0 v (.sl oid 1 0 c.length c.length) v (.int .i64 l.length) (.int .i64 ((i : Int) + 1)) m' K := by
  intro k
  have hfew := s.few
  induction k with
  | zero =>
    intro j c m h1 hm hc hs
    have e : j = i := by omega
    subst e
    have hw : IntKind.wrap .i64 ((j : Int) + 1) = (j : Int) + 1 := wrap_id (by omega) (by omega)
    refine ⟨m, hm, ?_⟩
    rw [strap_counts.L2_eq]
    simp [hw]
    done
  | succ k ih =>
    intro j c m h1 hm hc hs
    have hj : j < i := by omega
    have hj' : j < l.length := by omega
    have hjt : j < (l.take i).length := by simp; omega
    have hix := hw0.idx hjt .i64
    have hih := ints_head hjt
    rw [nth_take hj] at hih
    have hw : IntKind.wrap .i64 ((j : Int) + 1) = (j : Int) + 1 := wrap_id (by omega) (by omega)
    have a1 := s.lt hj hi
    have a2 := s.nonneg hj'
    have a3 := s.le (show i ≤ l.length - 1 by omega) (by omega)
    have a4 := s.most hi
    obtain ⟨d, hd⟩ : ∃ d : Nat, nth l i - nth l j = d := ⟨(nth l i - nth l j).toNat, by omega⟩
    have hwd : IntKind.wrap .i64 (nth l i - nth l j) = (d : Int) := by rw [hd, wrap_id (by omega) (by omega)]
    have hdl : d < c.length := by rw [hc]; unfold top; omega
    have hs2 := hs d
    have hwc : IntKind.wrap .i64 (nth c d + 1) = nth c d + 1 := wrap_id (by omega) (by omega)
    have hst := fun m hm => ih (j + 1) (bump c d) m (by omega) hm (by rw [bump_len, hc]) (by have := hs.bump (by omega) d; rwa [show (1000000 + (j : Int) + 1) = 1000000 + ((j + 1 : Nat) : Int) by omega] at this)
    rw [bump_len] at hst
    simp only [Int.natCast_add, Int.cast_ofNat_Int] at hst
    have hc' : c.set d (nth c d + 1) = bump c d := rfl
    obtain ⟨m', g1, g2⟩ := hst ⟨upd m.h oid (some (.cells (ints (bump c d)))), m.nx⟩ (by simp)
    refine ⟨m', by rw [cntF_succ, hd]; exact g1, ?_⟩
    rw [strap_counts.L2_eq]
    simp [hj, hix, hih, hwd, hdl, hm, hwc, hw, hc', g2]
    done
theorem cn_out {v : AV} {l : List Int} (hv : IsInts v l) (s : StrapOk l) (oid : Nat) : ∀ (k i : Nat) (c : List Int) (m : Mem), i + k = l.length → m.h oid = some (.cells (ints c)) → c.length = (top l + 1).toNat → Small c (1000 * i) →
    strap_counts.L0 v (.sl oid 1 0 c.length c.length) v (.int .i64 l.length) (.int .i64 i) m [.code strap_counts.r11, .code .ret] = some (intsV (cntO l k i c), Mem.empty) := by
  intro k
  have hfew := s.few
  have hpos := s.pos
  induction k with
  | zero =>
    intro i c m h1 hm hc hs
    have e : i = l.length := by omega
    subst e
    have ht : 0 ≤ top l := s.nonneg (by omega)
    have hne : c ≠ [] := by intro e; rw [e] at hc; simp at hc; omega
    rw [strap_counts.L0_eq]
    simp [hv.len, intsV, hne, cntO, hm]
    done
  | succ k ih =>
    intro i c m h1 hm hc hs
    have hi : i < l.length := by omega
    have hw : IntKind.wrap .i64 ((i : Int) + 1) = (i : Int) + 1 := wrap_id (by omega) (by omega)
    obtain ⟨w, hw1, hw2⟩ := slice_ints hv (j := (i : Int)) (by omega) (by omega)
    rw [Int.toNat_natCast] at hw2
    have hwl := hw2.len
    rw [List.length_take, show min i l.length = i by omega] at hwl
    obtain ⟨m', g1, g2⟩ := cn_in hv s hi hw2 oid [.code strap_counts.r11, .code .ret] i 0 c m (by omega) hm hc (fun g => by have := hs g; omega)
    simp only [Int.ofNat_zero, Int.cast_ofNat_Int] at g2
    have hst := ih (i + 1) (cntF l (nth l i) i 0 c) m' (by omega) g1 (by rw [cntF_len, hc]) (by
      have := hs.cntF (l := l) (x := nth l i) (k := i) (j := 0) (by omega)
      intro g; have := this g; omega)
    simp only [Int.natCast_add, Int.cast_ofNat_Int, cntF_len] at hst
    rw [strap_counts.L0_eq]
    simp [hv.len, hi, hv.idx hi, ints_head hi, hw1, hwl, g2, hst, cntO_succ]
    done
theorem counts_spec {v : AV} {l : List Int} (hv : IsInts v l) (s : StrapOk l) (m : Mem) : denC prog ann 50 [v] m = some (intsV (counts l), m) := by
  have hcl : closedL [v] = true := by simp [hv.closed]
  have hpos := s.pos
  have hfew := s.few
  rw [strap_counts.call_eq _ _ hcl]
  have hlast : l.length - 1 < l.length := by omega
  have hw1 : IntKind.wrap .i64 ((l.length : Int) - 1) = ((l.length - 1 : Nat) : Int) := by rw [wrap_id (by omega) (by omega)]; omega
  have t0 : 0 ≤ top l := s.nonneg (by omega)
  have t1 : top l ≤ 1000 := s.top
  obtain ⟨t, ht⟩ : ∃ t : Nat, top l = t := ⟨(top l).toNat, by omega⟩
  have htw := top_wrap s
  have e : (top l + 1).toNat = t + 1 := by omega
  unfold top at ht
  rw [ht] at htw
  have lp := cn_out hv s 0 l.length 0 (List.replicate (t + 1) 0) ⟨upd Mem.empty.h 0 (some (.cells (List.replicate (t + 1) (AV.int .i64 0)))), 1⟩ (by omega) (by simp [ints]) (by simp [e]) (fun g => by rw [nth_zero']; omega)
  simp only [Int.ofNat_zero, Int.cast_ofNat_Int, List.length_replicate] at lp
  rw [counts, e]
  simp [hv.len, hw1, hv.idx hlast, ints_head hlast, ht, htw, show (0 : Int) ≤ (t : Int) + 1 by omega, show t ≤ 4611686018427387903 by omega, show (t + 1) * 8 ≤ 70368744177664 by omega, lp]
  done
end Go.Proofs.Ytpghadmpegncgaa

/-
  STRAPS (3): the distances that a strap lacks. Conditions: none.
-/
namespace Go.Proofs.Ytpghadmpegncgaa
open Go.AM
open Go.Proofs.Try (prog)
set_option linter.all false
set_option maxRecDepth 100000
set_option maxHeartbeats 4000000

theorem cntO_len (l : List Int) : ∀ (k i : Nat) (c : List Int), (cntO l k i c).length = c.length
  | 0, _, _ => rfl
  | k + 1, i, c => by rw [cntO_succ, cntO_len, cntF_len]
theorem counts_len (l : List Int) : (counts l).length = (top l + 1).toNat := by rw [counts, cntO_len, List.length_replicate]
theorem counts_few {l : List Int} (s : StrapOk l) : (counts l).length ≤ 1001 := by
  rw [counts_len]; have := s.top; unfold top; omega
theorem counts_pos {l : List Int} (s : StrapOk l) : 0 < (counts l).length := by
  rw [counts_len]; have := s.nonneg (i := l.length - 1) (by have := s.pos; omega); unfold top; omega
def missL (c : List Int) (k i : Nat) : List Int := ((List.range' i k).filter fun d => decide (0 < d) && decide (nth c d = 0)).map fun d : Nat => (d : Int)
theorem missL_succ (c : List Int) (k i : Nat) : missL c (k + 1) i = if 0 < i ∧ nth c i = 0 then (i : Int) :: missL c k (i + 1) else missL c k (i + 1) := by
  simp only [missL, List.range'_succ, List.filter_cons]
  by_cases h : 0 < i ∧ nth c i = 0 <;> simp [h]

theorem miss_loop {w : AV} {c : List Int} (hw0 : IsInts w c) (hcl : c.length ≤ 1001) : ∀ (k i oid : Nat) (acc : List Int) (m : Mem), i + k = c.length → OutI m oid acc → acc.length ≤ i →
    strap_Misses.L0 (outI oid acc) w (.int .i64 c.length) (.int .i64 i) m [.code strap_Misses.r11, .code .ret] = some (.tup [intsV (acc ++ missL c k i), .int .i64 0], Mem.empty) := by
  intro k
  induction k with
  | zero =>
    intro i oid acc m h1 ho ha
    have e : i = c.length := by omega
    subst e
    have hd := outI_deep ho
    rw [strap_Misses.L0_eq]
    simp [missL, hd]
    done
  | succ k ih =>
    intro i oid acc m h1 ho ha
    have hi : i < c.length := by omega
    have hw : IntKind.wrap .i64 ((i : Int) + 1) = (i : Int) + 1 := wrap_id (by omega) (by omega)
    by_cases q1 : 0 < i
    · by_cases q2 : nth c i = 0
      · obtain ⟨oid', m', g1, g2, g3, _⟩ := outI_appT ho (by omega) (i : Int)
        have hst := ih (i + 1) oid' (acc ++ [(i : Int)]) m' (by omega) g2 (by simp; omega)
        simp only [Int.natCast_add, Int.cast_ofNat_Int] at hst
        rw [missL_succ, if_pos ⟨q1, q2⟩, strap_Misses.L0_eq]
        simp [hi, hw0.idx hi, ints_head hi, q1, q2, g1, hw, hst]
        done
      · have hst := ih (i + 1) oid acc m (by omega) ho (by omega)
        simp only [Int.natCast_add, Int.cast_ofNat_Int] at hst
        rw [missL_succ, if_neg (fun h => q2 h.2), strap_Misses.L0_eq]
        simp [hi, hw0.idx hi, ints_head hi, q1, q2, hw, hst]
        done
    · have hst := ih (i + 1) oid acc m (by omega) ho (by omega)
      simp only [Int.natCast_add, Int.cast_ofNat_Int] at hst
      rw [missL_succ, if_neg (fun h => q1 h.1), strap_Misses.L0_eq]
      simp [hi, hw0.idx hi, ints_head hi, q1, hw, hst]
      done
def misses (l : List Int) : List Int := missL (counts l) (counts l).length 0
theorem miss_spec {v : AV} {l : List Int} (hv : IsInts v l) {e : Int} (he : StrapErr l e) (hc : ∀ m, denC prog ann 52 [v] m = some (.int .i64 e, m)) : ∃ w, (e = 0 → IsInts w (misses l)) ∧ (e ≠ 0 → w = .nils) ∧ ∀ m, denC prog ann 23 [v] m = some (.tup [w, .int .i64 e], m) := by
  have hcl : closedL [v] = true := by simp [hv.closed]
  by_cases q : e = 0
  · have s : StrapOk l := by cases he <;> first | assumption | (exact absurd q (by decide))
    refine ⟨intsV (misses l), fun _ => intsV_is _, fun h => absurd q h, fun m => ?_⟩
    have hw0 := intsV_is (counts l)
    have lp := miss_loop hw0 (counts_few s) (counts l).length 0 0 [] Mem.empty (by omega) (fun h => absurd rfl h) (Nat.le_refl _)
    simp only [Int.ofNat_zero, Int.cast_ofNat_Int, List.nil_append] at lp
    rw [show outI 0 [] = .nils from rfl] at lp
    rw [strap_Misses.call_eq _ _ hcl]
    simp [hc, q, hv.closed, counts_spec hv s, hw0.len, lp, misses]
    done
  · refine ⟨.nils, fun h => absurd h q, fun _ => rfl, fun m => ?_⟩
    rw [strap_Misses.call_eq _ _ hcl]
    simp [hc, q, hv.closed]
    done
end Go.Proofs.Ytpghadmpegncgaa

/-
  BODIES OF FUNCTIONS OF THE PROGRAM AS SMALL OPERATIONS (written by gen.py; checked by the kernel against the program). Conditions: none.
-/
namespace Go.Proofs.Ytpghadmpegncgaa
open Go.AM
open Go.Proofs.Try (prog)
set_option maxRecDepth 100000
set_option linter.all false




end Go.Proofs.Ytpghadmpegncgaa
