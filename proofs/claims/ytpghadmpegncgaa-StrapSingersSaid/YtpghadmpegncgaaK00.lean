/-
  SLICES WHOSE ELEMENTS ARE THEMSELVES SLICES, AS VALUES. Conditions: none.
-/
import Derived.Shelf.Sort.Plain
import Derived.Test.YtpghadmpegncgaaKAmG
import Derived.Test.YtpghadmpegncgaaKAmH
import Derived.Test.YtpghadmpegncgaaKAmC
import Derived.Test.YtpghadmpegncgaaKAmF
set_option linter.all false
namespace Go.AM
set_option linter.all false

def cAt (cs : List AV) (i : Nat) : AV := cs.getD i .undef
theorem cAt_eq {cs : List AV} {i : Nat} (h : i < cs.length) : cs[i]? = some (cAt cs i) := by
  rw [List.getElem?_eq_getElem h]; simp [cAt, List.getD, List.getElem?_eq_getElem h]
theorem cAt_load {cs : List AV} {i : Nat} (h : i < cs.length) : loadF false 1 (.fptr (cs.drop i)) = some (cAt cs i) := by
  simp [List.head?_drop, cAt_eq h]
def gth {α : Type} [Inhabited α] (l : List α) (i : Nat) : α := l.getD i default
/-- A slice of cells that stand each for an element. -/
structure IsVec {α : Type} [Inhabited α] (R : AV → α → Prop) (v : AV) (cs : List AV) (l : List α) : Prop where
  n : cs.length = l.length
  rel : ∀ i, i < l.length → R (cAt cs i) (gth l i)
  cl : closedL cs = true
  v : (v = .nils ∧ l = []) ∨ ∃ ex, v = .fsl ex l.length cs
section
variable {α : Type} [Inhabited α] {R : AV → α → Prop} {v : AV} {cs : List AV} {l : List α}
theorem IsVec.closed (h : IsVec R v cs l) : v.closed = true := by rcases h.v with ⟨rfl, _⟩ | ⟨_, rfl⟩ <;> rfl
theorem IsVec.one (h : IsVec R v cs l) : v.one = true := by rcases h.v with ⟨rfl, _⟩ | ⟨_, rfl⟩ <;> rfl
theorem IsVec.cells (h : IsVec R v cs l) : v.cells = [v] := by rcases h.v with ⟨rfl, _⟩ | ⟨_, rfl⟩ <;> rfl
theorem IsVec.len (h : IsVec R v cs l) : lenSl v = some (.int .i64 l.length) := by rcases h.v with ⟨rfl, rfl⟩ | ⟨_, rfl⟩ <;> simp
theorem IsVec.deep (h : IsVec R v cs l) (hp : Nat → Option AObj) (d : Nat) : AM.deep hp (d + 1) v = some v := by rcases h.v with ⟨rfl, _⟩ | ⟨_, rfl⟩ <;> rfl
theorem IsVec.frz (h : IsVec R v cs l) (m : Mem) : frzV v m = some (v, m) := by rcases h.v with ⟨rfl, _⟩ | ⟨_, rfl⟩ <;> rfl
theorem IsVec.idx (h : IsVec R v cs l) {i : Nat} (hi : i < l.length) (k : IntKind) : idxSl 1 v (.int k (i : Int)) = some (.fptr (cs.drop i)) := by
  rcases h.v with ⟨rfl, rfl⟩ | ⟨_, rfl⟩
  · simp at hi
  · simp [hi]
theorem IsVec.load (h : IsVec R v cs l) {i : Nat} (hi : i < l.length) : loadF false 1 (.fptr (cs.drop i)) = some (cAt cs i) := cAt_load (by rw [h.n]; exact hi)
theorem IsVec.at (h : IsVec R v cs l) {i : Nat} (hi : i < l.length) : R (cAt cs i) (gth l i) := h.rel i hi
end
/-! ### Bools -/
def boolC (b : Bool) : List AV := [.bool b]
def bnth (l : List Bool) (i : Nat) : Bool := l.getD i false
abbrev IsBools : AV → List Bool → Prop := IsSl boolC
end Go.AM

/-
  LISTS OF NUMBERS: what all laws share. Conditions: none.
-/
namespace Go.AM
set_option linter.all false

/-- The lexicographic order. -/
def lexLt : List Int → List Int → Bool
  | [], [] => false
  | [], _ :: _ => true
  | _ :: _, [] => false
  | a :: x, b :: y => if a = b then lexLt x y else decide (a < b)
theorem lexLt_drop {a b : List Int} {i : Nat} (h1 : i < a.length) (h2 : i < b.length) : lexLt (a.drop i) (b.drop i) = if nth a i = nth b i then lexLt (a.drop (i + 1)) (b.drop (i + 1)) else decide (nth a i < nth b i) := by
  rw [drop_nth h1, drop_nth h2]; simp [lexLt]
theorem lexLt_same : ∀ a b : List Int, (!lexLt a b && !lexLt b a) = decide (a = b)
  | [], [] => by simp [lexLt]
  | [], _ :: _ => by simp [lexLt]
  | _ :: _, [] => by simp [lexLt]
  | a :: x, b :: y => by
    have ih := lexLt_same x y
    by_cases h : a = b
    · subst h; simpa [lexLt] using ih
    · have h' : ¬ b = a := fun e => h e.symm
      simp only [lexLt, h, h', if_false]
      by_cases h1 : a < b
      · simp [h1, h]
      · have : b < a := by omega
        simp [this, h]
theorem lexLt_irr : ∀ a : List Int, lexLt a a = false
  | [] => rfl
  | a :: x => by simp [lexLt, lexLt_irr x]
theorem lex_trans : ∀ {a b c : List Int}, lexLt a b = true → lexLt b c = true → lexLt a c = true
  | [], [], _, h, _ => by simp [lexLt] at h
  | [], _ :: _, [], _, h => by simp [lexLt] at h
  | [], _ :: _, _ :: _, _, _ => rfl
  | _ :: _, [], _, h, _ => by simp [lexLt] at h
  | _ :: _, _ :: _, [], _, h => by simp [lexLt] at h
  | x :: a, y :: b, z :: c, h1, h2 => by
    simp only [lexLt] at h1 h2 ⊢
    by_cases e1 : x = y
    · subst e1
      rw [if_pos rfl] at h1
      by_cases e2 : x = z
      · subst e2
        rw [if_pos rfl] at h2 ⊢
        exact lex_trans h1 h2
      · rw [if_neg e2] at h2 ⊢; exact h2
    · rw [if_neg e1, decide_eq_true_eq] at h1
      by_cases e2 : y = z
      · subst e2
        rw [if_neg e1, decide_eq_true_eq]; exact h1
      · rw [if_neg e2, decide_eq_true_eq] at h2
        rw [if_neg (by omega), decide_eq_true_eq]; omega

theorem updNe {h : Nat → Option AObj} {i j : Nat} {o : Option AObj} (e : j ≠ i) : upd h i o j = h j := by simp [upd, show (j == i) = false from beq_eq_false_iff_ne.2 e]
theorem nth_set (l : List Int) (i j : Nat) (v : Int) : nth (l.set i v) j = if i = j ∧ i < l.length then v else nth l j := by
  simp only [nth, List.getD, List.getElem?_set]
  by_cases h : i = j
  · subst h
    by_cases h2 : i < l.length
    · simp [h2]
    · simp [h2, List.getElem?_eq_none (show l.length ≤ i by omega)]
  · simp [h]
theorem nth_zero' (n i : Nat) : nth (List.replicate n 0) i = 0 := by
  simp only [nth, List.getD, List.getElem?_replicate]; split <;> rfl
theorem ext_nth {a b : List Int} (hl : a.length = b.length) (h : ∀ i, nth a i = nth b i) : a = b := by
  refine List.ext_getElem hl fun i h1 h2 => ?_
  rw [nth_get h1, nth_get h2]; exact h i
theorem nth_append (a b : List Int) (i : Nat) : nth (a ++ b) i = if i < a.length then nth a i else nth b (i - a.length) := by
  simp only [nth, List.getD]
  by_cases h : i < a.length
  · rw [List.getElem?_append_left h, if_pos h]
  · rw [List.getElem?_append_right (by omega), if_neg h]
/-- One more at a place. -/
def bump (c : List Int) (h : Nat) : List Int := c.set h (nth c h + 1)
theorem bump_len (c : List Int) (h : Nat) : (bump c h).length = c.length := by simp [bump]
theorem nth_bump {c : List Int} {h : Nat} (hh : h < c.length) (g : Nat) : nth (bump c h) g = if g = h then nth c h + 1 else nth c g := by
  rw [bump, nth_set]
  by_cases e : h = g
  · subst e; simp [hh]
  · have e' : ¬ g = h := fun x => e x.symm
    simp [e, e']

theorem appV_nothing (size by' : Nat) (h : size ≠ 0) : appV size by' (.fsl true 0 []) .nils = some (.fsl true 0 []) := by
  have h' : (size == 0) = false := by simpa using h
  simp [appV, appF, h']
theorem appV_full {size by' n : Nat} {ex : Bool} {cs : List AV} (h : size ≠ 0) (hl : cs.length = n * size) (hc : closedL cs = true) (hr : room n by' = true) (hn : n ≠ 0) :
    appV size by' (.fsl true 0 []) (.fsl ex n cs) = some (.fsl false n cs) := by
  have h' : (size == 0) = false := by simpa using h
  have hn' : (n == 0) = false := by simpa using hn
  have hr' := hr
  simp at hr'
  simp [appV, appF, h', hl, hn', hr', hc]
  simp [← hl]
theorem app_ints {v : AV} {l : List Int} (h : IsInts v l) (hl : l.length ≤ 1000000) : ∃ v', appV 1 8 (.fsl true 0 []) v = some v' ∧ IsInts v' l := by
  rcases h with ⟨rfl, rfl⟩ | ⟨ex, rfl⟩
  · exact ⟨_, appV_nothing 1 8 (by omega), .inr ⟨true, rfl⟩⟩
  · by_cases e : l.length = 0
    · have : l = [] := List.length_eq_zero_iff.1 e
      subst this
      exact ⟨.fsl true 0 [], by simp [appV, appF], .inr ⟨true, rfl⟩⟩
    · exact ⟨_, appV_full (size := 1) (by' := 8) (n := l.length) (ex := ex) (cs := ints l) (by omega) (by simp) (by simp) (by simp [room]; omega) e, .inr ⟨false, rfl⟩⟩
def I64 (n : Int) : Prop := -9223372036854775808 ≤ n ∧ n ≤ 9223372036854775807
/-! ### A list that grows in memory -/
/-- The slice: nothing at first, then one object. -/
def outI (oid : Nat) (acc : List Int) : AV := if acc = [] then .nils else .sl oid 1 0 acc.length acc.length
def OutI (m : Mem) (oid : Nat) (acc : List Int) : Prop := acc ≠ [] → m.h oid = some (.cells (ints acc)) ∧ oid < m.nx
def intsV (acc : List Int) : AV := if acc = [] then .nils else .fsl false acc.length (ints acc)
theorem intsV_is (acc : List Int) : IsInts (intsV acc) acc := by
  by_cases e : acc = []
  · exact .inl ⟨by rw [intsV, if_pos e], e⟩
  · exact .inr ⟨false, by rw [intsV, if_neg e]⟩
theorem outI_deep {m : Mem} {oid : Nat} {acc : List Int} (h : OutI m oid acc) (d : Nat) : deep m.h (d + 2) (outI oid acc) = some (intsV acc) := by
  by_cases e : acc = []
  · simp [outI, intsV, e]
  · obtain ⟨a, _⟩ := h e
    rw [outI, intsV, if_neg e, if_neg e]
    exact deep_ints a rfl d
/-- One more. -/
theorem outI_app {m : Mem} {oid : Nat} {acc : List Int} (h : OutI m oid acc) (hl : acc.length < 1000000) (x : Int) (ex : Bool) : ∃ oid' m', appendA 1 8 m (outI oid acc) (.fsl ex 1 [.int .i64 x]) = some (outI oid' (acc ++ [x]), m') ∧ OutI m' oid' (acc ++ [x]) ∧ m.nx ≤ m'.nx ∧ (∀ id, id < m.nx → id ≠ oid → m'.h id = m.h id) ∧ (acc = [] → ∀ id, id < m.nx → m'.h id = m.h id) := by
  by_cases e : acc = []
  · subst e
    refine ⟨m.nx, ⟨upd m.h m.nx (some (.cells [.int .i64 x])), m.nx + 1⟩, by simp [outI], fun _ => ⟨by simp, by show m.nx < m.nx + 1; omega⟩, by simp, fun id hid _ => updNe (by omega), fun _ id hid => updNe (by omega)⟩
  · obtain ⟨a, b⟩ := h e
    have hx : ints acc ++ [AV.int .i64 x] = ints (acc ++ [x]) := by simp [ints]
    refine ⟨oid, ⟨upd m.h oid (some (.cells (ints (acc ++ [x])))), m.nx⟩, ?_, fun _ => ⟨by simp, b⟩, Nat.le_refl _, fun id _ hne => updNe hne, fun h => absurd h e⟩
    have e2 : outI oid (acc ++ [x]) = .sl oid 1 0 (acc.length + 1) (acc.length + 1) := by simp [outI]
    rw [e2, outI, if_neg e]
    simp [a, hx, Mem.set, show acc.length ≤ 4611686018427387903 by omega, show (acc.length + 1) * 8 ≤ 70368744177664 by omega]
theorem outI_appT {m : Mem} {oid : Nat} {acc : List Int} (h : OutI m oid acc) (hl : acc.length < 1000000) (x : Int) : ∃ oid' m', appT 1 8 m (outI oid acc) (some (1, [.int .i64 x])) = some (outI oid' (acc ++ [x]), m') ∧ OutI m' oid' (acc ++ [x]) ∧ m.nx ≤ m'.nx ∧ (∀ id, id < m.nx → id ≠ oid → m'.h id = m.h id) ∧ (acc = [] → ∀ id, id < m.nx → m'.h id = m.h id) := by
  obtain ⟨o, m', a, b⟩ := outI_app h hl x false
  exact ⟨o, m', by simpa using a, b⟩
end Go.AM

/-
  THE LIBRARY'S SORT OF WHOLE NUMBERS, AS A THEOREM OF THIS PROGRAM (the shelf's contract). Conditions: none.
-/
namespace Go.Proofs.Ytpghadmpegncgaa
open Go.Shelf Go.Proofs Go.AM
open Go.Proofs.Try (prog)
set_option maxRecDepth 100000
def sortRen : Go.Shelf.Ren := ⟨fun | 189 => 69 | 125 => 72 | 257 => 71 | 128 => 83 | 129 => 84 | 294 => 74 | 295 => 75 | 296 => 76 | 297 => 77 | 298 => 78 | 299 => 79 | 216 => 80 | 300 => 81 | 301 => 82 | 328 => 86 | 329 => 87 | 330 => 88 | 331 => 89 | 332 => 90 | 215 => 85 | 343 => 91 | n => n, fun | 28 => 22 | 3 => 3 | 46 => 68 | 0 => 0 | 51 => 50 | 53 => 79 | 4 => 4 | 183 => 71 | 182 => 70 | 131 => 43 | 5 => 5 | 9 => 9 | 218 => 80 | 222 => 84 | 228 => 86 | 229 => 87 | n => n, fun n => n⟩
theorem sortLays : Lays.n189 Try.prog sortRen where
  mixed := by kernel_rfl
  f125 := Try.func72.trans (congrArg some (by kernel_rfl))
  f128 := Try.func83.trans (congrArg some (by kernel_rfl))
  f129 := Try.func84.trans (congrArg some (by kernel_rfl))
  f189 := Try.func69.trans (congrArg some (by kernel_rfl))
  f215 := Try.func85.trans (congrArg some (by kernel_rfl))
  f216 := Try.func80.trans (congrArg some (by kernel_rfl))
  f257 := Try.func71.trans (congrArg some (by kernel_rfl))
  f294 := Try.func74.trans (congrArg some (by kernel_rfl))
  f295 := Try.func75.trans (congrArg some (by kernel_rfl))
  f296 := Try.func76.trans (congrArg some (by kernel_rfl))
  f297 := Try.func77.trans (congrArg some (by kernel_rfl))
  f298 := Try.func78.trans (congrArg some (by kernel_rfl))
  f299 := Try.func79.trans (congrArg some (by kernel_rfl))
  f300 := Try.func81.trans (congrArg some (by kernel_rfl))
  f301 := Try.func82.trans (congrArg some (by kernel_rfl))
  f328 := Try.func86.trans (congrArg some (by kernel_rfl))
  f329 := Try.func87.trans (congrArg some (by kernel_rfl))
  f330 := Try.func88.trans (congrArg some (by kernel_rfl))
  f331 := Try.func89.trans (congrArg some (by kernel_rfl))
  f332 := Try.func90.trans (congrArg some (by kernel_rfl))
  f343 := Try.func91.trans (congrArg some (by kernel_rfl))
  t0 := Try.underlying0
  a0 := Try.isAgg0
  z0 := Try.sizeOf0
  v0 := Try.zeroValue0
  t3 := Try.underlying3
  a3 := Try.isAgg3
  z3 := Try.sizeOf3
  v3 := Try.zeroValue3
  t4 := Try.underlying4
  a4 := Try.isAgg4
  z4 := Try.sizeOf4
  v4 := Try.zeroValue4
  t5 := Try.underlying5
  a5 := Try.isAgg5
  z5 := Try.sizeOf5
  v5 := Try.zeroValue5
  t9 := Try.underlying9
  a9 := Try.isAgg9
  z9 := Try.sizeOf9
  v9 := Try.zeroValue9
  t28 := Try.underlying22
  a28 := Try.isAgg22
  z28 := Try.sizeOf22
  v28 := Try.zeroValue22
  t46 := Try.underlying68
  a46 := Try.isAgg68
  z46 := Try.sizeOf68
  v46 := Try.zeroValue68
  t51 := Try.underlying50
  a51 := Try.isAgg50
  z51 := Try.sizeOf50
  v51 := Try.zeroValue50
  t53 := Try.underlying79
  a53 := Try.isAgg79
  z53 := Try.sizeOf79
  v53 := Try.zeroValue79
  t131 := Try.underlying43
  a131 := Try.isAgg43
  z131 := Try.sizeOf43
  v131 := Try.zeroValue43
  t182 := Try.underlying70
  a182 := Try.isAgg70
  z182 := Try.sizeOf70
  v182 := Try.zeroValue70
  t183 := Try.underlying71
  a183 := Try.isAgg71
  z183 := Try.sizeOf71
  v183 := Try.zeroValue71
  t218 := Try.underlying80
  a218 := Try.isAgg80
  z218 := Try.sizeOf80
  v218 := Try.zeroValue80
  t222 := Try.underlying84
  a222 := Try.isAgg84
  z222 := Try.sizeOf84
  v222 := Try.zeroValue84
  t228 := Try.underlying86
  a228 := Try.isAgg86
  z228 := Try.sizeOf86
  v228 := Try.zeroValue86
  t229 := Try.underlying87
  a229 := Try.isAgg87
  z229 := Try.sizeOf87
  v229 := Try.zeroValue87
theorem sortS : ∀ g, (ann g).srt = true → SortCalls prog g := fun g h => by
  have := srt_only (l := annL) (d := ⟨false, [], [], [], []⟩) rfl (fun g => g == 69) (by kernel_rfl) g h
  have e : g = 69 := by simpa using this
  subst e
  exact fun blk off cap zs w hH hblk hsz => Any.slices_Sort_int sortLays blk off cap zs w hH hblk hsz
theorem sort_pure : (ann 69).pure = false := by kernel_rfl
theorem sort_srt : (ann 69).srt = true := by kernel_rfl
theorem f69_at : prog.funcs[69]? = some Try.f69 := by kernel_rfl
theorem f69_some : Try.f69.body.isSome = true := by kernel_rfl
theorem intsO_ints : ∀ l : List Int, intsO (ints l) = some l
  | [] => rfl
  | a :: l => by show (intsO (ints l)).map (a :: ·) = _; rw [intsO_ints l]; rfl
/-- The sort of a whole object. -/
theorem sort_spec (id : Nat) (l : List Int) (h0 : 0 < l.length) (h1 : l.length ≤ 1000000) (m : Mem) (hm : m.h id = some (.cells (ints l))) :
    denC prog ann 69 [.sl id 1 0 l.length l.length] m = some (.tup [], m.set id (some (.cells (ints (sortI l))))) := by
  obtain ⟨b, hb⟩ := Option.isSome_iff_exists.1 f69_some
  rw [denC_sort f69_at hb sort_srt]
  have e : (ints l).length = l.length := by simp
  simp [sortA, hm, sortO, e, intsO_ints, h0, h1]
  rfl
end Go.Proofs.Ytpghadmpegncgaa

/-
  BODIES OF FUNCTIONS OF THE PROGRAM AS SMALL OPERATIONS (written by gen.py; checked by the kernel against the program). Conditions: none.
-/
namespace Go.Proofs.Ytpghadmpegncgaa
open Go.AM
open Go.Proofs.Try (prog)
set_option maxRecDepth 100000
set_option linter.all false

namespace r01_Before
/-- pommel/pommelref01.Before -/
noncomputable def b : Code := (Try.f44.body).getD .skip
theorem hf : prog.funcs[44]? = some Try.f44 := by kernel_rfl
noncomputable def r0 : Code := findReg b 0
noncomputable def r1 : Code := findReg b 1
noncomputable def k0 : Code := findBlk b 0
noncomputable def l0 : Code := loopOf k0
noncomputable def L0 (x0 x1 x5 : AV) (m : Mem) (K : List Item) : Option Res := den prog ann 44 (.code l0 :: .inLoop l0 :: .inBlock 0 :: K) ⟨[(0, x0), (1, x1), (5, x5)], 41, m⟩
noncomputable def r2 : Code := findReg b 2
noncomputable def i0 : Code := findCond b 0
noncomputable def i0t : Code := thenOf i0
noncomputable def i0e : Code := elseOf i0
noncomputable def k1 : Code := findBlk b 1
noncomputable def r4 : Code := findReg b 4
noncomputable def i1 : Code := findCond b 1
noncomputable def i1t : Code := thenOf i1
noncomputable def i1e : Code := elseOf i1
noncomputable def r5 : Code := findReg b 5
noncomputable def r3 : Code := findReg b 3
noncomputable def r6 : Code := findReg b 6
theorem b_eq (K : List Item) (s : St) : den prog ann 44 (.code b :: K) s = den prog ann 44 (.code r0 :: .code r1 :: .code k0 :: .code r6 :: .code .ret :: K) s := den_flat hf (l := [r0, r1, k0, r6, .ret]) (by kernel_rfl) K s
theorem r0_eq (K : List Item) (s : St) : den prog ann 44 (.code r0 :: K) s = mreg prog ann 44 none [] none [] [
    ⟨some 4, none, .v fun s => some (.bool false)⟩] K s := (den_reg hf _ K s).trans (by kernel_rfl)
theorem r1_eq (K : List Item) (s : St) : den prog ann 44 (.code r1 :: K) s = mreg prog ann 44 none [] none [] [
    ⟨some 5, none, .v fun s => some (.int .i64 0)⟩] K s := (den_reg hf _ K s).trans (by kernel_rfl)
theorem k0_eq (K : List Item) (t : List (Nat × AV)) (m : Mem) : den prog ann 44 (.code k0 :: K) ⟨t, 41, m⟩ = L0 (get t 0) (get t 1) (get t 5) m K := den_loop_enter hf (b := l0) (id := 2) (l := [0, 1, 5]) (by kernel_rfl) (by kernel_rfl) (by kernel_rfl) K _
theorem l0_eq (K : List Item) (t : List (Nat × AV)) (m : Mem) : den prog ann 44 (.inLoop l0 :: .inBlock 0 :: K) ⟨t, 41, m⟩ = L0 (get t 0) (get t 1) (get t 5) m K := den_loop_again hf (id := 2) (l := [0, 1, 5]) (by kernel_rfl) (by kernel_rfl) (.inBlock 0 :: K) _
theorem L0_eq (x0 x1 x5 : AV) (m : Mem) (K : List Item) : L0 x0 x1 x5 m K = den prog ann 44 (.code r2 :: .code i0 :: .code k1 :: .code r3 :: .inLoop l0 :: .inBlock 0 :: K) ⟨[(0, x0), (1, x1), (5, x5)], 41, m⟩ := den_flat hf (l := [r2, i0, k1, r3]) (by kernel_rfl) _ _
theorem r2_eq (K : List Item) (s : St) : den prog ann 44 (.code r2 :: K) s = mreg prog ann 44 (some [0, 1, 5]) [] none [] [
    ⟨some 6, none, .v fun s => some (s.get 5)⟩,
    ⟨some 7, none, .v fun s => some (s.get 0)⟩,
    ⟨some 8, none, .v fun s => lenSl (s.get 7)⟩,
    ⟨some 9, none, .v fun s => binA prog .lss 3 (s.get 6) (s.get 8)⟩,
    ⟨some 10, none, .v fun s => some (s.get 9)⟩,
    ⟨some 11, some (10, true), .v fun s => some (s.get 5)⟩,
    ⟨some 12, some (10, true), .v fun s => some (s.get 1)⟩,
    ⟨some 13, some (10, true), .v fun s => lenSl (s.get 12)⟩,
    ⟨some 14, some (10, true), .v fun s => binA prog .lss 3 (s.get 11) (s.get 13)⟩,
    ⟨some 15, none, .v fun s => pickA (s.get 10) (s.get 14) (.bool false)⟩] K s := (den_reg hf _ K s).trans (by kernel_rfl)
theorem i0_eq (K : List Item) (s : St) : den prog ann 44 (.code i0 :: K) s = ifV prog ann 44 15 i0t i0e K s (s.get 15) := den_if hf (by kernel_rfl) K s
theorem i0t_eq (K : List Item) (s : St) : den prog ann 44 (.code i0t :: K) s = den prog ann 44 (K) s := den_flat hf (l := []) (by kernel_rfl) K s
theorem i0e_eq (K : List Item) (s : St) : den prog ann 44 (.code i0e :: K) s = den prog ann 44 (.code (.exit 0) :: K) s := den_flat hf (l := [(.exit 0)]) (by kernel_rfl) K s
theorem k1_eq (K : List Item) (s : St) : den prog ann 44 (.code k1 :: K) s = den prog ann 44 (.code r4 :: .code i1 :: .inBlock 1 :: K) s := den_blk hf (b := blkOf k1) (l := [r4, i1]) (by kernel_rfl) (by kernel_rfl) K s
theorem r4_draw : drawOk (fun g => (ann g).pure) (modeOf (ann 44) (idOf r4)) (frzOf (ann 44) (idOf r4)) (opsOf r4) = true := drawOk_of (an := [0, 0, 3, 7, 0, 0, 48, 112, 255]) (by kernel_rfl) (by kernel_rfl)
theorem r4_eq (K : List Item) (s : St) : den prog ann 44 (.code r4 :: K) s = mreg prog ann 44 none [] (some 9) [] [
    ⟨some 18, none, .v fun s => some (s.get 0)⟩,
    ⟨some 19, none, .v fun s => some (s.get 5)⟩,
    ⟨some 20, none, .v fun s => idxSl 1 (s.get 18) (s.get 19)⟩,
    ⟨some 21, none, .v fun s => loadF false 1 (s.get 20)⟩,
    ⟨some 22, none, .v fun s => some (s.get 1)⟩,
    ⟨some 23, none, .v fun s => some (s.get 5)⟩,
    ⟨some 24, none, .v fun s => idxSl 1 (s.get 22) (s.get 23)⟩,
    ⟨some 25, none, .v fun s => loadF false 1 (s.get 24)⟩,
    ⟨some 26, none, .v fun s => binA prog .neq 3 (s.get 21) (s.get 25)⟩] K s := (den_regD hf r4_draw K s).trans (by kernel_rfl)
theorem i1_eq (K : List Item) (s : St) : den prog ann 44 (.code i1 :: K) s = ifV prog ann 44 26 i1t i1e K s (s.get 26) := den_if hf (by kernel_rfl) K s
theorem i1t_eq (K : List Item) (s : St) : den prog ann 44 (.code i1t :: K) s = den prog ann 44 (.code r5 :: .code .ret :: K) s := den_flat hf (l := [r5, .ret]) (by kernel_rfl) K s
theorem r5_draw : drawOk (fun g => (ann g).pure) (modeOf (ann 44) (idOf r5)) (frzOf (ann 44) (idOf r5)) (opsOf r5) = true := drawOk_of (an := [0, 0, 3, 7, 0, 0, 48, 112, 255, 511]) (by kernel_rfl) (by kernel_rfl)
theorem r5_eq (K : List Item) (s : St) : den prog ann 44 (.code r5 :: K) s = mreg prog ann 44 none [] (some 10) [] [
    ⟨some 27, none, .v fun s => some (s.get 0)⟩,
    ⟨some 28, none, .v fun s => some (s.get 5)⟩,
    ⟨some 29, none, .v fun s => idxSl 1 (s.get 27) (s.get 28)⟩,
    ⟨some 30, none, .v fun s => loadF false 1 (s.get 29)⟩,
    ⟨some 31, none, .v fun s => some (s.get 1)⟩,
    ⟨some 32, none, .v fun s => some (s.get 5)⟩,
    ⟨some 33, none, .v fun s => idxSl 1 (s.get 31) (s.get 32)⟩,
    ⟨some 34, none, .v fun s => loadF false 1 (s.get 33)⟩,
    ⟨some 35, none, .v fun s => binA prog .lss 3 (s.get 30) (s.get 34)⟩,
    ⟨some 4, none, .v fun s => some (s.get 35)⟩] K s := (den_regD hf r5_draw K s).trans (by kernel_rfl)
theorem i1e_eq (K : List Item) (s : St) : den prog ann 44 (.code i1e :: K) s = den prog ann 44 (K) s := den_flat hf (l := []) (by kernel_rfl) K s
theorem r3_eq (K : List Item) (s : St) : den prog ann 44 (.code r3 :: K) s = mreg prog ann 44 (some [0, 1, 5]) [] none [] [
    ⟨some 16, none, .v fun s => some (s.get 5)⟩,
    ⟨some 17, none, .v fun s => binA prog .add 3 (s.get 16) (.int .i64 1)⟩,
    ⟨some 5, none, .v fun s => some (s.get 17)⟩] K s := (den_reg hf _ K s).trans (by kernel_rfl)
theorem r6_eq (K : List Item) (s : St) : den prog ann 44 (.code r6 :: K) s = mreg prog ann 44 (some [0, 1]) [] none [] [
    ⟨some 36, none, .v fun s => some (s.get 0)⟩,
    ⟨some 37, none, .v fun s => lenSl (s.get 36)⟩,
    ⟨some 38, none, .v fun s => some (s.get 1)⟩,
    ⟨some 39, none, .v fun s => lenSl (s.get 38)⟩,
    ⟨some 40, none, .v fun s => binA prog .lss 3 (s.get 37) (s.get 39)⟩,
    ⟨some 4, none, .v fun s => some (s.get 40)⟩] K s := (den_reg hf _ K s).trans (by kernel_rfl)
theorem ret_eq (K : List Item) (s : St) : den prog ann 44 (.code .ret :: K) s = finM true [fun s => some (s.get 4)] s := (den_ret hf K s).trans (by kernel_rfl)
theorem nil_eq (s : St) : den prog ann 44 [] s = finM true [fun s => some (s.get 4)] s := (den_nil hf s).trans (by kernel_rfl)
theorem inBlock_eq (id : Nat) (K : List Item) (s : St) : den prog ann 44 (.inBlock id :: K) s = den prog ann 44 K s := den_inBlock hf id K s
theorem exit_eq (id : Nat) (K : List Item) (s : St) : den prog ann 44 (.code (.exit id) :: K) s = exitV prog ann 44 (exitTo id K) s := den_exitV hf id K s
theorem call_eq (v0 v1 : AV) (m : Mem) (h : closedL [v0, v1] = true) : denC prog ann 44 [v0, v1] m = (den prog ann 44 [.code b] ⟨[(0, v0), (1, v1)], 41, Mem.empty⟩).bind fun r => some (r.1, m) := (denC_pure hf (b := b) (by kernel_rfl) (by kernel_rfl) (by kernel_rfl) h m).trans (by kernel_rfl)
theorem pure_eq : (ann 44).pure = true := by kernel_rfl
attribute [simp] b_eq r0_eq r1_eq k0_eq l0_eq r2_eq i0_eq i0t_eq i0e_eq k1_eq r4_eq i1_eq i1t_eq r5_eq i1e_eq r3_eq r6_eq ret_eq nil_eq inBlock_eq exit_eq pure_eq
end r01_Before

namespace r01_Same
/-- pommel/pommelref01.Same -/
noncomputable def b : Code := (Try.f15.body).getD .skip
theorem hf : prog.funcs[15]? = some Try.f15 := by kernel_rfl
noncomputable def r0 : Code := findReg b 0
noncomputable def r1 : Code := findReg b 1
theorem b_eq (K : List Item) (s : St) : den prog ann 15 (.code b :: K) s = den prog ann 15 (.code r0 :: .code r1 :: .code .ret :: K) s := den_flat hf (l := [r0, r1, .ret]) (by kernel_rfl) K s
theorem r0_eq (K : List Item) (s : St) : den prog ann 15 (.code r0 :: K) s = mreg prog ann 15 none [] none [] [
    ⟨some 4, none, .v fun s => some (.bool false)⟩] K s := (den_reg hf _ K s).trans (by kernel_rfl)
theorem r1_eq (K : List Item) (s : St) : den prog ann 15 (.code r1 :: K) s = mreg prog ann 15 none [] none [] [
    ⟨some 5, none, .v fun s => some (s.get 0)⟩,
    ⟨some 6, none, .v fun s => some (s.get 1)⟩,
    ⟨some 7, none, .c 0 (fun s => (.fn 44 [] [])) fun s => [(s.get 5), (s.get 6)]⟩,
    ⟨some 8, none, .v fun s => unA .not (s.get 7)⟩,
    ⟨some 9, none, .v fun s => some (s.get 8)⟩,
    ⟨some 10, some (9, true), .v fun s => some (s.get 1)⟩,
    ⟨some 11, some (9, true), .v fun s => some (s.get 0)⟩,
    ⟨some 12, some (9, true), .c 0 (fun s => (.fn 44 [] [])) fun s => [(s.get 10), (s.get 11)]⟩,
    ⟨some 13, some (9, true), .v fun s => unA .not (s.get 12)⟩,
    ⟨some 14, none, .v fun s => pickA (s.get 9) (s.get 13) (.bool false)⟩,
    ⟨some 4, none, .v fun s => some (s.get 14)⟩] K s := (den_reg hf _ K s).trans (by kernel_rfl)
theorem ret_eq (K : List Item) (s : St) : den prog ann 15 (.code .ret :: K) s = finM true [fun s => some (s.get 4)] s := (den_ret hf K s).trans (by kernel_rfl)
theorem nil_eq (s : St) : den prog ann 15 [] s = finM true [fun s => some (s.get 4)] s := (den_nil hf s).trans (by kernel_rfl)
theorem inBlock_eq (id : Nat) (K : List Item) (s : St) : den prog ann 15 (.inBlock id :: K) s = den prog ann 15 K s := den_inBlock hf id K s
theorem exit_eq (id : Nat) (K : List Item) (s : St) : den prog ann 15 (.code (.exit id) :: K) s = exitV prog ann 15 (exitTo id K) s := den_exitV hf id K s
theorem call_eq (v0 v1 : AV) (m : Mem) (h : closedL [v0, v1] = true) : denC prog ann 15 [v0, v1] m = (den prog ann 15 [.code b] ⟨[(0, v0), (1, v1)], 15, Mem.empty⟩).bind fun r => some (r.1, m) := (denC_pure hf (b := b) (by kernel_rfl) (by kernel_rfl) (by kernel_rfl) h m).trans (by kernel_rfl)
theorem pure_eq : (ann 15).pure = true := by kernel_rfl
attribute [simp] b_eq r0_eq r1_eq ret_eq nil_eq inBlock_eq exit_eq pure_eq
end r01_Same









end Go.Proofs.Ytpghadmpegncgaa

/-
  BODIES OF FUNCTIONS OF THE PROGRAM AS SMALL OPERATIONS (written by gen.py; checked by the kernel against the program). Conditions: none.
-/
namespace Go.Proofs.Ytpghadmpegncgaa
open Go.AM
open Go.Proofs.Try (prog)
set_option maxRecDepth 100000
set_option linter.all false




end Go.Proofs.Ytpghadmpegncgaa

/-
  STRAPS (1): the order of lists, the same list; what a strap is. Conditions: none.
-/
namespace Go.Proofs.Ytpghadmpegncgaa
open Go.AM
open Go.Proofs.Try (prog)
set_option linter.all false
set_option maxRecDepth 100000
set_option maxHeartbeats 4000000

theorem before_loop {va vb : AV} {a b : List Int} (ha : IsInts va a) (hb : IsInts vb b) (hla : a.length < 4611686018427387904) : ∀ (n i : Nat) (m : Mem), a.length - i ≤ n → i ≤ a.length → i ≤ b.length →
    r01_Before.L0 va vb (.int .i64 i) m [.code r01_Before.r6, .code .ret] = some (.bool (lexLt (a.drop i) (b.drop i)), Mem.empty) := by
  intro n
  induction n with
  | zero =>
    intro i m hn hi hi2
    have e : i = a.length := by omega
    subst e
    rw [r01_Before.L0_eq]
    simp [ha.len, hb.len]
    rcases Nat.lt_or_ge a.length b.length with h | h
    · simp [h, drop_nth h, lexLt]
    · have e2 : a.length = b.length := by omega
      simp [e2, lexLt]
  | succ n ih =>
    intro i m hn hi hi2
    rw [r01_Before.L0_eq]
    simp [ha.len, hb.len]
    by_cases h1 : i < a.length
    · by_cases h2 : i < b.length
      · simp [ha.len, hb.len, h1, h2, ha.idx, hb.idx, ints_head]
        by_cases h3 : nth a i = nth b i
        · simp [h3]
          rw [wrap_id (by omega) (by omega)]
          have := ih (i + 1) ⟨m.h, m.nx + 9⟩ (by omega) (by omega) (by omega)
          simp at this
          rw [this, lexLt_drop h1 h2]
          simp [h3]
        · simp [h3, ha.idx, hb.idx, h1, h2, ints_head]
          rw [lexLt_drop h1 h2]
          simp [h3]
      · have e : i = b.length := by omega
        subst e
        simp [ha.len, hb.len, h1]
        have h4 : ¬ a.length < b.length := by omega
        simp [h4, drop_nth h1, lexLt]
    · have e : i = a.length := by omega
      subst e
      simp [ha.len, hb.len]
      rcases Nat.lt_or_ge a.length b.length with h | h
      · simp [h, drop_nth h, lexLt]
      · have e2 : a.length = b.length := by omega
        simp [e2, lexLt]

theorem before_spec {va vb : AV} {a b : List Int} (ha : IsInts va a) (hb : IsInts vb b) (hla : a.length < 4611686018427387904) (m : Mem) :
    denC prog ann 44 [va, vb] m = some (.bool (lexLt a b), m) := by
  rw [r01_Before.call_eq _ _ _ (by simp [ha.closed, hb.closed])]
  have := before_loop ha hb hla _ 0 Mem.empty (Nat.le_refl _) (by omega) (by omega)
  simp at this
  simp [this]


theorem same_spec {va vb : AV} {a b : List Int} (ha : IsInts va a) (hb : IsInts vb b) (hla : a.length < 4611686018427387904) (hlb : b.length < 4611686018427387904) (m : Mem) :
    denC prog ann 15 [va, vb] m = some (.bool (decide (a = b)), m) := by
  rw [r01_Same.call_eq _ _ _ (by simp [ha.closed, hb.closed])]
  simp [ha.closed, hb.closed, before_spec ha hb hla, before_spec hb ha hlb]
  have h := lexLt_same a b
  cases h1 : lexLt a b <;> cases h2 : lexLt b a <;> simp [h1, h2] at h <;> (try subst h) <;> simp [ha.closed, hb.closed, before_spec hb ha hlb, h1, h2, *]

/-! ### What a strap is -/
def ascB (l : List Int) (k i : Nat) : Bool := (List.range' i k).all fun i => decide (nth l (i - 1) < nth l i)
/-- A strap: from 0, rising, no more than 1000 long. -/
structure StrapOk (l : List Int) : Prop where
  pos : 0 < l.length
  few : l.length ≤ 40
  zero : nth l 0 = 0
  asc : ∀ i, i + 1 < l.length → nth l i < nth l (i + 1)
  top : nth l (l.length - 1) ≤ 1000
theorem StrapOk.lt {l : List Int} (s : StrapOk l) {i : Nat} : ∀ {j : Nat}, i < j → j < l.length → nth l i < nth l j
  | j + 1, h, hj => by
    rcases Nat.eq_or_lt_of_le (Nat.le_of_lt_succ h) with e | e
    · subst e; exact s.asc i hj
    · exact Int.lt_trans (s.lt e (by omega)) (s.asc j hj)
theorem StrapOk.le {l : List Int} (s : StrapOk l) {i j : Nat} (h : i ≤ j) (hj : j < l.length) : nth l i ≤ nth l j := by
  rcases Nat.eq_or_lt_of_le h with e | e
  · subst e; exact Int.le_refl _
  · exact Int.le_of_lt (s.lt e hj)
theorem StrapOk.nonneg {l : List Int} (s : StrapOk l) {i : Nat} (hi : i < l.length) : 0 ≤ nth l i := by
  have := s.le (Nat.zero_le i) hi
  rw [s.zero] at this; exact this
theorem StrapOk.most {l : List Int} (s : StrapOk l) {i : Nat} (hi : i < l.length) : nth l i ≤ 1000 := by
  have := s.le (show i ≤ l.length - 1 by omega) (by omega)
  have := s.top
  omega
/-- Why a list is no strap. -/
inductive StrapErr (l : List Int) : Int → Prop where
  | long (h : 40 < l.length) : StrapErr l 3
  | form (h : l.length ≤ 40) (h2 : ¬ StrapOk l) : StrapErr l 2
  | ok (h : StrapOk l) : StrapErr l 0
theorem StrapErr.uniq {l : List Int} {a b : Int} (h : StrapErr l a) (k : StrapErr l b) : a = b := by
  cases h with
  | long h => cases k with
    | long _ => rfl
    | form h2 _ => omega
    | ok s => have := s.few; omega
  | form h h2 => cases k with
    | long _ => omega
    | form _ _ => rfl
    | ok s => exact absurd s h2
  | ok s => cases k with
    | long _ => have := s.few; omega
    | form _ h => exact absurd s h
    | ok _ => rfl

end Go.Proofs.Ytpghadmpegncgaa

/-
  STRAPS (2): the specification's test; how often each distance comes. Conditions: none.
-/
namespace Go.Proofs.Ytpghadmpegncgaa
open Go.AM
open Go.Proofs.Try (prog)
set_option linter.all false
set_option maxRecDepth 100000
set_option maxHeartbeats 4000000

def okAt (l : List Int) (j : Nat) : Bool := if j = 0 then decide (nth l 0 = 0) else decide (nth l (j - 1) < nth l j) && decide (nth l j ≤ 1000)
/-! ### How often each distance comes -/
def cntF (l : List Int) (x : Int) (k j : Nat) (c : List Int) : List Int := (List.range' j k).foldl (fun c q => bump c (x - nth l q).toNat) c
def cntO (l : List Int) (k i : Nat) (c : List Int) : List Int := (List.range' i k).foldl (fun c i => cntF l (nth l i) i 0 c) c
theorem cntF_succ (l : List Int) (x : Int) (k j : Nat) (c : List Int) : cntF l x (k + 1) j c = cntF l x k (j + 1) (bump c (x - nth l j).toNat) := by simp [cntF, List.range'_succ]
/-- The counts are small. -/
def Small (c : List Int) (B : Int) : Prop := ∀ g, 0 ≤ nth c g ∧ nth c g ≤ B
theorem Small.bump {c : List Int} {B : Int} (h : Small c B) (hB : 0 ≤ B) (q : Nat) : Small (bump c q) (B + 1) := by
  intro g
  have := h g
  have h2 := h q
  rw [Go.AM.bump, nth_set]
  split <;> omega
theorem Small.cntF {l : List Int} {x : Int} : ∀ {k j : Nat} {c : List Int} {B : Int}, Small c B → 0 ≤ B → Small (cntF l x k j c) (B + k)
  | 0, _, _, _, h, _ => by simpa [Go.Proofs.Ytpghadmpegncgaa.cntF] using h
  | k + 1, j, c, B, h, hB => by
    rw [cntF_succ]
    have := (h.bump hB (x - nth l j).toNat).cntF (l := l) (x := x) (k := k) (j := j + 1) (by omega)
    rwa [show B + 1 + (k : Int) = B + ((k + 1 : Nat) : Int) by omega] at this

/-- What a strap's counting keeps. -/
def top (l : List Int) : Int := nth l (l.length - 1)
def counts (l : List Int) : List Int := cntO l l.length 0 (List.replicate (top l + 1).toNat 0)
end Go.Proofs.Ytpghadmpegncgaa

/-
  STRAPS (3): the distances that a strap lacks. Conditions: none.
-/
namespace Go.Proofs.Ytpghadmpegncgaa
open Go.AM
open Go.Proofs.Try (prog)
set_option linter.all false
set_option maxRecDepth 100000
set_option maxHeartbeats 4000000

def missL (c : List Int) (k i : Nat) : List Int := ((List.range' i k).filter fun d => decide (0 < d) && decide (nth c d = 0)).map fun d : Nat => (d : Int)
def misses (l : List Int) : List Int := missL (counts l) (counts l).length 0
end Go.Proofs.Ytpghadmpegncgaa

/-
  BODIES OF FUNCTIONS OF THE PROGRAM AS SMALL OPERATIONS (written by gen.py; checked by the kernel against the program). Conditions: none.
-/
namespace Go.Proofs.Ytpghadmpegncgaa
open Go.AM
open Go.Proofs.Try (prog)
set_option maxRecDepth 100000
set_option linter.all false




end Go.Proofs.Ytpghadmpegncgaa

/-
  STRAPS (4): the first distance that comes twice. Conditions: none.
-/
namespace Go.Proofs.Ytpghadmpegncgaa
open Go.AM
open Go.Proofs.Try (prog)
set_option linter.all false
set_option maxRecDepth 100000
set_option maxHeartbeats 4000000

def fstL (p : Nat → Bool) (k i : Nat) : Int := match (List.range' i k).find? p with | some d => (d : Int) | none => -1
def moreP (c : List Int) (d : Nat) : Bool := decide (1 < nth c d)
def twStep (l : List Int) (d : Nat) (acc : List Int) (a : Int) : List Int := if acc.length < 4 ∧ a + (d : Int) ∈ l then acc ++ [a, a + (d : Int)] else acc
/-- What Twice hands back. -/
inductive TwRes (l : List Int) : AV → Int → Int → Prop where
  | bad {e : Int} (h : e ≠ 0) : TwRes l .nils e e
  | none (s : StrapOk l) (h : fstL (moreP (counts l)) (counts l).length 0 < 0) : TwRes l .nils 0 5
  | ok {w : AV} {d : Nat} (s : StrapOk l) (h : fstL (moreP (counts l)) (counts l).length 0 = d) (i : IsInts w (l.foldl (twStep l d) [])) : TwRes l w 0 0
end Go.Proofs.Ytpghadmpegncgaa

/-
  WHAT AN INPUT'S VALUE IS; equality of lists with nothing, and of truth values. Conditions: none.
-/
namespace Go.Proofs.Ytpghadmpegncgaa
open Go.AM
open Go.Proofs.Try (prog)
set_option linter.all false
set_option maxRecDepth 100000
theorem u3 : prog.underlying 3 = some (.int .i64) := by kernel_rfl
theorem u4 : prog.underlying 4 = some .bool := by kernel_rfl
theorem u22 : prog.underlying 22 = some (.slice 3) := by kernel_rfl
@[simp] theorem eql_nils : binA prog .eql 22 .nils .nils = some (.bool true) := by simp [binA, eqT, eqA, u22]
@[simp] theorem neq_nils : binA prog .neq 22 .nils .nils = some (.bool false) := by simp [binA, eqT, eqA, u22]
@[simp] theorem eql_fsl (ex : Bool) (n : Nat) (cs : List AV) : binA prog .eql 22 (.fsl ex n cs) .nils = some (.bool false) := by simp [binA, eqT, eqA, u22]
@[simp] theorem neq_fsl (ex : Bool) (n : Nat) (cs : List AV) : binA prog .neq 22 (.fsl ex n cs) .nils = some (.bool true) := by simp [binA, eqT, eqA, u22]
@[simp] theorem eql_bool (a b : Bool) : binA prog .eql 4 (.bool a) (.bool b) = some (.bool (a == b)) := by simp [binA, eqT, eqA, u4]

theorem dat3 {d : Nat} {cs : List AV} (h : Dat prog (d + 1) 3 cs) : ∃ n, cs = [.int .i64 n] ∧ I64 n := by
  simp only [Dat, u3] at h
  obtain ⟨n, rfl, hw⟩ := h
  refine ⟨n, rfl, ?_⟩
  simp only [Lit.wf, Bool.and_eq_true, decide_eq_true_eq] at hw
  have e1 : IntKind.min .i64 = -9223372036854775808 := by decide
  have e2 : IntKind.max .i64 = 9223372036854775807 := by decide
  rw [e1, e2] at hw
  exact hw

theorem datV3 {d : Nat} {a : AV} (h : DatV prog (d + 1) 3 a) : ∃ n, a = .int .i64 n ∧ I64 n := by
  simp only [DatV, u3] at h
  obtain ⟨n, e, hn⟩ := dat3 h
  exact ⟨n, by simpa using e, hn⟩
def byteC (n : Int) : List AV := [.int .u8 n]
end Go.Proofs.Ytpghadmpegncgaa

/-
  STRAPS (5): the specification's four loops. Conditions: none.
-/
namespace Go.Proofs.Ytpghadmpegncgaa
open Go.AM
open Go.Proofs.Try (prog)
set_option linter.all false
set_option maxRecDepth 100000
set_option maxHeartbeats 8000000

/-- The best four so far: none, or four. -/
def bestV (b : List Int) : AV := if b = [] then .nils else .fsl true b.length (ints b)
def twC (b q : List Int) : Bool := decide (b = []) || (decide (nth q 1 - nth q 0 < nth b 1 - nth b 0) || (decide (nth q 1 - nth q 0 = nth b 1 - nth b 0) && lexLt [nth q 0, nth q 2] [nth b 0, nth b 2]))
def twQ (l : List Int) (i j m n : Nat) : List Int := [nth l i, nth l j, nth l m, nth l n]
def tw7 (l : List Int) (i j m n : Nat) (b : List Int) : List Int := if nth l j - nth l i = nth l n - nth l m then (if twC b (twQ l i j m n) = true then twQ l i j m n else b) else b
def tw6 (l : List Int) (i j m k n : Nat) (b : List Int) : List Int := (List.range' n k).foldl (fun b n => tw7 l i j m n b) b
def tw4 (l : List Int) (i j k m : Nat) (b : List Int) : List Int := (List.range' m k).foldl (fun b m => tw6 l i j m (l.length - (m + 1)) (m + 1) b) b
def tw2 (l : List Int) (i k j : Nat) (b : List Int) : List Int := (List.range' j k).foldl (fun b j => tw4 l i j (l.length - (i + 1)) (i + 1) b) b
def tw0 (l : List Int) (k i : Nat) (b : List Int) : List Int := (List.range' i k).foldl (fun b i => tw2 l i (l.length - (i + 1)) (i + 1) b) b
theorem tw6_succ (l : List Int) (i j m k n : Nat) (b : List Int) : tw6 l i j m (k + 1) n b = tw6 l i j m k (n + 1) (tw7 l i j m n b) := by simp [tw6, List.range'_succ]
theorem tw4_succ (l : List Int) (i j k m : Nat) (b : List Int) : tw4 l i j (k + 1) m b = tw4 l i j k (m + 1) (tw6 l i j m (l.length - (m + 1)) (m + 1) b) := by simp [tw4, List.range'_succ]
theorem tw2_succ (l : List Int) (i k j : Nat) (b : List Int) : tw2 l i (k + 1) j b = tw2 l i k (j + 1) (tw4 l i j (l.length - (i + 1)) (i + 1) b) := by simp [tw2, List.range'_succ]
theorem tw0_succ (l : List Int) (k i : Nat) (b : List Int) : tw0 l (k + 1) i b = tw0 l k (i + 1) (tw2 l i (l.length - (i + 1)) (i + 1) b) := by simp [tw0, List.range'_succ]
/-- The best is none, or four holes. -/
def Fit (b : List Int) : Prop := b = [] ∨ ∃ p q r t : Int, b = [p, q, r, t] ∧ (0 ≤ p ∧ p ≤ 1000) ∧ (0 ≤ q ∧ q ≤ 1000) ∧ 0 ≤ r ∧ r ≤ 1000
theorem Fit.step {l : List Int} (s : StrapOk l) {b : List Int} (h : Fit b) {i j m n : Nat} (hi : i < l.length) (hj : j < l.length) (hm : m < l.length) : Fit (tw7 l i j m n b) := by
  unfold tw7
  split
  · split
    · exact .inr ⟨_, _, _, _, rfl, ⟨s.nonneg hi, s.most hi⟩, ⟨s.nonneg hj, s.most hj⟩, s.nonneg hm, s.most hm⟩
    · exact h
  · exact h
theorem Fit.six {l : List Int} (s : StrapOk l) {i j m : Nat} (hi : i < l.length) (hj : j < l.length) (hm : m < l.length) : ∀ {k n : Nat} {b : List Int}, Fit b → Fit (tw6 l i j m k n b)
  | 0, _, _, h => h
  | k + 1, n, b, h => by rw [tw6_succ]; exact (h.step s hi hj hm).six s hi hj hm
theorem Fit.four {l : List Int} (s : StrapOk l) {i j : Nat} (hi : i < l.length) (hj : j < l.length) : ∀ {k m : Nat} {b : List Int}, m + k ≤ l.length → Fit b → Fit (tw4 l i j k m b)
  | 0, _, _, _, h => h
  | k + 1, m, b, hk, h => by rw [tw4_succ]; exact (h.six s hi hj (by omega)).four s hi hj (by omega)
theorem Fit.two {l : List Int} (s : StrapOk l) {i : Nat} (hi : i < l.length) : ∀ {k j : Nat} {b : List Int}, j + k ≤ l.length → Fit b → Fit (tw2 l i k j b)
  | 0, _, _, _, h => h
  | k + 1, j, b, hk, h => by rw [tw2_succ]; exact (h.four s hi (by omega) (by omega)).two s hi (by omega)

end Go.Proofs.Ytpghadmpegncgaa

/-
  STRAPS (6): how often each distance comes, in plain terms. Conditions: none.
-/
namespace Go.Proofs.Ytpghadmpegncgaa
open Go.AM
set_option linter.all false
set_option maxRecDepth 10000
set_option maxHeartbeats 2000000

def hit (l : List Int) (g i : Nat) : Bool := (List.range' 0 i).any fun q => decide (nth l q = nth l i - g)
def D (l : List Int) (g : Nat) : Nat := l.countP fun a => decide (a - (g : Int) ∈ l)
def U (l : List Int) (g : Nat) : Nat := l.countP fun a => decide (a + (g : Int) ∈ l)
theorem lt_nodup {l : List Int} (h : l.Pairwise (· < ·)) : l.Nodup := h.imp fun h => by omega
end Go.Proofs.Ytpghadmpegncgaa

/-
  STRAPS (7): the first four holes with one distance are those that the four loops find. Conditions: none.
-/
namespace Go.Proofs.Ytpghadmpegncgaa
open Go.AM
set_option linter.all false
set_option maxRecDepth 10000
set_option maxHeartbeats 2000000

def key (q : List Int) : List Int := [nth q 1 - nth q 0, nth q 0, nth q 2]
def Val (l : List Int) (i j m n : Nat) : Prop := nth l j - nth l i = nth l n - nth l m
theorem twC_key (b q : List Int) : twC b q = (decide (b = []) || lexLt (key q) (key b)) := by
  simp only [twC, key, lexLt]
  by_cases h : nth q 1 - nth q 0 = nth b 1 - nth b 0
  · simp [h]
  · simp [h]
/-- The best of what was seen. -/
def BestOk (l : List Int) (S : Nat → Nat → Nat → Nat → Prop) (b : List Int) : Prop :=
  (b = [] ∨ ∃ i j m n, S i j m n ∧ Val l i j m n ∧ b = twQ l i j m n) ∧ ∀ i j m n, S i j m n → Val l i j m n → b ≠ [] ∧ lexLt (key (twQ l i j m n)) (key b) = false
theorem BestOk.congr {l : List Int} {S S' : Nat → Nat → Nat → Nat → Prop} {b : List Int} (h : BestOk l S b) (e : ∀ i j m n, S i j m n ↔ S' i j m n) : BestOk l S' b := by
  have : S = S' := by funext i j m n; exact propext (e i j m n)
  rwa [← this]
theorem BestOk.step {l : List Int} {S : Nat → Nat → Nat → Nat → Prop} {b : List Int} (h : BestOk l S b) (i j m n : Nat) : BestOk l (fun i' j' m' n' => S i' j' m' n' ∨ (i' = i ∧ j' = j ∧ m' = m ∧ n' = n)) (tw7 l i j m n b) := by
  unfold tw7
  by_cases v : nth l j - nth l i = nth l n - nth l m
  · rw [if_pos v, twC_key]
    cases t : (decide (b = []) || lexLt (key (twQ l i j m n)) (key b)) with
    | true =>
      rw [if_pos rfl]
      refine ⟨.inr ⟨i, j, m, n, .inr ⟨rfl, rfl, rfl, rfl⟩, v, rfl⟩, ?_⟩
      rintro i' j' m' n' (hs | ⟨rfl, rfl, rfl, rfl⟩) v'
      · refine ⟨by simp [twQ], ?_⟩
        obtain ⟨h1, h2⟩ := h.2 i' j' m' n' hs v'
        rw [decide_eq_false h1, Bool.false_or] at t
        cases q : lexLt (key (twQ l i' j' m' n')) (key (twQ l i j m n)) with
        | false => rfl
        | true => rw [lex_trans q t] at h2; cases h2
      · exact ⟨by simp [twQ], lexLt_irr _⟩
    | false =>
      rw [if_neg (by decide)]
      simp only [Bool.or_eq_false_iff, decide_eq_false_iff_not] at t
      refine ⟨h.1.imp id (fun ⟨i', j', m', n', a, b⟩ => ⟨i', j', m', n', .inl a, b⟩), ?_⟩
      rintro i' j' m' n' (hs | ⟨rfl, rfl, rfl, rfl⟩) v'
      · exact h.2 i' j' m' n' hs v'
      · exact t
  · rw [if_neg v]
    refine ⟨h.1.imp id (fun ⟨i', j', m', n', a, b⟩ => ⟨i', j', m', n', .inl a, b⟩), ?_⟩
    rintro i' j' m' n' (hs | ⟨rfl, rfl, rfl, rfl⟩) v'
    · exact h.2 i' j' m' n' hs v'
    · exact absurd v' v
theorem BestOk.six {l : List Int} (i j m : Nat) : ∀ (k n : Nat) {S : Nat → Nat → Nat → Nat → Prop} {b : List Int}, BestOk l S b → BestOk l (fun i' j' m' n' => S i' j' m' n' ∨ (i' = i ∧ j' = j ∧ m' = m ∧ n ≤ n' ∧ n' < n + k)) (tw6 l i j m k n b)
  | 0, n, S, b, h => h.congr fun i' j' m' n' => ⟨.inl, fun h => h.elim id fun h => by omega⟩
  | k + 1, n, S, b, h => by
    rw [tw6_succ]
    refine ((h.step i j m n).six i j m k (n + 1)).congr fun i' j' m' n' => ⟨?_, ?_⟩
    · rintro ((h | h) | h)
      · exact .inl h
      · exact .inr (by omega)
      · exact .inr (by omega)
    · rintro (h | h)
      · exact .inl (.inl h)
      · by_cases e : n' = n
        · exact .inl (.inr (by omega))
        · exact .inr (by omega)
theorem BestOk.four {l : List Int} (i j : Nat) : ∀ (k m : Nat) {S : Nat → Nat → Nat → Nat → Prop} {b : List Int}, m + k ≤ l.length → BestOk l S b → BestOk l (fun i' j' m' n' => S i' j' m' n' ∨ (i' = i ∧ j' = j ∧ (m ≤ m' ∧ m' < m + k) ∧ m' < n' ∧ n' < l.length)) (tw4 l i j k m b)
  | 0, m, S, b, _, h => h.congr fun i' j' m' n' => ⟨.inl, fun h => h.elim id fun h => by omega⟩
  | k + 1, m, S, b, hk, h => by
    rw [tw4_succ]
    refine (BestOk.four i j k (m + 1) (by omega) (h.six i j m (l.length - (m + 1)) (m + 1))).congr fun i' j' m' n' => ⟨?_, ?_⟩
    · rintro ((h | h) | h)
      · exact .inl h
      · exact .inr (by omega)
      · exact .inr (by omega)
    · rintro (h | h)
      · exact .inl (.inl h)
      · by_cases e : m' = m
        · exact .inl (.inr (by omega))
        · exact .inr (by omega)
theorem BestOk.two {l : List Int} (i : Nat) (hi : i < l.length) : ∀ (k j : Nat) {S : Nat → Nat → Nat → Nat → Prop} {b : List Int}, j + k ≤ l.length → BestOk l S b → BestOk l (fun i' j' m' n' => S i' j' m' n' ∨ (i' = i ∧ (j ≤ j' ∧ j' < j + k) ∧ i < m' ∧ m' < n' ∧ n' < l.length)) (tw2 l i k j b)
  | 0, j, S, b, _, h => h.congr fun i' j' m' n' => ⟨.inl, fun h => h.elim id fun h => by omega⟩
  | k + 1, j, S, b, hk, h => by
    rw [tw2_succ]
    refine (BestOk.two i hi k (j + 1) (by omega) (h.four i j (l.length - (i + 1)) (i + 1) (by omega))).congr fun i' j' m' n' => ⟨?_, ?_⟩
    · rintro ((h | h) | h)
      · exact .inl h
      · exact .inr (by omega)
      · exact .inr (by omega)
    · rintro (h | h)
      · exact .inl (.inl h)
      · by_cases e : j' = j
        · exact .inl (.inr (by omega))
        · exact .inr (by omega)
theorem BestOk.zero {l : List Int} : ∀ (k i : Nat) {S : Nat → Nat → Nat → Nat → Prop} {b : List Int}, i + k ≤ l.length → BestOk l S b → BestOk l (fun i' j' m' n' => S i' j' m' n' ∨ ((i ≤ i' ∧ i' < i + k) ∧ (i' < j' ∧ j' < l.length) ∧ i' < m' ∧ m' < n' ∧ n' < l.length)) (tw0 l k i b)
  | 0, i, S, b, _, h => h.congr fun i' j' m' n' => ⟨.inl, fun h => h.elim id fun h => by omega⟩
  | k + 1, i, S, b, hk, h => by
    rw [tw0_succ]
    refine (BestOk.zero k (i + 1) (by omega) (h.two i (by omega) (l.length - (i + 1)) (i + 1) (by omega))).congr fun i' j' m' n' => ⟨?_, ?_⟩
    · rintro ((h | h) | h)
      · exact .inl h
      · exact .inr (by omega)
      · exact .inr (by omega)
    · rintro (h | h)
      · exact .inl (.inl h)
      · by_cases e : i' = i
        · exact .inl (.inr (by omega))
        · exact .inr (by omega)
def Quad (l : List Int) (i j m n : Nat) : Prop := (i < j ∧ j < l.length) ∧ i < m ∧ m < n ∧ n < l.length
theorem nth_mem {l : List Int} {i : Nat} (h : i < l.length) : nth l i ∈ l := by rw [← nth_get h]; exact List.getElem_mem h
end Go.Proofs.Ytpghadmpegncgaa

/-
  BODIES OF FUNCTIONS OF THE PROGRAM AS SMALL OPERATIONS (written by gen.py; checked by the kernel against the program). Conditions: none.
-/
namespace Go.Proofs.Ytpghadmpegncgaa
open Go.AM
open Go.Proofs.Try (prog)
set_option maxRecDepth 100000
set_option linter.all false


end Go.Proofs.Ytpghadmpegncgaa

/-
  STRAPS (8): holes from bytes, and holes counted from the other end. Conditions: none.
-/
namespace Go.Proofs.Ytpghadmpegncgaa
open Go.AM
open Go.Proofs.Try (prog)
set_option linter.all false
set_option maxRecDepth 100000
set_option maxHeartbeats 4000000

theorem nth_last (l : List Int) (x : Int) : nth (l ++ [x]) l.length = x := by rw [nth_append, if_neg (by omega)]; simp [nth]
theorem StrapOk.more {l : List Int} (s : StrapOk l) (h : l.length < 40) {x : Int} (h1 : Go.Proofs.Ytpghadmpegncgaa.top l < x) (h2 : x ≤ 1000) : StrapOk (l ++ [x]) where
  pos := by simp
  few := by simp; omega
  zero := by have := s.pos; rw [nth_append, if_pos this, s.zero]
  asc := fun i hi => by
    simp at hi
    by_cases e : i + 1 < l.length
    · rw [nth_append, nth_append, if_pos (by omega), if_pos e]; exact s.asc i e
    · have e2 : i + 1 = l.length := by omega
      rw [e2, nth_last, nth_append, if_pos (by omega), show i = l.length - 1 by omega]
      exact h1
  top := by simp only [List.length_append, List.length_singleton, Nat.add_sub_cancel]; rw [nth_last]; exact h2
/-! ### Holes counted from the other end -/
def mirL (l : List Int) : List Int := (l.map fun a => top l - a).reverse
end Go.Proofs.Ytpghadmpegncgaa

/-
  BODIES OF FUNCTIONS OF THE PROGRAM AS SMALL OPERATIONS (written by gen.py; checked by the kernel against the program). Conditions: none.
-/
namespace Go.Proofs.Ytpghadmpegncgaa
open Go.AM
open Go.Proofs.Try (prog)
set_option maxRecDepth 100000
set_option linter.all false


namespace strap_search_find
/-- (pommel/strap.search).find -/
noncomputable def b : Code := (Try.f43.body).getD .skip
theorem hf : prog.funcs[43]? = some Try.f43 := by kernel_rfl
noncomputable def r0 : Code := findReg b 0
noncomputable def k0 : Code := findBlk b 0
noncomputable def r1 : Code := findReg b 1
noncomputable def i0 : Code := findCond b 0
noncomputable def i0t : Code := thenOf i0
noncomputable def i0e : Code := elseOf i0
noncomputable def r2 : Code := findReg b 2
noncomputable def r3 : Code := findReg b 3
noncomputable def i1 : Code := findCond b 1
noncomputable def i1t : Code := thenOf i1
noncomputable def i1e : Code := elseOf i1
noncomputable def r4 : Code := findReg b 4
noncomputable def i2 : Code := findCond b 2
noncomputable def i2t : Code := thenOf i2
noncomputable def i2e : Code := elseOf i2
noncomputable def r5 : Code := findReg b 5
noncomputable def r6 : Code := findReg b 6
noncomputable def r7 : Code := findReg b 7
noncomputable def k1 : Code := findBlk b 1
noncomputable def l1 : Code := loopOf k1
noncomputable def L1 (x1 x2 x5 : AV) (m : Mem) (K : List Item) : Option Res := den prog ann 43 (.code l1 :: .inLoop l1 :: .inBlock 1 :: K) ⟨[(1, x1), (2, x2), (5, x5)], 54, m⟩
noncomputable def r8 : Code := findReg b 8
noncomputable def i3 : Code := findCond b 3
noncomputable def i3t : Code := thenOf i3
noncomputable def i3e : Code := elseOf i3
noncomputable def k2 : Code := findBlk b 2
noncomputable def r10 : Code := findReg b 10
noncomputable def r11 : Code := findReg b 11
noncomputable def i4 : Code := findCond b 4
noncomputable def i4t : Code := thenOf i4
noncomputable def i4e : Code := elseOf i4
noncomputable def r12 : Code := findReg b 12
noncomputable def r9 : Code := findReg b 9
noncomputable def r13 : Code := findReg b 13
theorem b_eq (K : List Item) (s : St) : den prog ann 43 (.code b :: K) s = den prog ann 43 (.code r0 :: .code k0 :: .code r7 :: .code k1 :: .code r13 :: .code .ret :: K) s := den_flat hf (l := [r0, k0, r7, k1, r13, .ret]) (by kernel_rfl) K s
theorem r0_eq (K : List Item) (s : St) : den prog ann 43 (.code r0 :: K) s = mreg prog ann 43 none [] none [] [
    ⟨some 2, none, .v fun s => frozenPtr (s.get 0)⟩,
    ⟨some 4, none, .v fun s => some (.nils)⟩] K s := (den_reg hf _ K s).trans (by kernel_rfl)
theorem k0_eq (K : List Item) (s : St) : den prog ann 43 (.code k0 :: K) s = den prog ann 43 (.code r1 :: .code i0 :: .inBlock 0 :: K) s := den_blk hf (b := blkOf k0) (l := [r1, i0]) (by kernel_rfl) (by kernel_rfl) K s
theorem r1_eq (K : List Item) (s : St) : den prog ann 43 (.code r1 :: K) s = mreg prog ann 43 none [] none [] [
    ⟨some 8, none, .v fun s => fieldA 2 (s.get 2)⟩,
    ⟨some 9, none, .v fun s => loadF false 1 (s.get 8)⟩,
    ⟨some 10, none, .v fun s => some (s.get 1)⟩,
    ⟨some 11, none, .c 0 (fun s => (s.get 9)) fun s => [(s.get 10)]⟩,
    ⟨some 12, none, .v fun s => unA .not (s.get 11)⟩,
    ⟨some 7, none, .v fun s => some (s.get 12)⟩] K s := (den_reg hf _ K s).trans (by kernel_rfl)
theorem i0_eq (K : List Item) (s : St) : den prog ann 43 (.code i0 :: K) s = ifV prog ann 43 7 i0t i0e K s (s.get 7) := den_if hf (by kernel_rfl) K s
theorem i0t_eq (K : List Item) (s : St) : den prog ann 43 (.code i0t :: K) s = den prog ann 43 (.code r2 :: .code .ret :: K) s := den_flat hf (l := [r2, .ret]) (by kernel_rfl) K s
theorem r2_eq (K : List Item) (s : St) : den prog ann 43 (.code r2 :: K) s = mreg prog ann 43 none [] none [] [
    ⟨some 4, none, .v fun s => some (.nils)⟩] K s := (den_reg hf _ K s).trans (by kernel_rfl)
theorem i0e_eq (K : List Item) (s : St) : den prog ann 43 (.code i0e :: K) s = den prog ann 43 (.code r3 :: .code i1 :: K) s := den_flat hf (l := [r3, i1]) (by kernel_rfl) K s
theorem r3_eq (K : List Item) (s : St) : den prog ann 43 (.code r3 :: K) s = mreg prog ann 43 none [] none [] [
    ⟨some 14, none, .v fun s => some (s.get 1)⟩,
    ⟨some 15, none, .v fun s => lenSl (s.get 14)⟩,
    ⟨some 16, none, .v fun s => fieldA 0 (s.get 2)⟩,
    ⟨some 17, none, .v fun s => loadF false 1 (s.get 16)⟩,
    ⟨some 18, none, .v fun s => binA prog .eql 3 (s.get 15) (s.get 17)⟩,
    ⟨some 13, none, .v fun s => some (s.get 18)⟩] K s := (den_reg hf _ K s).trans (by kernel_rfl)
theorem i1_eq (K : List Item) (s : St) : den prog ann 43 (.code i1 :: K) s = ifV prog ann 43 13 i1t i1e K s (s.get 13) := den_if hf (by kernel_rfl) K s
theorem i1t_eq (K : List Item) (s : St) : den prog ann 43 (.code i1t :: K) s = den prog ann 43 (.code r4 :: .code i2 :: .code r6 :: .code .ret :: K) s := den_flat hf (l := [r4, i2, r6, .ret]) (by kernel_rfl) K s
theorem r4_eq (K : List Item) (s : St) : den prog ann 43 (.code r4 :: K) s = mreg prog ann 43 none [] none [] [
    ⟨some 19, none, .v fun s => fieldA 3 (s.get 2)⟩,
    ⟨some 20, none, .v fun s => loadF false 1 (s.get 19)⟩,
    ⟨some 21, none, .v fun s => some (s.get 1)⟩,
    ⟨some 22, none, .c 0 (fun s => (s.get 20)) fun s => [(s.get 21)]⟩] K s := (den_reg hf _ K s).trans (by kernel_rfl)
theorem i2_eq (K : List Item) (s : St) : den prog ann 43 (.code i2 :: K) s = ifV prog ann 43 22 i2t i2e K s (s.get 22) := den_if hf (by kernel_rfl) K s
theorem i2t_eq (K : List Item) (s : St) : den prog ann 43 (.code i2t :: K) s = den prog ann 43 (.code r5 :: .code .ret :: K) s := den_flat hf (l := [r5, .ret]) (by kernel_rfl) K s
theorem r5_eq (K : List Item) (s : St) : den prog ann 43 (.code r5 :: K) s = mreg prog ann 43 none [] none [] [
    ⟨some 23, none, .v fun s => some (s.get 1)⟩,
    ⟨some 4, none, .v fun s => some (s.get 23)⟩] K s := (den_reg hf _ K s).trans (by kernel_rfl)
theorem i2e_eq (K : List Item) (s : St) : den prog ann 43 (.code i2e :: K) s = den prog ann 43 (K) s := den_flat hf (l := []) (by kernel_rfl) K s
theorem r6_eq (K : List Item) (s : St) : den prog ann 43 (.code r6 :: K) s = mreg prog ann 43 none [] none [] [
    ⟨some 4, none, .v fun s => some (.nils)⟩] K s := (den_reg hf _ K s).trans (by kernel_rfl)
theorem i1e_eq (K : List Item) (s : St) : den prog ann 43 (.code i1e :: K) s = den prog ann 43 (K) s := den_flat hf (l := []) (by kernel_rfl) K s
theorem r7_eq (K : List Item) (s : St) : den prog ann 43 (.code r7 :: K) s = mreg prog ann 43 (some [1, 2]) [] none [] [
    ⟨some 24, none, .v fun s => some (s.get 1)⟩,
    ⟨some 25, none, .v fun s => some (s.get 1)⟩,
    ⟨some 26, none, .v fun s => lenSl (s.get 25)⟩,
    ⟨some 27, none, .v fun s => binA prog .sub 3 (s.get 26) (.int .i64 1)⟩,
    ⟨some 28, none, .v fun s => idxSl 1 (s.get 24) (s.get 27)⟩,
    ⟨some 29, none, .v fun s => loadF false 1 (s.get 28)⟩,
    ⟨some 30, none, .v fun s => binA prog .add 3 (s.get 29) (.int .i64 1)⟩,
    ⟨some 5, none, .v fun s => some (s.get 30)⟩] K s := (den_reg hf _ K s).trans (by kernel_rfl)
theorem k1_eq (K : List Item) (t : List (Nat × AV)) (m : Mem) : den prog ann 43 (.code k1 :: K) ⟨t, 54, m⟩ = L1 (get t 1) (get t 2) (get t 5) m K := den_loop_enter hf (b := l1) (id := 8) (l := [1, 2, 5]) (by kernel_rfl) (by kernel_rfl) (by kernel_rfl) K _
theorem l1_eq (K : List Item) (t : List (Nat × AV)) (m : Mem) : den prog ann 43 (.inLoop l1 :: .inBlock 1 :: K) ⟨t, 54, m⟩ = L1 (get t 1) (get t 2) (get t 5) m K := den_loop_again hf (id := 8) (l := [1, 2, 5]) (by kernel_rfl) (by kernel_rfl) (.inBlock 1 :: K) _
theorem L1_eq (x1 x2 x5 : AV) (m : Mem) (K : List Item) : L1 x1 x2 x5 m K = den prog ann 43 (.code r8 :: .code i3 :: .code k2 :: .code r9 :: .inLoop l1 :: .inBlock 1 :: K) ⟨[(1, x1), (2, x2), (5, x5)], 54, m⟩ := den_flat hf (l := [r8, i3, k2, r9]) (by kernel_rfl) _ _
theorem r8_eq (K : List Item) (s : St) : den prog ann 43 (.code r8 :: K) s = mreg prog ann 43 (some [1, 2, 5]) [] none [] [
    ⟨some 31, none, .v fun s => some (s.get 5)⟩,
    ⟨some 32, none, .v fun s => fieldA 1 (s.get 2)⟩,
    ⟨some 33, none, .v fun s => loadF false 1 (s.get 32)⟩,
    ⟨some 34, none, .v fun s => fieldA 0 (s.get 2)⟩,
    ⟨some 35, none, .v fun s => loadF false 1 (s.get 34)⟩,
    ⟨some 36, none, .v fun s => some (s.get 1)⟩,
    ⟨some 37, none, .v fun s => lenSl (s.get 36)⟩,
    ⟨some 38, none, .v fun s => binA prog .sub 3 (s.get 35) (s.get 37)⟩,
    ⟨some 39, none, .v fun s => binA prog .sub 3 (s.get 38) (.int .i64 1)⟩,
    ⟨some 40, none, .v fun s => binA prog .sub 3 (s.get 33) (s.get 39)⟩,
    ⟨some 41, none, .v fun s => binA prog .leq 3 (s.get 31) (s.get 40)⟩] K s := (den_reg hf _ K s).trans (by kernel_rfl)
theorem i3_eq (K : List Item) (s : St) : den prog ann 43 (.code i3 :: K) s = ifV prog ann 43 41 i3t i3e K s (s.get 41) := den_if hf (by kernel_rfl) K s
theorem i3t_eq (K : List Item) (s : St) : den prog ann 43 (.code i3t :: K) s = den prog ann 43 (K) s := den_flat hf (l := []) (by kernel_rfl) K s
theorem i3e_eq (K : List Item) (s : St) : den prog ann 43 (.code i3e :: K) s = den prog ann 43 (.code (.exit 1) :: K) s := den_flat hf (l := [(.exit 1)]) (by kernel_rfl) K s
theorem k2_eq (K : List Item) (s : St) : den prog ann 43 (.code k2 :: K) s = den prog ann 43 (.code r10 :: .code r11 :: .code i4 :: .inBlock 2 :: K) s := den_blk hf (b := blkOf k2) (l := [r10, r11, i4]) (by kernel_rfl) (by kernel_rfl) K s
theorem r10_draw : drawOk (fun g => (ann g).pure) (modeOf (ann 43) (idOf r10)) (frzOf (ann 43) (idOf r10)) (opsOf r10) = true := drawOk_of (an := [0, 0, 2, 0, 8, 30, 63, 127]) (by kernel_rfl) (by kernel_rfl)
theorem r10_eq (K : List Item) (s : St) : den prog ann 43 (.code r10 :: K) s = mreg prog ann 43 none [] (some 8) [] [
    ⟨some 44, none, .v fun s => loadF true 4 (s.get 2)⟩,
    ⟨some 45, none, .v fun s => some (s.get 1)⟩,
    ⟨some 46, none, .c 0 (fun s => (.fn 64 [] [])) fun s => [(s.get 45)]⟩,
    ⟨some 47, none, .v fun s => some (s.get 5)⟩,
    ⟨some 48, none, .v fun s => bslF 1 (bslA 1 1 [.int .i64 0] [(0, (s.get 47))])⟩,
    ⟨some 49, none, .w false (some 5) fun s => appendA 1 8 s.m (s.get 46) (s.get 48)⟩,
    ⟨some 50, none, .c 2 (fun s => (.fn 43 [] [])) fun s => [(s.get 44), (s.get 49)]⟩,
    ⟨some 6, none, .v fun s => some (s.get 50)⟩] K s := (den_regD hf r10_draw K s).trans (by kernel_rfl)
theorem r11_eq (K : List Item) (s : St) : den prog ann 43 (.code r11 :: K) s = mreg prog ann 43 none [] none [] [
    ⟨some 51, none, .v fun s => some (s.get 6)⟩,
    ⟨some 52, none, .v fun s => binA prog .neq 22 (s.get 51) (.nils)⟩] K s := (den_reg hf _ K s).trans (by kernel_rfl)
theorem i4_eq (K : List Item) (s : St) : den prog ann 43 (.code i4 :: K) s = ifV prog ann 43 52 i4t i4e K s (s.get 52) := den_if hf (by kernel_rfl) K s
theorem i4t_eq (K : List Item) (s : St) : den prog ann 43 (.code i4t :: K) s = den prog ann 43 (.code r12 :: .code .ret :: K) s := den_flat hf (l := [r12, .ret]) (by kernel_rfl) K s
theorem r12_eq (K : List Item) (s : St) : den prog ann 43 (.code r12 :: K) s = mreg prog ann 43 none [] none [] [
    ⟨some 53, none, .v fun s => some (s.get 6)⟩,
    ⟨some 4, none, .v fun s => some (s.get 53)⟩] K s := (den_reg hf _ K s).trans (by kernel_rfl)
theorem i4e_eq (K : List Item) (s : St) : den prog ann 43 (.code i4e :: K) s = den prog ann 43 (K) s := den_flat hf (l := []) (by kernel_rfl) K s
theorem r9_eq (K : List Item) (s : St) : den prog ann 43 (.code r9 :: K) s = mreg prog ann 43 (some [1, 2, 5]) [] none [] [
    ⟨some 42, none, .v fun s => some (s.get 5)⟩,
    ⟨some 43, none, .v fun s => binA prog .add 3 (s.get 42) (.int .i64 1)⟩,
    ⟨some 5, none, .v fun s => some (s.get 43)⟩] K s := (den_reg hf _ K s).trans (by kernel_rfl)
theorem r13_eq (K : List Item) (s : St) : den prog ann 43 (.code r13 :: K) s = mreg prog ann 43 (some []) [] none [] [
    ⟨some 4, none, .v fun s => some (.nils)⟩] K s := (den_reg hf _ K s).trans (by kernel_rfl)
theorem ret_eq (K : List Item) (s : St) : den prog ann 43 (.code .ret :: K) s = finM true [fun s => some (s.get 4)] s := (den_ret hf K s).trans (by kernel_rfl)
theorem nil_eq (s : St) : den prog ann 43 [] s = finM true [fun s => some (s.get 4)] s := (den_nil hf s).trans (by kernel_rfl)
theorem inBlock_eq (id : Nat) (K : List Item) (s : St) : den prog ann 43 (.inBlock id :: K) s = den prog ann 43 K s := den_inBlock hf id K s
theorem exit_eq (id : Nat) (K : List Item) (s : St) : den prog ann 43 (.code (.exit id) :: K) s = exitV prog ann 43 (exitTo id K) s := den_exitV hf id K s
theorem call_eq (v0 v1 : AV) (m : Mem) (h : closedL [v0, v1] = true) : denC prog ann 43 [v0, v1] m = (den prog ann 43 [.code b] ⟨[(0, v0), (1, v1)], 54, Mem.empty⟩).bind fun r => some (r.1, m) := (denC_pure hf (b := b) (by kernel_rfl) (by kernel_rfl) (by kernel_rfl) h m).trans (by kernel_rfl)
theorem pure_eq : (ann 43).pure = true := by kernel_rfl
attribute [simp] b_eq r0_eq k0_eq r1_eq i0_eq i0t_eq r2_eq i0e_eq r3_eq i1_eq i1t_eq r4_eq i2_eq i2t_eq r5_eq i2e_eq r6_eq i1e_eq r7_eq k1_eq l1_eq r8_eq i3_eq i3t_eq i3e_eq k2_eq r10_eq r11_eq i4_eq i4t_eq r12_eq i4e_eq r9_eq r13_eq ret_eq nil_eq inBlock_eq exit_eq pure_eq
end strap_search_find



namespace slices_Max_int
/-- slices.Maxintint -/
noncomputable def b : Code := (Try.f58.body).getD .skip
theorem hf : prog.funcs[58]? = some Try.f58 := by kernel_rfl
noncomputable def r0 : Code := findReg b 0
noncomputable def r1 : Code := findReg b 1
noncomputable def i0 : Code := findCond b 0
noncomputable def i0t : Code := thenOf i0
noncomputable def i0e : Code := elseOf i0
noncomputable def r2 : Code := findReg b 2
noncomputable def r3 : Code := findReg b 3
noncomputable def r4 : Code := findReg b 4
noncomputable def k0 : Code := findBlk b 0
noncomputable def l0 : Code := loopOf k0
noncomputable def L0 (x0 x3 x4 : AV) (m : Mem) (K : List Item) : Option Res := den prog ann 58 (.code l0 :: .inLoop l0 :: .inBlock 0 :: K) ⟨[(0, x0), (3, x3), (4, x4)], 25, m⟩
noncomputable def r5 : Code := findReg b 5
noncomputable def i1 : Code := findCond b 1
noncomputable def i1t : Code := thenOf i1
noncomputable def i1e : Code := elseOf i1
noncomputable def k1 : Code := findBlk b 1
noncomputable def r7 : Code := findReg b 7
noncomputable def r6 : Code := findReg b 6
noncomputable def r8 : Code := findReg b 8
theorem b_eq (K : List Item) (s : St) : den prog ann 58 (.code b :: K) s = den prog ann 58 (.code r0 :: .code r1 :: .code i0 :: .code r3 :: .code r4 :: .code k0 :: .code r8 :: .code .ret :: K) s := den_flat hf (l := [r0, r1, i0, r3, r4, k0, r8, .ret]) (by kernel_rfl) K s
theorem r0_eq (K : List Item) (s : St) : den prog ann 58 (.code r0 :: K) s = mreg prog ann 58 none [] none [] [
    ⟨some 2, none, .v fun s => some (.int .i64 0)⟩] K s := (den_reg hf _ K s).trans (by kernel_rfl)
theorem r1_eq (K : List Item) (s : St) : den prog ann 58 (.code r1 :: K) s = mreg prog ann 58 none [] none [] [
    ⟨some 5, none, .v fun s => some (s.get 0)⟩,
    ⟨some 6, none, .v fun s => lenSl (s.get 5)⟩,
    ⟨some 7, none, .v fun s => binA prog .lss 3 (s.get 6) (.int .i64 1)⟩] K s := (den_reg hf _ K s).trans (by kernel_rfl)
theorem i0_eq (K : List Item) (s : St) : den prog ann 58 (.code i0 :: K) s = ifV prog ann 58 7 i0t i0e K s (s.get 7) := den_if hf (by kernel_rfl) K s
theorem i0t_eq (K : List Item) (s : St) : den prog ann 58 (.code i0t :: K) s = den prog ann 58 (.code r2 :: K) s := den_flat hf (l := [r2]) (by kernel_rfl) K s
-- not covered: r2, operation 1
theorem i0e_eq (K : List Item) (s : St) : den prog ann 58 (.code i0e :: K) s = den prog ann 58 (K) s := den_flat hf (l := []) (by kernel_rfl) K s
theorem r3_eq (K : List Item) (s : St) : den prog ann 58 (.code r3 :: K) s = mreg prog ann 58 (some [0]) [] none [] [
    ⟨some 9, none, .v fun s => some (s.get 0)⟩,
    ⟨some 10, none, .v fun s => idxSl 1 (s.get 9) (.int .i64 0)⟩,
    ⟨some 11, none, .v fun s => loadF false 1 (s.get 10)⟩,
    ⟨some 3, none, .v fun s => some (s.get 11)⟩] K s := (den_reg hf _ K s).trans (by kernel_rfl)
theorem r4_eq (K : List Item) (s : St) : den prog ann 58 (.code r4 :: K) s = mreg prog ann 58 none [] none [] [
    ⟨some 4, none, .v fun s => some (.int .i64 1)⟩] K s := (den_reg hf _ K s).trans (by kernel_rfl)
theorem k0_eq (K : List Item) (t : List (Nat × AV)) (m : Mem) : den prog ann 58 (.code k0 :: K) ⟨t, 25, m⟩ = L0 (get t 0) (get t 3) (get t 4) m K := den_loop_enter hf (b := l0) (id := 5) (l := [0, 3, 4]) (by kernel_rfl) (by kernel_rfl) (by kernel_rfl) K _
theorem l0_eq (K : List Item) (t : List (Nat × AV)) (m : Mem) : den prog ann 58 (.inLoop l0 :: .inBlock 0 :: K) ⟨t, 25, m⟩ = L0 (get t 0) (get t 3) (get t 4) m K := den_loop_again hf (id := 5) (l := [0, 3, 4]) (by kernel_rfl) (by kernel_rfl) (.inBlock 0 :: K) _
theorem L0_eq (x0 x3 x4 : AV) (m : Mem) (K : List Item) : L0 x0 x3 x4 m K = den prog ann 58 (.code r5 :: .code i1 :: .code k1 :: .code r6 :: .inLoop l0 :: .inBlock 0 :: K) ⟨[(0, x0), (3, x3), (4, x4)], 25, m⟩ := den_flat hf (l := [r5, i1, k1, r6]) (by kernel_rfl) _ _
theorem r5_eq (K : List Item) (s : St) : den prog ann 58 (.code r5 :: K) s = mreg prog ann 58 (some [0, 3, 4]) [] none [] [
    ⟨some 12, none, .v fun s => some (s.get 4)⟩,
    ⟨some 13, none, .v fun s => some (s.get 0)⟩,
    ⟨some 14, none, .v fun s => lenSl (s.get 13)⟩,
    ⟨some 15, none, .v fun s => binA prog .lss 3 (s.get 12) (s.get 14)⟩] K s := (den_reg hf _ K s).trans (by kernel_rfl)
theorem i1_eq (K : List Item) (s : St) : den prog ann 58 (.code i1 :: K) s = ifV prog ann 58 15 i1t i1e K s (s.get 15) := den_if hf (by kernel_rfl) K s
theorem i1t_eq (K : List Item) (s : St) : den prog ann 58 (.code i1t :: K) s = den prog ann 58 (K) s := den_flat hf (l := []) (by kernel_rfl) K s
theorem i1e_eq (K : List Item) (s : St) : den prog ann 58 (.code i1e :: K) s = den prog ann 58 (.code (.exit 0) :: K) s := den_flat hf (l := [(.exit 0)]) (by kernel_rfl) K s
theorem k1_eq (K : List Item) (s : St) : den prog ann 58 (.code k1 :: K) s = den prog ann 58 (.code r7 :: .inBlock 1 :: K) s := den_blk hf (b := blkOf k1) (l := [r7]) (by kernel_rfl) (by kernel_rfl) K s
theorem r7_eq (K : List Item) (s : St) : den prog ann 58 (.code r7 :: K) s = mreg prog ann 58 none [] none [] [
    ⟨some 18, none, .v fun s => some (s.get 3)⟩,
    ⟨some 19, none, .v fun s => some (s.get 0)⟩,
    ⟨some 20, none, .v fun s => some (s.get 4)⟩,
    ⟨some 21, none, .v fun s => idxSl 1 (s.get 19) (s.get 20)⟩,
    ⟨some 22, none, .v fun s => loadF false 1 (s.get 21)⟩,
    ⟨some 23, none, .v fun s => foldA max2A (s.get 18) [(s.get 22)]⟩,
    ⟨some 3, none, .v fun s => some (s.get 23)⟩] K s := (den_reg hf _ K s).trans (by kernel_rfl)
theorem r6_eq (K : List Item) (s : St) : den prog ann 58 (.code r6 :: K) s = mreg prog ann 58 (some [0, 3, 4]) [] none [] [
    ⟨some 16, none, .v fun s => some (s.get 4)⟩,
    ⟨some 17, none, .v fun s => binA prog .add 3 (s.get 16) (.int .i64 1)⟩,
    ⟨some 4, none, .v fun s => some (s.get 17)⟩] K s := (den_reg hf _ K s).trans (by kernel_rfl)
theorem r8_eq (K : List Item) (s : St) : den prog ann 58 (.code r8 :: K) s = mreg prog ann 58 (some [3]) [] none [] [
    ⟨some 24, none, .v fun s => some (s.get 3)⟩,
    ⟨some 2, none, .v fun s => some (s.get 24)⟩] K s := (den_reg hf _ K s).trans (by kernel_rfl)
theorem ret_eq (K : List Item) (s : St) : den prog ann 58 (.code .ret :: K) s = finM true [fun s => some (s.get 2)] s := (den_ret hf K s).trans (by kernel_rfl)
theorem nil_eq (s : St) : den prog ann 58 [] s = finM true [fun s => some (s.get 2)] s := (den_nil hf s).trans (by kernel_rfl)
theorem inBlock_eq (id : Nat) (K : List Item) (s : St) : den prog ann 58 (.inBlock id :: K) s = den prog ann 58 K s := den_inBlock hf id K s
theorem exit_eq (id : Nat) (K : List Item) (s : St) : den prog ann 58 (.code (.exit id) :: K) s = exitV prog ann 58 (exitTo id K) s := den_exitV hf id K s
theorem call_eq (v0 : AV) (m : Mem) (h : closedL [v0] = true) : denC prog ann 58 [v0] m = (den prog ann 58 [.code b] ⟨[(0, v0)], 25, Mem.empty⟩).bind fun r => some (r.1, m) := (denC_pure hf (b := b) (by kernel_rfl) (by kernel_rfl) (by kernel_rfl) h m).trans (by kernel_rfl)
theorem pure_eq : (ann 58).pure = true := by kernel_rfl
attribute [simp] b_eq r0_eq r1_eq i0_eq i0t_eq i0e_eq r3_eq r4_eq k0_eq l0_eq r5_eq i1_eq i1t_eq i1e_eq k1_eq r7_eq r6_eq r8_eq ret_eq nil_eq inBlock_eq exit_eq pure_eq
end slices_Max_int
end Go.Proofs.Ytpghadmpegncgaa

/-
  BODIES OF FUNCTIONS OF THE PROGRAM AS SMALL OPERATIONS (written by gen.py; checked by the kernel against the program). Conditions: none.
-/
namespace Go.Proofs.Ytpghadmpegncgaa
open Go.AM
open Go.Proofs.Try (prog)
set_option maxRecDepth 100000
set_option linter.all false

namespace slices_Clone_int
/-- slices.Cloneintint -/
noncomputable def b : Code := (Try.f64.body).getD .skip
theorem hf : prog.funcs[64]? = some Try.f64 := by kernel_rfl
noncomputable def r0 : Code := findReg b 0
noncomputable def r1 : Code := findReg b 1
noncomputable def i0 : Code := findCond b 0
noncomputable def i0t : Code := thenOf i0
noncomputable def i0e : Code := elseOf i0
noncomputable def r2 : Code := findReg b 2
noncomputable def r3 : Code := findReg b 3
theorem b_eq (K : List Item) (s : St) : den prog ann 64 (.code b :: K) s = den prog ann 64 (.code r0 :: .code r1 :: .code i0 :: .code r3 :: .code .ret :: K) s := den_flat hf (l := [r0, r1, i0, r3, .ret]) (by kernel_rfl) K s
theorem r0_eq (K : List Item) (s : St) : den prog ann 64 (.code r0 :: K) s = mreg prog ann 64 none [] none [] [
    ⟨some 2, none, .v fun s => some (.nils)⟩] K s := (den_reg hf _ K s).trans (by kernel_rfl)
theorem r1_eq (K : List Item) (s : St) : den prog ann 64 (.code r1 :: K) s = mreg prog ann 64 none [] none [] [
    ⟨some 3, none, .v fun s => some (s.get 0)⟩,
    ⟨some 4, none, .v fun s => binA prog .eql 22 (s.get 3) (.nils)⟩] K s := (den_reg hf _ K s).trans (by kernel_rfl)
theorem i0_eq (K : List Item) (s : St) : den prog ann 64 (.code i0 :: K) s = ifV prog ann 64 4 i0t i0e K s (s.get 4) := den_if hf (by kernel_rfl) K s
theorem i0t_eq (K : List Item) (s : St) : den prog ann 64 (.code i0t :: K) s = den prog ann 64 (.code r2 :: .code .ret :: K) s := den_flat hf (l := [r2, .ret]) (by kernel_rfl) K s
theorem r2_eq (K : List Item) (s : St) : den prog ann 64 (.code r2 :: K) s = mreg prog ann 64 none [] none [] [
    ⟨some 2, none, .v fun s => some (.nils)⟩] K s := (den_reg hf _ K s).trans (by kernel_rfl)
theorem i0e_eq (K : List Item) (s : St) : den prog ann 64 (.code i0e :: K) s = den prog ann 64 (K) s := den_flat hf (l := []) (by kernel_rfl) K s
theorem r3_eq (K : List Item) (s : St) : den prog ann 64 (.code r3 :: K) s = mreg prog ann 64 none [] none [] [
    ⟨some 5, none, .w false none fun s => bslM s.m 0 (bslA 1 0 [.int .i64 0] [])⟩,
    ⟨some 6, none, .v fun s => some (s.get 0)⟩,
    ⟨some 7, none, .w false none fun s => appendA 1 8 s.m (s.get 5) (s.get 6)⟩,
    ⟨some 2, none, .v fun s => some (s.get 7)⟩] K s := (den_reg hf _ K s).trans (by kernel_rfl)
theorem ret_eq (K : List Item) (s : St) : den prog ann 64 (.code .ret :: K) s = finM false [fun s => some (s.get 2)] s := (den_ret hf K s).trans (by kernel_rfl)
theorem nil_eq (s : St) : den prog ann 64 [] s = finM false [fun s => some (s.get 2)] s := (den_nil hf s).trans (by kernel_rfl)
theorem inBlock_eq (id : Nat) (K : List Item) (s : St) : den prog ann 64 (.inBlock id :: K) s = den prog ann 64 K s := den_inBlock hf id K s
theorem exit_eq (id : Nat) (K : List Item) (s : St) : den prog ann 64 (.code (.exit id) :: K) s = exitV prog ann 64 (exitTo id K) s := den_exitV hf id K s
theorem call_eq (v0 : AV) (m : Mem) : denC prog ann 64 [v0] m = den prog ann 64 [.code b] ⟨[(0, v0)], 8, m⟩ := (denC_impure hf (b := b) (by kernel_rfl) (by kernel_rfl) (by kernel_rfl) m).trans (by kernel_rfl)
theorem pure_eq : (ann 64).pure = false := by kernel_rfl
attribute [simp] b_eq r0_eq r1_eq i0_eq i0t_eq r2_eq i0e_eq r3_eq ret_eq nil_eq inBlock_eq exit_eq pure_eq
end slices_Clone_int



end Go.Proofs.Ytpghadmpegncgaa

/-
  STRAPS (9): the search for the first list. Conditions: none.
-/
namespace Go.Proofs.Ytpghadmpegncgaa
open Go.AM
open Go.Proofs.Try (prog)
set_option linter.all false
set_option maxRecDepth 100000
set_option maxHeartbeats 4000000

/-! ### The greatest of a list; single lists -/
def maxL (c : List Int) : Int := (c.drop 1).foldl max (nth c 0)
theorem max_loop {w : AV} {c : List Int} (hw0 : IsInts w c) (hcl : c.length ≤ 1001) : ∀ (k i : Nat) (x : Int) (m : Mem), i + k = c.length →
    slices_Max_int.L0 w (.int .i64 x) (.int .i64 i) m [.code slices_Max_int.r8, .code .ret] = some (.int .i64 ((c.drop i).foldl max x), Mem.empty) := by
  intro k
  induction k with
  | zero =>
    intro i x m h1
    have e : i = c.length := by omega
    subst e
    rw [slices_Max_int.L0_eq]
    simp [hw0.len]
    done
  | succ k ih =>
    intro i x m h1
    have hi : i < c.length := by omega
    have hw : IntKind.wrap .i64 ((i : Int) + 1) = (i : Int) + 1 := wrap_id (by omega) (by omega)
    have hst := ih (i + 1) (max x (nth c i)) m (by omega)
    simp only [Int.natCast_add, Int.cast_ofNat_Int] at hst
    rw [drop_nth hi, List.foldl_cons, slices_Max_int.L0_eq]
    simp [hi, hw0.len, hw0.idx hi, ints_head hi, hw, hst]
    done
theorem max_spec {w : AV} {c : List Int} (hw0 : IsInts w c) (hcl : c.length ≤ 1001) (h0 : 0 < c.length) (m : Mem) : denC prog ann 58 [w] m = some (.int .i64 (maxL c), m) := by
  have lp := max_loop hw0 hcl (c.length - 1) 1 (nth c 0) Mem.empty (by omega)
  simp only [Int.cast_ofNat_Int] at lp
  have i0 := hw0.idx h0 .i64
  have i1 := ints_head h0
  simp only [Int.ofNat_zero, Int.cast_ofNat_Int, List.drop_zero] at i0 i1
  rw [slices_Max_int.call_eq _ _ (by simp [hw0.closed])]
  have hn : ¬ (c.length : Int) < 1 := by omega
  simp [hw0.len, hn, i0, i1, lp, maxL]
  done
def gSingle (l : List Int) : Bool := decide (maxL (counts l) ≤ 1)
theorem top_app (l : List Int) (x : Int) : top (l ++ [x]) = x := by unfold top; simp only [List.length_append, List.length_singleton, Nat.add_sub_cancel]; exact nth_last l x
/-! ### The search -/
def firstF (r : List Int → Option (List Int)) (l : List Int) : Nat → Int → Option (List Int)
  | 0, _ => none
  | n + 1, x => match r (l ++ [x]) with
    | some q => some q
    | none => firstF r l n (x + 1)
def findF (g e : List Int → Bool) (last : Int) : Nat → List Int → Option (List Int)
  | 0, l => if g l = true then (if e l = true then some l else none) else none
  | f + 1, l => if g l = true then firstF (findF g e last f) l (last - f - top l).toNat (top l + 1) else none
def ResV (r : Option (List Int)) (w : AV) : Prop := match r with
  | none => w = .nils
  | some l => ∃ ex, w = .fsl ex l.length (ints l)
/-- A function value that answers a question about straps. -/
structure Clo (gV : AV) (g : List Int → Bool) (d : Nat) (last : Int) : Prop where
  closed : gV.closed = true
  one : gV.one = true
  says : ∀ {w : AV} {l : List Int}, IsInts w l → StrapOk l → top l ≤ last → ∀ m, callA (fun g => (ann g).pure) (denC prog ann) 0 m gV [w] = some (.bool (g l), ⟨m.h, m.nx + d⟩)
theorem clone_spec (ex : Bool) (l : List Int) (hl : l.length ≤ 1000000) (h0 : 0 < l.length) (m : Mem) : ∃ m', m'.h m.nx = some (.cells (ints l)) ∧ m'.nx = m.nx + 1 ∧ denC prog ann 64 [.fsl ex l.length (ints l)] m = some (.sl m.nx 1 0 l.length l.length, m') := by
  refine ⟨⟨upd (upd m.h m.nx (some (.cells []))) m.nx (some (.cells (ints l))), m.nx + 1⟩, by simp, rfl, ?_⟩
  rw [slices_Clone_int.call_eq]
  have hn : (l.length == 0) = false := by simp; intro e; simp [e] at h0
  simp [Mem.set, hn, show l.length ≤ 4611686018427387904 by omega, show l.length * 8 ≤ 70368744177664 by omega]
  done
theorem find_spec {gV eV : AV} {g e : List Int → Bool} {dg de : Nat} {size : Nat} {last : Int} (hg : Clo gV g dg last) (he : Clo eV e de last) (hs : size ≤ 40) (h1 : 0 ≤ last ∧ last ≤ 1000) : ∀ (f : Nat) (ex : Bool) (l : List Int), StrapOk l → top l ≤ last → l.length + f = size →
    ∃ w', ResV (findF g e last f l) w' ∧ ∀ m, denC prog ann 43 [.agg [.int .i64 size, .int .i64 last, gV, eV], .fsl ex l.length (ints l)] m = some (w', m) := by
  intro f
  induction f with
  | zero =>
    intro ex l s htop hsz
    have hv : IsInts (.fsl ex l.length (ints l)) l := .inr ⟨ex, rfl⟩
    have hcl : closedL [.agg [.int .i64 size, .int .i64 last, gV, eV], .fsl ex l.length (ints l)] = true := by simp [hg.closed, he.closed]
    have sg := hg.says hv s htop
    have se := he.says hv s htop
    have hl : size = l.length := by omega
    subst hl
    simp only [findF]
    by_cases q : g l = true
    · rw [q] at sg
      rw [if_pos q]
      by_cases q2 : e l = true
      · rw [q2] at se
        rw [if_pos q2]
        refine ⟨_, ⟨ex, rfl⟩, fun m => ?_⟩
        rw [strap_search_find.call_eq _ _ _ hcl]
        simp [sg, se, hg.one, he.one, hg.closed, he.closed]
        done
      · rw [Bool.not_eq_true] at q2
        rw [q2] at se
        rw [q2, if_neg (by decide)]
        refine ⟨_, rfl, fun m => ?_⟩
        rw [strap_search_find.call_eq _ _ _ hcl]
        simp [sg, se, hg.one, he.one, hg.closed, he.closed]
        done
    · rw [if_neg q]
      rw [Bool.not_eq_true] at q
      rw [q] at sg
      refine ⟨_, rfl, fun m => ?_⟩
      rw [strap_search_find.call_eq _ _ _ hcl]
      simp [sg, hg.one, he.one, hg.closed, he.closed]
      done
  | succ f ih =>
    intro ex l s htop hsz
    have hv : IsInts (.fsl ex l.length (ints l)) l := .inr ⟨ex, rfl⟩
    have hcl : closedL [.agg [.int .i64 size, .int .i64 last, gV, eV], .fsl ex l.length (ints l)] = true := by simp [hg.closed, he.closed]
    have sg := hg.says hv s htop
    have hl : ¬ (l.length : Int) = (size : Int) := by omega
    have hpos := s.pos
    have hlast : l.length - 1 < l.length := by omega
    have hwl : IntKind.wrap .i64 ((l.length : Int) - 1) = ((l.length - 1 : Nat) : Int) := by rw [wrap_id (by omega) (by omega)]; omega
    have t0 := s.nonneg hlast
    have t1 := s.top
    have w1 : IntKind.wrap .i64 ((size : Int) - (l.length : Int)) = (f : Int) + 1 := by rw [wrap_id (by omega) (by omega)]; omega
    have w2 : IntKind.wrap .i64 (f : Int) = (f : Int) := wrap_id (by omega) (by omega)
    have w3 : IntKind.wrap .i64 (last - (f : Int)) = last - (f : Int) := wrap_id (by omega) (by omega)
    have w4 : IntKind.wrap .i64 (nth l (l.length - 1) + 1) = nth l (l.length - 1) + 1 := wrap_id (by omega) (by omega)
    have loop : ∀ (n : Nat) (x : Int), n = (last - f - x + 1).toNat → top l < x → x ≤ 1001 → ∃ w', ResV (firstF (findF g e last f) l n x) w' ∧ ∀ m, strap_search_find.L1 (.fsl ex l.length (ints l)) (.fptr [.int .i64 size, .int .i64 last, gV, eV]) (.int .i64 x) m [.code strap_search_find.r13, .code .ret] = some (w', Mem.empty) := by
      intro n
      induction n with
      | zero =>
        intro x hn hx hx2
        refine ⟨.nils, rfl, fun m => ?_⟩
        have hc : ¬ x ≤ last - (f : Int) := by omega
        rw [strap_search_find.L1_eq]
        simp [w1, w2, w3, hc]
        done
      | succ n ihn =>
        intro x hn hx hx2
        have hc : x ≤ last - (f : Int) := by omega
        have hw : IntKind.wrap .i64 (x + 1) = x + 1 := wrap_id (by unfold top at hx; omega) (by omega)
        have s2 : StrapOk (l ++ [x]) := s.more (by omega) hx (by omega)
        obtain ⟨w1', r1, e1⟩ := ih false (l ++ [x]) s2 (by rw [top_app]; omega) (by simp; omega)
        obtain ⟨w2', r2, e2⟩ := ihn (x + 1) (by omega) (by omega) (by omega)
        have hxx : ints l ++ [AV.int .i64 x] = ints (l ++ [x]) := by simp [ints]
        have hll : (l ++ [x]).length = l.length + 1 := by simp
        have htk : (l ++ [x]).take (l.length + 1) = l ++ [x] := List.take_of_length_le (by simp)
        rw [hll] at e1
        simp only [firstF]
        cases hf : findF g e last f (l ++ [x]) with
        | some q =>
          rw [hf] at r1
          obtain ⟨ex', rfl⟩ := r1
          refine ⟨_, ⟨ex', rfl⟩, fun m => ?_⟩
          obtain ⟨m', c1, c2, c3⟩ := clone_spec ex l (by omega) hpos ⟨m.h, m.nx + 8⟩
          rw [strap_search_find.L1_eq]
          simp [w1, w2, w3, hc, c3, c1, hxx, show l.length ≤ 4611686018427387903 by omega, show (l.length + 1) * 8 ≤ 70368744177664 by omega, hg.one, he.one, hg.closed, he.closed, htk, e1]
          done
        | none =>
          rw [hf] at r1
          have r1' : w1' = .nils := r1
          subst r1'
          refine ⟨w2', r2, fun m => ?_⟩
          obtain ⟨m', c1, c2, c3⟩ := clone_spec ex l (by omega) hpos ⟨m.h, m.nx + 8⟩
          rw [strap_search_find.L1_eq]
          simp [w1, w2, w3, hc, c3, c1, hxx, show l.length ≤ 4611686018427387903 by omega, show (l.length + 1) * 8 ≤ 70368744177664 by omega, hg.one, he.one, hg.closed, he.closed, htk, e1, hw, e2]
          done
    by_cases q : g l = true
    · rw [q] at sg
      obtain ⟨w', r, ew⟩ := loop (last - f - top l).toNat (top l + 1) (by omega) (by omega) (by unfold top; omega)
      unfold top at ew
      refine ⟨w', by simp only [findF]; rw [if_pos q]; exact r, fun m => ?_⟩
      rw [strap_search_find.call_eq _ _ _ hcl]
      simp [sg, hg.one, he.one, hg.closed, he.closed, hl, hwl, hv.idx hlast, ints_head hlast, w4, ew]
      done
    · refine ⟨.nils, by simp only [findF]; rw [if_neg q]; rfl, fun m => ?_⟩
      rw [Bool.not_eq_true] at q
      rw [q] at sg
      rw [strap_search_find.call_eq _ _ _ hcl]
      simp [sg, hg.one, he.one, hg.closed, he.closed]
      done
end Go.Proofs.Ytpghadmpegncgaa
