/-
  LISTS OF NUMBERS: what all laws share. Conditions: none.
-/
import Derived.Shelf.Sort.Plain
import Derived.Test.YtofceaeboboflaaDoorK01
import Derived.Test.YtofceaeboboflaaDoorKAmG
import Derived.Test.YtofceaeboboflaaDoorKAmH
import Derived.Test.YtofceaeboboflaaDoorKAmC
import Derived.Test.YtofceaeboboflaaDoorKAmF
set_option linter.all false
namespace Go.AM
set_option linter.all false

/-- The lexicographic order. -/
def lexLt : List Int → List Int → Bool
  | [], [] => false
  | [], _ :: _ => true
  | _ :: _, [] => false
  | a :: x, b :: y => if a = b then lexLt x y else decide (a < b)
theorem lexLt_drop {a b : List Int} {i : Nat} (h1 : i < a.length) (h2 : i < b.length) : lexLt (a.drop i) (b.drop i) = if nth a i = nth b i then lexLt (a.drop (i + 1)) (b.drop (i + 1)) else decide (nth a i < nth b i) := by
  rw [drop_nth h1, drop_nth h2]; simp [lexLt]
theorem lexLt_same : ∀ a b : List Int, (!lexLt a b && !lexLt b a) = decide (a = b)
  | [], [] => by simp [lexLt]
  | [], _ :: _ => by simp [lexLt]
  | _ :: _, [] => by simp [lexLt]
  | a :: x, b :: y => by
    have ih := lexLt_same x y
    by_cases h : a = b
    · subst h; simpa [lexLt] using ih
    · have h' : ¬ b = a := fun e => h e.symm
      simp only [lexLt, h, h', if_false]
      by_cases h1 : a < b
      · simp [h1, h]
      · have : b < a := by omega
        simp [this, h]
theorem lexLt_irr : ∀ a : List Int, lexLt a a = false
  | [] => rfl
  | a :: x => by simp [lexLt, lexLt_irr x]
theorem lex_trans : ∀ {a b c : List Int}, lexLt a b = true → lexLt b c = true → lexLt a c = true
  | [], [], _, h, _ => by simp [lexLt] at h
  | [], _ :: _, [], _, h => by simp [lexLt] at h
  | [], _ :: _, _ :: _, _, _ => rfl
  | _ :: _, [], _, h, _ => by simp [lexLt] at h
  | _ :: _, _ :: _, [], _, h => by simp [lexLt] at h
  | x :: a, y :: b, z :: c, h1, h2 => by
    simp only [lexLt] at h1 h2 ⊢
    by_cases e1 : x = y
    · subst e1
      rw [if_pos rfl] at h1
      by_cases e2 : x = z
      · subst e2
        rw [if_pos rfl] at h2 ⊢
        exact lex_trans h1 h2
      · rw [if_neg e2] at h2 ⊢; exact h2
    · rw [if_neg e1, decide_eq_true_eq] at h1
      by_cases e2 : y = z
      · subst e2
        rw [if_neg e1, decide_eq_true_eq]; exact h1
      · rw [if_neg e2, decide_eq_true_eq] at h2
        rw [if_neg (by omega), decide_eq_true_eq]; omega

theorem updNe {h : Nat → Option AObj} {i j : Nat} {o : Option AObj} (e : j ≠ i) : upd h i o j = h j := by simp [upd, show (j == i) = false from beq_eq_false_iff_ne.2 e]
theorem nth_set (l : List Int) (i j : Nat) (v : Int) : nth (l.set i v) j = if i = j ∧ i < l.length then v else nth l j := by
  simp only [nth, List.getD, List.getElem?_set]
  by_cases h : i = j
  · subst h
    by_cases h2 : i < l.length
    · simp [h2]
    · simp [h2, List.getElem?_eq_none (show l.length ≤ i by omega)]
  · simp [h]
theorem nth_zero' (n i : Nat) : nth (List.replicate n 0) i = 0 := by
  simp only [nth, List.getD, List.getElem?_replicate]; split <;> rfl
theorem ext_nth {a b : List Int} (hl : a.length = b.length) (h : ∀ i, nth a i = nth b i) : a = b := by
  refine List.ext_getElem hl fun i h1 h2 => ?_
  rw [nth_get h1, nth_get h2]; exact h i
/-- One more at a place. -/
def bump (c : List Int) (h : Nat) : List Int := c.set h (nth c h + 1)
theorem bump_len (c : List Int) (h : Nat) : (bump c h).length = c.length := by simp [bump]
def I64 (n : Int) : Prop := -9223372036854775808 ≤ n ∧ n ≤ 9223372036854775807
/-! ### A list that grows in memory -/
/-- The slice: nothing at first, then one object. -/
def outI (oid : Nat) (acc : List Int) : AV := if acc = [] then .nils else .sl oid 1 0 acc.length acc.length
def OutI (m : Mem) (oid : Nat) (acc : List Int) : Prop := acc ≠ [] → m.h oid = some (.cells (ints acc)) ∧ oid < m.nx
def intsV (acc : List Int) : AV := if acc = [] then .nils else .fsl false acc.length (ints acc)
theorem intsV_is (acc : List Int) : IsInts (intsV acc) acc := by
  by_cases e : acc = []
  · exact .inl ⟨by rw [intsV, if_pos e], e⟩
  · exact .inr ⟨false, by rw [intsV, if_neg e]⟩
theorem outI_deep {m : Mem} {oid : Nat} {acc : List Int} (h : OutI m oid acc) (d : Nat) : deep m.h (d + 2) (outI oid acc) = some (intsV acc) := by
  by_cases e : acc = []
  · simp [outI, intsV, e]
  · obtain ⟨a, _⟩ := h e
    rw [outI, intsV, if_neg e, if_neg e]
    exact deep_ints a rfl d
/-- One more. -/
theorem outI_app {m : Mem} {oid : Nat} {acc : List Int} (h : OutI m oid acc) (hl : acc.length < 1000000) (x : Int) (ex : Bool) : ∃ oid' m', appendA 1 8 m (outI oid acc) (.fsl ex 1 [.int .i64 x]) = some (outI oid' (acc ++ [x]), m') ∧ OutI m' oid' (acc ++ [x]) ∧ m.nx ≤ m'.nx ∧ (∀ id, id < m.nx → id ≠ oid → m'.h id = m.h id) ∧ (acc = [] → ∀ id, id < m.nx → m'.h id = m.h id) := by
  by_cases e : acc = []
  · subst e
    refine ⟨m.nx, ⟨upd m.h m.nx (some (.cells [.int .i64 x])), m.nx + 1⟩, by simp [outI], fun _ => ⟨by simp, by show m.nx < m.nx + 1; omega⟩, by simp, fun id hid _ => updNe (by omega), fun _ id hid => updNe (by omega)⟩
  · obtain ⟨a, b⟩ := h e
    have hx : ints acc ++ [AV.int .i64 x] = ints (acc ++ [x]) := by simp [ints]
    refine ⟨oid, ⟨upd m.h oid (some (.cells (ints (acc ++ [x])))), m.nx⟩, ?_, fun _ => ⟨by simp, b⟩, Nat.le_refl _, fun id _ hne => updNe hne, fun h => absurd h e⟩
    have e2 : outI oid (acc ++ [x]) = .sl oid 1 0 (acc.length + 1) (acc.length + 1) := by simp [outI]
    rw [e2, outI, if_neg e]
    simp [a, hx, Mem.set, show acc.length ≤ 4611686018427387903 by omega, show (acc.length + 1) * 8 ≤ 70368744177664 by omega]
theorem outI_appT {m : Mem} {oid : Nat} {acc : List Int} (h : OutI m oid acc) (hl : acc.length < 1000000) (x : Int) : ∃ oid' m', appT 1 8 m (outI oid acc) (some (1, [.int .i64 x])) = some (outI oid' (acc ++ [x]), m') ∧ OutI m' oid' (acc ++ [x]) ∧ m.nx ≤ m'.nx ∧ (∀ id, id < m.nx → id ≠ oid → m'.h id = m.h id) ∧ (acc = [] → ∀ id, id < m.nx → m'.h id = m.h id) := by
  obtain ⟨o, m', a, b⟩ := outI_app h hl x false
  exact ⟨o, m', by simpa using a, b⟩
end Go.AM

/-
  THE LIBRARY'S SORT OF WHOLE NUMBERS, AS A THEOREM OF THIS PROGRAM (the shelf's contract). Conditions: none.
-/
namespace Go.Proofs.YtofceaeboboflaaDoor
open Go.Shelf Go.Proofs Go.AM
open Go.Proofs.Tryd (prog)
set_option maxRecDepth 100000
def sortRen : Go.Shelf.Ren := ⟨fun | 189 => 26 | 125 => 37 | 257 => 36 | 128 => 51 | 129 => 52 | 294 => 42 | 295 => 43 | 296 => 44 | 297 => 45 | 298 => 46 | 299 => 47 | 216 => 48 | 300 => 49 | 301 => 50 | 328 => 53 | 329 => 54 | 330 => 55 | 331 => 56 | 332 => 57 | 215 => 58 | 343 => 59 | n => n, fun | 28 => 24 | 3 => 3 | 46 => 61 | 0 => 0 | 51 => 22 | 53 => 74 | 4 => 4 | 183 => 65 | 182 => 64 | 131 => 70 | 5 => 5 | 9 => 9 | 218 => 75 | 222 => 79 | 228 => 81 | 229 => 82 | n => n, fun n => n⟩
theorem sortLays : Lays.n189 Tryd.prog sortRen where
  mixed := by kernel_rfl
  f125 := Tryd.func37.trans (congrArg some (by kernel_rfl))
  f128 := Tryd.func51.trans (congrArg some (by kernel_rfl))
  f129 := Tryd.func52.trans (congrArg some (by kernel_rfl))
  f189 := Tryd.func26.trans (congrArg some (by kernel_rfl))
  f215 := Tryd.func58.trans (congrArg some (by kernel_rfl))
  f216 := Tryd.func48.trans (congrArg some (by kernel_rfl))
  f257 := Tryd.func36.trans (congrArg some (by kernel_rfl))
  f294 := Tryd.func42.trans (congrArg some (by kernel_rfl))
  f295 := Tryd.func43.trans (congrArg some (by kernel_rfl))
  f296 := Tryd.func44.trans (congrArg some (by kernel_rfl))
  f297 := Tryd.func45.trans (congrArg some (by kernel_rfl))
  f298 := Tryd.func46.trans (congrArg some (by kernel_rfl))
  f299 := Tryd.func47.trans (congrArg some (by kernel_rfl))
  f300 := Tryd.func49.trans (congrArg some (by kernel_rfl))
  f301 := Tryd.func50.trans (congrArg some (by kernel_rfl))
  f328 := Tryd.func53.trans (congrArg some (by kernel_rfl))
  f329 := Tryd.func54.trans (congrArg some (by kernel_rfl))
  f330 := Tryd.func55.trans (congrArg some (by kernel_rfl))
  f331 := Tryd.func56.trans (congrArg some (by kernel_rfl))
  f332 := Tryd.func57.trans (congrArg some (by kernel_rfl))
  f343 := Tryd.func59.trans (congrArg some (by kernel_rfl))
  t0 := Tryd.underlying0
  a0 := Tryd.isAgg0
  z0 := Tryd.sizeOf0
  v0 := Tryd.zeroValue0
  t3 := Tryd.underlying3
  a3 := Tryd.isAgg3
  z3 := Tryd.sizeOf3
  v3 := Tryd.zeroValue3
  t4 := Tryd.underlying4
  a4 := Tryd.isAgg4
  z4 := Tryd.sizeOf4
  v4 := Tryd.zeroValue4
  t5 := Tryd.underlying5
  a5 := Tryd.isAgg5
  z5 := Tryd.sizeOf5
  v5 := Tryd.zeroValue5
  t9 := Tryd.underlying9
  a9 := Tryd.isAgg9
  z9 := Tryd.sizeOf9
  v9 := Tryd.zeroValue9
  t28 := Tryd.underlying24
  a28 := Tryd.isAgg24
  z28 := Tryd.sizeOf24
  v28 := Tryd.zeroValue24
  t46 := Tryd.underlying61
  a46 := Tryd.isAgg61
  z46 := Tryd.sizeOf61
  v46 := Tryd.zeroValue61
  t51 := Tryd.underlying22
  a51 := Tryd.isAgg22
  z51 := Tryd.sizeOf22
  v51 := Tryd.zeroValue22
  t53 := Tryd.underlying74
  a53 := Tryd.isAgg74
  z53 := Tryd.sizeOf74
  v53 := Tryd.zeroValue74
  t131 := Tryd.underlying70
  a131 := Tryd.isAgg70
  z131 := Tryd.sizeOf70
  v131 := Tryd.zeroValue70
  t182 := Tryd.underlying64
  a182 := Tryd.isAgg64
  z182 := Tryd.sizeOf64
  v182 := Tryd.zeroValue64
  t183 := Tryd.underlying65
  a183 := Tryd.isAgg65
  z183 := Tryd.sizeOf65
  v183 := Tryd.zeroValue65
  t218 := Tryd.underlying75
  a218 := Tryd.isAgg75
  z218 := Tryd.sizeOf75
  v218 := Tryd.zeroValue75
  t222 := Tryd.underlying79
  a222 := Tryd.isAgg79
  z222 := Tryd.sizeOf79
  v222 := Tryd.zeroValue79
  t228 := Tryd.underlying81
  a228 := Tryd.isAgg81
  z228 := Tryd.sizeOf81
  v228 := Tryd.zeroValue81
  t229 := Tryd.underlying82
  a229 := Tryd.isAgg82
  z229 := Tryd.sizeOf82
  v229 := Tryd.zeroValue82
theorem sortS : ∀ g, (ann g).srt = true → SortCalls prog g := fun g h => by
  have := srt_only (l := annL) (d := ⟨false, [], [], [], []⟩) rfl (fun g => g == 26) (by kernel_rfl) g h
  have e : g = 26 := by simpa using this
  subst e
  exact fun blk off cap zs w hH hblk hsz => Any.slices_Sort_int sortLays blk off cap zs w hH hblk hsz
theorem sort_pure : (ann 26).pure = false := by kernel_rfl
theorem sort_srt : (ann 26).srt = true := by kernel_rfl
theorem f26_at : prog.funcs[26]? = some Tryd.f26 := by kernel_rfl
theorem f26_some : Tryd.f26.body.isSome = true := by kernel_rfl
theorem intsO_ints : ∀ l : List Int, intsO (ints l) = some l
  | [] => rfl
  | a :: l => by show (intsO (ints l)).map (a :: ·) = _; rw [intsO_ints l]; rfl
/-- The sort of a whole object. -/
theorem sort_spec (id : Nat) (l : List Int) (h0 : 0 < l.length) (h1 : l.length ≤ 1000000) (m : Mem) (hm : m.h id = some (.cells (ints l))) :
    denC prog ann 26 [.sl id 1 0 l.length l.length] m = some (.tup [], m.set id (some (.cells (ints (sortI l))))) := by
  obtain ⟨b, hb⟩ := Option.isSome_iff_exists.1 f26_some
  rw [denC_sort f26_at hb sort_srt]
  have e : (ints l).length = l.length := by simp
  simp [sortA, hm, sortO, e, intsO_ints, h0, h1]
  rfl
end Go.Proofs.YtofceaeboboflaaDoor

/-
  STRAPS (1): the order of lists, the same list; what a strap is. Conditions: none.
-/
namespace Go.Proofs.YtofceaeboboflaaDoor
open Go.AM
open Go.Proofs.Tryd (prog)
set_option linter.all false
set_option maxRecDepth 100000
set_option maxHeartbeats 4000000

theorem before_loop {va vb : AV} {a b : List Int} (ha : IsInts va a) (hb : IsInts vb b) (hla : a.length < 4611686018427387904) : ∀ (n i : Nat) (m : Mem), a.length - i ≤ n → i ≤ a.length → i ≤ b.length →
    r01_Before.L0 va vb (.int .i64 i) m [.code r01_Before.r6, .code .ret] = some (.bool (lexLt (a.drop i) (b.drop i)), Mem.empty) := by
  intro n
  induction n with
  | zero =>
    intro i m hn hi hi2
    have e : i = a.length := by omega
    subst e
    rw [r01_Before.L0_eq]
    simp [ha.len, hb.len]
    rcases Nat.lt_or_ge a.length b.length with h | h
    · simp [h, drop_nth h, lexLt]
    · have e2 : a.length = b.length := by omega
      simp [e2, lexLt]
  | succ n ih =>
    intro i m hn hi hi2
    rw [r01_Before.L0_eq]
    simp [ha.len, hb.len]
    by_cases h1 : i < a.length
    · by_cases h2 : i < b.length
      · simp [ha.len, hb.len, h1, h2, ha.idx, hb.idx, ints_head]
        by_cases h3 : nth a i = nth b i
        · simp [h3]
          rw [wrap_id (by omega) (by omega)]
          have := ih (i + 1) ⟨m.h, m.nx + 9⟩ (by omega) (by omega) (by omega)
          simp at this
          rw [this, lexLt_drop h1 h2]
          simp [h3]
        · simp [h3, ha.idx, hb.idx, h1, h2, ints_head]
          rw [lexLt_drop h1 h2]
          simp [h3]
      · have e : i = b.length := by omega
        subst e
        simp [ha.len, hb.len, h1]
        have h4 : ¬ a.length < b.length := by omega
        simp [h4, drop_nth h1, lexLt]
    · have e : i = a.length := by omega
      subst e
      simp [ha.len, hb.len]
      rcases Nat.lt_or_ge a.length b.length with h | h
      · simp [h, drop_nth h, lexLt]
      · have e2 : a.length = b.length := by omega
        simp [e2, lexLt]

theorem before_spec {va vb : AV} {a b : List Int} (ha : IsInts va a) (hb : IsInts vb b) (hla : a.length < 4611686018427387904) (m : Mem) :
    denC prog ann 24 [va, vb] m = some (.bool (lexLt a b), m) := by
  rw [r01_Before.call_eq _ _ _ (by simp [ha.closed, hb.closed])]
  have := before_loop ha hb hla _ 0 Mem.empty (Nat.le_refl _) (by omega) (by omega)
  simp at this
  simp [this]


theorem same_spec {va vb : AV} {a b : List Int} (ha : IsInts va a) (hb : IsInts vb b) (hla : a.length < 4611686018427387904) (hlb : b.length < 4611686018427387904) (m : Mem) :
    denC prog ann 11 [va, vb] m = some (.bool (decide (a = b)), m) := by
  rw [r01_Same.call_eq _ _ _ (by simp [ha.closed, hb.closed])]
  simp [ha.closed, hb.closed, before_spec ha hb hla, before_spec hb ha hlb]
  have h := lexLt_same a b
  cases h1 : lexLt a b <;> cases h2 : lexLt b a <;> simp [h1, h2] at h <;> (try subst h) <;> simp [ha.closed, hb.closed, before_spec hb ha hlb, h1, h2, *]

/-! ### What a strap is -/
def ascB (l : List Int) (k i : Nat) : Bool := (List.range' i k).all fun i => decide (nth l (i - 1) < nth l i)
/-- A strap: from 0, rising, no more than 1000 long. -/
structure StrapOk (l : List Int) : Prop where
  pos : 0 < l.length
  few : l.length ≤ 40
  zero : nth l 0 = 0
  asc : ∀ i, i + 1 < l.length → nth l i < nth l (i + 1)
  top : nth l (l.length - 1) ≤ 1000
theorem StrapOk.lt {l : List Int} (s : StrapOk l) {i : Nat} : ∀ {j : Nat}, i < j → j < l.length → nth l i < nth l j
  | j + 1, h, hj => by
    rcases Nat.eq_or_lt_of_le (Nat.le_of_lt_succ h) with e | e
    · subst e; exact s.asc i hj
    · exact Int.lt_trans (s.lt e (by omega)) (s.asc j hj)
theorem StrapOk.le {l : List Int} (s : StrapOk l) {i j : Nat} (h : i ≤ j) (hj : j < l.length) : nth l i ≤ nth l j := by
  rcases Nat.eq_or_lt_of_le h with e | e
  · subst e; exact Int.le_refl _
  · exact Int.le_of_lt (s.lt e hj)
theorem StrapOk.nonneg {l : List Int} (s : StrapOk l) {i : Nat} (hi : i < l.length) : 0 ≤ nth l i := by
  have := s.le (Nat.zero_le i) hi
  rw [s.zero] at this; exact this
theorem StrapOk.most {l : List Int} (s : StrapOk l) {i : Nat} (hi : i < l.length) : nth l i ≤ 1000 := by
  have := s.le (show i ≤ l.length - 1 by omega) (by omega)
  have := s.top
  omega
/-- Why a list is no strap. -/
inductive StrapErr (l : List Int) : Int → Prop where
  | long (h : 40 < l.length) : StrapErr l 3
  | form (h : l.length ≤ 40) (h2 : ¬ StrapOk l) : StrapErr l 2
  | ok (h : StrapOk l) : StrapErr l 0
theorem StrapErr.uniq {l : List Int} {a b : Int} (h : StrapErr l a) (k : StrapErr l b) : a = b := by
  cases h with
  | long h => cases k with
    | long _ => rfl
    | form h2 _ => omega
    | ok s => have := s.few; omega
  | form h h2 => cases k with
    | long _ => omega
    | form _ _ => rfl
    | ok s => exact absurd s h2
  | ok s => cases k with
    | long _ => have := s.few; omega
    | form _ h => exact absurd s h
    | ok _ => rfl

end Go.Proofs.YtofceaeboboflaaDoor

/-
  STRAPS (2): the specification's test; how often each distance comes. Conditions: none.
-/
namespace Go.Proofs.YtofceaeboboflaaDoor
open Go.AM
open Go.Proofs.Tryd (prog)
set_option linter.all false
set_option maxRecDepth 100000
set_option maxHeartbeats 4000000

def okAt (l : List Int) (j : Nat) : Bool := if j = 0 then decide (nth l 0 = 0) else decide (nth l (j - 1) < nth l j) && decide (nth l j ≤ 1000)
/-! ### How often each distance comes -/
def cntF (l : List Int) (x : Int) (k j : Nat) (c : List Int) : List Int := (List.range' j k).foldl (fun c q => bump c (x - nth l q).toNat) c
def cntO (l : List Int) (k i : Nat) (c : List Int) : List Int := (List.range' i k).foldl (fun c i => cntF l (nth l i) i 0 c) c
theorem cntF_succ (l : List Int) (x : Int) (k j : Nat) (c : List Int) : cntF l x (k + 1) j c = cntF l x k (j + 1) (bump c (x - nth l j).toNat) := by simp [cntF, List.range'_succ]
/-- The counts are small. -/
def Small (c : List Int) (B : Int) : Prop := ∀ g, 0 ≤ nth c g ∧ nth c g ≤ B
theorem Small.bump {c : List Int} {B : Int} (h : Small c B) (hB : 0 ≤ B) (q : Nat) : Small (bump c q) (B + 1) := by
  intro g
  have := h g
  have h2 := h q
  rw [Go.AM.bump, nth_set]
  split <;> omega
theorem Small.cntF {l : List Int} {x : Int} : ∀ {k j : Nat} {c : List Int} {B : Int}, Small c B → 0 ≤ B → Small (cntF l x k j c) (B + k)
  | 0, _, _, _, h, _ => by simpa [Go.Proofs.YtofceaeboboflaaDoor.cntF] using h
  | k + 1, j, c, B, h, hB => by
    rw [cntF_succ]
    have := (h.bump hB (x - nth l j).toNat).cntF (l := l) (x := x) (k := k) (j := j + 1) (by omega)
    rwa [show B + 1 + (k : Int) = B + ((k + 1 : Nat) : Int) by omega] at this

/-- What a strap's counting keeps. -/
def top (l : List Int) : Int := nth l (l.length - 1)
def counts (l : List Int) : List Int := cntO l l.length 0 (List.replicate (top l + 1).toNat 0)
end Go.Proofs.YtofceaeboboflaaDoor

/-
  STRAPS (3): the distances that a strap lacks. Conditions: none.
-/
namespace Go.Proofs.YtofceaeboboflaaDoor
open Go.AM
open Go.Proofs.Tryd (prog)
set_option linter.all false
set_option maxRecDepth 100000
set_option maxHeartbeats 4000000

def missL (c : List Int) (k i : Nat) : List Int := ((List.range' i k).filter fun d => decide (0 < d) && decide (nth c d = 0)).map fun d : Nat => (d : Int)
def misses (l : List Int) : List Int := missL (counts l) (counts l).length 0
end Go.Proofs.YtofceaeboboflaaDoor

/-
  STRAPS (4): the first distance that comes twice. Conditions: none.
-/
namespace Go.Proofs.YtofceaeboboflaaDoor
open Go.AM
open Go.Proofs.Tryd (prog)
set_option linter.all false
set_option maxRecDepth 100000
set_option maxHeartbeats 4000000

def fstL (p : Nat → Bool) (k i : Nat) : Int := match (List.range' i k).find? p with | some d => (d : Int) | none => -1
def moreP (c : List Int) (d : Nat) : Bool := decide (1 < nth c d)
def twStep (l : List Int) (d : Nat) (acc : List Int) (a : Int) : List Int := if acc.length < 4 ∧ a + (d : Int) ∈ l then acc ++ [a, a + (d : Int)] else acc
/-- What Twice hands back. -/
inductive TwRes (l : List Int) : AV → Int → Int → Prop where
  | bad {e : Int} (h : e ≠ 0) : TwRes l .nils e e
  | none (s : StrapOk l) (h : fstL (moreP (counts l)) (counts l).length 0 < 0) : TwRes l .nils 0 5
  | ok {w : AV} {d : Nat} (s : StrapOk l) (h : fstL (moreP (counts l)) (counts l).length 0 = d) (i : IsInts w (l.foldl (twStep l d) [])) : TwRes l w 0 0
end Go.Proofs.YtofceaeboboflaaDoor

/-
  WHAT AN INPUT'S VALUE IS; equality of lists with nothing, and of truth values. Conditions: none.
-/
namespace Go.Proofs.YtofceaeboboflaaDoor
open Go.AM
open Go.Proofs.Tryd (prog)
set_option linter.all false
set_option maxRecDepth 100000
theorem u3 : prog.underlying 3 = some (.int .i64) := by kernel_rfl
theorem u4 : prog.underlying 4 = some .bool := by kernel_rfl
theorem u22 : prog.underlying 24 = some (.slice 3) := by kernel_rfl
@[simp] theorem eql_nils : binA prog .eql 24 .nils .nils = some (.bool true) := by simp [binA, eqT, eqA, u22]
@[simp] theorem neq_nils : binA prog .neq 24 .nils .nils = some (.bool false) := by simp [binA, eqT, eqA, u22]
@[simp] theorem eql_fsl (ex : Bool) (n : Nat) (cs : List AV) : binA prog .eql 24 (.fsl ex n cs) .nils = some (.bool false) := by simp [binA, eqT, eqA, u22]
@[simp] theorem neq_fsl (ex : Bool) (n : Nat) (cs : List AV) : binA prog .neq 24 (.fsl ex n cs) .nils = some (.bool true) := by simp [binA, eqT, eqA, u22]
@[simp] theorem eql_bool (a b : Bool) : binA prog .eql 4 (.bool a) (.bool b) = some (.bool (a == b)) := by simp [binA, eqT, eqA, u4]

/-! ### Bytes -/
theorem u5 : prog.underlying 5 = some (.int .u8) := by kernel_rfl
def byteC (n : Int) : List AV := [.int .u8 n]
theorem dat5 {d : Nat} {cs : List AV} (h : Dat prog (d + 1) 5 cs) : ∃ n, cs = byteC n ∧ 0 ≤ n ∧ n ≤ 255 := by
  simp only [Dat, u5] at h
  obtain ⟨n, rfl, hw⟩ := h
  refine ⟨n, rfl, ?_⟩
  simp only [Lit.wf, Bool.and_eq_true, decide_eq_true_eq] at hw
  have e1 : IntKind.min .u8 = 0 := by decide
  have e2 : IntKind.max .u8 = 255 := by decide
  rw [e1, e2] at hw
  exact hw
end Go.Proofs.YtofceaeboboflaaDoor

/-
  STRAPS (5): the specification's four loops. Conditions: none.
-/
namespace Go.Proofs.YtofceaeboboflaaDoor
open Go.AM
open Go.Proofs.Tryd (prog)
set_option linter.all false
set_option maxRecDepth 100000
set_option maxHeartbeats 8000000

/-- The best four so far: none, or four. -/
def bestV (b : List Int) : AV := if b = [] then .nils else .fsl true b.length (ints b)
def twC (b q : List Int) : Bool := decide (b = []) || (decide (nth q 1 - nth q 0 < nth b 1 - nth b 0) || (decide (nth q 1 - nth q 0 = nth b 1 - nth b 0) && lexLt [nth q 0, nth q 2] [nth b 0, nth b 2]))
def twQ (l : List Int) (i j m n : Nat) : List Int := [nth l i, nth l j, nth l m, nth l n]
def tw7 (l : List Int) (i j m n : Nat) (b : List Int) : List Int := if nth l j - nth l i = nth l n - nth l m then (if twC b (twQ l i j m n) = true then twQ l i j m n else b) else b
def tw6 (l : List Int) (i j m k n : Nat) (b : List Int) : List Int := (List.range' n k).foldl (fun b n => tw7 l i j m n b) b
def tw4 (l : List Int) (i j k m : Nat) (b : List Int) : List Int := (List.range' m k).foldl (fun b m => tw6 l i j m (l.length - (m + 1)) (m + 1) b) b
def tw2 (l : List Int) (i k j : Nat) (b : List Int) : List Int := (List.range' j k).foldl (fun b j => tw4 l i j (l.length - (i + 1)) (i + 1) b) b
def tw0 (l : List Int) (k i : Nat) (b : List Int) : List Int := (List.range' i k).foldl (fun b i => tw2 l i (l.length - (i + 1)) (i + 1) b) b
theorem tw6_succ (l : List Int) (i j m k n : Nat) (b : List Int) : tw6 l i j m (k + 1) n b = tw6 l i j m k (n + 1) (tw7 l i j m n b) := by simp [tw6, List.range'_succ]
theorem tw4_succ (l : List Int) (i j k m : Nat) (b : List Int) : tw4 l i j (k + 1) m b = tw4 l i j k (m + 1) (tw6 l i j m (l.length - (m + 1)) (m + 1) b) := by simp [tw4, List.range'_succ]
theorem tw2_succ (l : List Int) (i k j : Nat) (b : List Int) : tw2 l i (k + 1) j b = tw2 l i k (j + 1) (tw4 l i j (l.length - (i + 1)) (i + 1) b) := by simp [tw2, List.range'_succ]
theorem tw0_succ (l : List Int) (k i : Nat) (b : List Int) : tw0 l (k + 1) i b = tw0 l k (i + 1) (tw2 l i (l.length - (i + 1)) (i + 1) b) := by simp [tw0, List.range'_succ]
/-- The best is none, or four holes. -/
def Fit (b : List Int) : Prop := b = [] ∨ ∃ p q r t : Int, b = [p, q, r, t] ∧ (0 ≤ p ∧ p ≤ 1000) ∧ (0 ≤ q ∧ q ≤ 1000) ∧ 0 ≤ r ∧ r ≤ 1000
theorem Fit.step {l : List Int} (s : StrapOk l) {b : List Int} (h : Fit b) {i j m n : Nat} (hi : i < l.length) (hj : j < l.length) (hm : m < l.length) : Fit (tw7 l i j m n b) := by
  unfold tw7
  split
  · split
    · exact .inr ⟨_, _, _, _, rfl, ⟨s.nonneg hi, s.most hi⟩, ⟨s.nonneg hj, s.most hj⟩, s.nonneg hm, s.most hm⟩
    · exact h
  · exact h
theorem Fit.six {l : List Int} (s : StrapOk l) {i j m : Nat} (hi : i < l.length) (hj : j < l.length) (hm : m < l.length) : ∀ {k n : Nat} {b : List Int}, Fit b → Fit (tw6 l i j m k n b)
  | 0, _, _, h => h
  | k + 1, n, b, h => by rw [tw6_succ]; exact (h.step s hi hj hm).six s hi hj hm
theorem Fit.four {l : List Int} (s : StrapOk l) {i j : Nat} (hi : i < l.length) (hj : j < l.length) : ∀ {k m : Nat} {b : List Int}, m + k ≤ l.length → Fit b → Fit (tw4 l i j k m b)
  | 0, _, _, _, h => h
  | k + 1, m, b, hk, h => by rw [tw4_succ]; exact (h.six s hi hj (by omega)).four s hi hj (by omega)
theorem Fit.two {l : List Int} (s : StrapOk l) {i : Nat} (hi : i < l.length) : ∀ {k j : Nat} {b : List Int}, j + k ≤ l.length → Fit b → Fit (tw2 l i k j b)
  | 0, _, _, _, h => h
  | k + 1, j, b, hk, h => by rw [tw2_succ]; exact (h.four s hi (by omega) (by omega)).two s hi (by omega)

end Go.Proofs.YtofceaeboboflaaDoor

/-
  STRAPS (6): how often each distance comes, in plain terms. Conditions: none.
-/
namespace Go.Proofs.YtofceaeboboflaaDoor
open Go.AM
set_option linter.all false
set_option maxRecDepth 10000
set_option maxHeartbeats 2000000

def hit (l : List Int) (g i : Nat) : Bool := (List.range' 0 i).any fun q => decide (nth l q = nth l i - g)
def D (l : List Int) (g : Nat) : Nat := l.countP fun a => decide (a - (g : Int) ∈ l)
def U (l : List Int) (g : Nat) : Nat := l.countP fun a => decide (a + (g : Int) ∈ l)
theorem lt_nodup {l : List Int} (h : l.Pairwise (· < ·)) : l.Nodup := h.imp fun h => by omega
end Go.Proofs.YtofceaeboboflaaDoor

/-
  STRAPS (7): the first four holes with one distance are those that the four loops find. Conditions: none.
-/
namespace Go.Proofs.YtofceaeboboflaaDoor
open Go.AM
set_option linter.all false
set_option maxRecDepth 10000
set_option maxHeartbeats 2000000

def key (q : List Int) : List Int := [nth q 1 - nth q 0, nth q 0, nth q 2]
def Val (l : List Int) (i j m n : Nat) : Prop := nth l j - nth l i = nth l n - nth l m
theorem twC_key (b q : List Int) : twC b q = (decide (b = []) || lexLt (key q) (key b)) := by
  simp only [twC, key, lexLt]
  by_cases h : nth q 1 - nth q 0 = nth b 1 - nth b 0
  · simp [h]
  · simp [h]
/-- The best of what was seen. -/
def BestOk (l : List Int) (S : Nat → Nat → Nat → Nat → Prop) (b : List Int) : Prop :=
  (b = [] ∨ ∃ i j m n, S i j m n ∧ Val l i j m n ∧ b = twQ l i j m n) ∧ ∀ i j m n, S i j m n → Val l i j m n → b ≠ [] ∧ lexLt (key (twQ l i j m n)) (key b) = false
theorem BestOk.congr {l : List Int} {S S' : Nat → Nat → Nat → Nat → Prop} {b : List Int} (h : BestOk l S b) (e : ∀ i j m n, S i j m n ↔ S' i j m n) : BestOk l S' b := by
  have : S = S' := by funext i j m n; exact propext (e i j m n)
  rwa [← this]
theorem BestOk.step {l : List Int} {S : Nat → Nat → Nat → Nat → Prop} {b : List Int} (h : BestOk l S b) (i j m n : Nat) : BestOk l (fun i' j' m' n' => S i' j' m' n' ∨ (i' = i ∧ j' = j ∧ m' = m ∧ n' = n)) (tw7 l i j m n b) := by
  unfold tw7
  by_cases v : nth l j - nth l i = nth l n - nth l m
  · rw [if_pos v, twC_key]
    cases t : (decide (b = []) || lexLt (key (twQ l i j m n)) (key b)) with
    | true =>
      rw [if_pos rfl]
      refine ⟨.inr ⟨i, j, m, n, .inr ⟨rfl, rfl, rfl, rfl⟩, v, rfl⟩, ?_⟩
      rintro i' j' m' n' (hs | ⟨rfl, rfl, rfl, rfl⟩) v'
      · refine ⟨by simp [twQ], ?_⟩
        obtain ⟨h1, h2⟩ := h.2 i' j' m' n' hs v'
        rw [decide_eq_false h1, Bool.false_or] at t
        cases q : lexLt (key (twQ l i' j' m' n')) (key (twQ l i j m n)) with
        | false => rfl
        | true => rw [lex_trans q t] at h2; cases h2
      · exact ⟨by simp [twQ], lexLt_irr _⟩
    | false =>
      rw [if_neg (by decide)]
      simp only [Bool.or_eq_false_iff, decide_eq_false_iff_not] at t
      refine ⟨h.1.imp id (fun ⟨i', j', m', n', a, b⟩ => ⟨i', j', m', n', .inl a, b⟩), ?_⟩
      rintro i' j' m' n' (hs | ⟨rfl, rfl, rfl, rfl⟩) v'
      · exact h.2 i' j' m' n' hs v'
      · exact t
  · rw [if_neg v]
    refine ⟨h.1.imp id (fun ⟨i', j', m', n', a, b⟩ => ⟨i', j', m', n', .inl a, b⟩), ?_⟩
    rintro i' j' m' n' (hs | ⟨rfl, rfl, rfl, rfl⟩) v'
    · exact h.2 i' j' m' n' hs v'
    · exact absurd v' v
theorem BestOk.six {l : List Int} (i j m : Nat) : ∀ (k n : Nat) {S : Nat → Nat → Nat → Nat → Prop} {b : List Int}, BestOk l S b → BestOk l (fun i' j' m' n' => S i' j' m' n' ∨ (i' = i ∧ j' = j ∧ m' = m ∧ n ≤ n' ∧ n' < n + k)) (tw6 l i j m k n b)
  | 0, n, S, b, h => h.congr fun i' j' m' n' => ⟨.inl, fun h => h.elim id fun h => by omega⟩
  | k + 1, n, S, b, h => by
    rw [tw6_succ]
    refine ((h.step i j m n).six i j m k (n + 1)).congr fun i' j' m' n' => ⟨?_, ?_⟩
    · rintro ((h | h) | h)
      · exact .inl h
      · exact .inr (by omega)
      · exact .inr (by omega)
    · rintro (h | h)
      · exact .inl (.inl h)
      · by_cases e : n' = n
        · exact .inl (.inr (by omega))
        · exact .inr (by omega)
theorem BestOk.four {l : List Int} (i j : Nat) : ∀ (k m : Nat) {S : Nat → Nat → Nat → Nat → Prop} {b : List Int}, m + k ≤ l.length → BestOk l S b → BestOk l (fun i' j' m' n' => S i' j' m' n' ∨ (i' = i ∧ j' = j ∧ (m ≤ m' ∧ m' < m + k) ∧ m' < n' ∧ n' < l.length)) (tw4 l i j k m b)
  | 0, m, S, b, _, h => h.congr fun i' j' m' n' => ⟨.inl, fun h => h.elim id fun h => by omega⟩
  | k + 1, m, S, b, hk, h => by
    rw [tw4_succ]
    refine (BestOk.four i j k (m + 1) (by omega) (h.six i j m (l.length - (m + 1)) (m + 1))).congr fun i' j' m' n' => ⟨?_, ?_⟩
    · rintro ((h | h) | h)
      · exact .inl h
      · exact .inr (by omega)
      · exact .inr (by omega)
    · rintro (h | h)
      · exact .inl (.inl h)
      · by_cases e : m' = m
        · exact .inl (.inr (by omega))
        · exact .inr (by omega)
theorem BestOk.two {l : List Int} (i : Nat) (hi : i < l.length) : ∀ (k j : Nat) {S : Nat → Nat → Nat → Nat → Prop} {b : List Int}, j + k ≤ l.length → BestOk l S b → BestOk l (fun i' j' m' n' => S i' j' m' n' ∨ (i' = i ∧ (j ≤ j' ∧ j' < j + k) ∧ i < m' ∧ m' < n' ∧ n' < l.length)) (tw2 l i k j b)
  | 0, j, S, b, _, h => h.congr fun i' j' m' n' => ⟨.inl, fun h => h.elim id fun h => by omega⟩
  | k + 1, j, S, b, hk, h => by
    rw [tw2_succ]
    refine (BestOk.two i hi k (j + 1) (by omega) (h.four i j (l.length - (i + 1)) (i + 1) (by omega))).congr fun i' j' m' n' => ⟨?_, ?_⟩
    · rintro ((h | h) | h)
      · exact .inl h
      · exact .inr (by omega)
      · exact .inr (by omega)
    · rintro (h | h)
      · exact .inl (.inl h)
      · by_cases e : j' = j
        · exact .inl (.inr (by omega))
        · exact .inr (by omega)
theorem BestOk.zero {l : List Int} : ∀ (k i : Nat) {S : Nat → Nat → Nat → Nat → Prop} {b : List Int}, i + k ≤ l.length → BestOk l S b → BestOk l (fun i' j' m' n' => S i' j' m' n' ∨ ((i ≤ i' ∧ i' < i + k) ∧ (i' < j' ∧ j' < l.length) ∧ i' < m' ∧ m' < n' ∧ n' < l.length)) (tw0 l k i b)
  | 0, i, S, b, _, h => h.congr fun i' j' m' n' => ⟨.inl, fun h => h.elim id fun h => by omega⟩
  | k + 1, i, S, b, hk, h => by
    rw [tw0_succ]
    refine (BestOk.zero k (i + 1) (by omega) (h.two i (by omega) (l.length - (i + 1)) (i + 1) (by omega))).congr fun i' j' m' n' => ⟨?_, ?_⟩
    · rintro ((h | h) | h)
      · exact .inl h
      · exact .inr (by omega)
      · exact .inr (by omega)
    · rintro (h | h)
      · exact .inl (.inl h)
      · by_cases e : i' = i
        · exact .inl (.inr (by omega))
        · exact .inr (by omega)
def Quad (l : List Int) (i j m n : Nat) : Prop := (i < j ∧ j < l.length) ∧ i < m ∧ m < n ∧ n < l.length
theorem nth_mem {l : List Int} {i : Nat} (h : i < l.length) : nth l i ∈ l := by rw [← nth_get h]; exact List.getElem_mem h
end Go.Proofs.YtofceaeboboflaaDoor

/-
  STRAPS (9): the search for the first list. Conditions: none.
-/
namespace Go.Proofs.YtofceaeboboflaaDoor
open Go.AM
open Go.Proofs.Tryd (prog)
set_option linter.all false
set_option maxRecDepth 100000
set_option maxHeartbeats 4000000

/-! ### The greatest of a list; single lists -/
def maxL (c : List Int) : Int := (c.drop 1).foldl max (nth c 0)
theorem max_loop {w : AV} {c : List Int} (hw0 : IsInts w c) (hcl : c.length ≤ 1001) : ∀ (k i : Nat) (x : Int) (m : Mem), i + k = c.length →
    slices_Max_int.L0 w (.int .i64 x) (.int .i64 i) m [.code slices_Max_int.r8, .code .ret] = some (.int .i64 ((c.drop i).foldl max x), Mem.empty) := by
  intro k
  induction k with
  | zero =>
    intro i x m h1
    have e : i = c.length := by omega
    subst e
    rw [slices_Max_int.L0_eq]
    simp [hw0.len]
    done
  | succ k ih =>
    intro i x m h1
    have hi : i < c.length := by omega
    have hw : IntKind.wrap .i64 ((i : Int) + 1) = (i : Int) + 1 := wrap_id (by omega) (by omega)
    have hst := ih (i + 1) (max x (nth c i)) m (by omega)
    simp only [Int.natCast_add, Int.cast_ofNat_Int] at hst
    rw [drop_nth hi, List.foldl_cons, slices_Max_int.L0_eq]
    simp [hi, hw0.len, hw0.idx hi, ints_head hi, hw, hst]
    done
theorem max_spec {w : AV} {c : List Int} (hw0 : IsInts w c) (hcl : c.length ≤ 1001) (h0 : 0 < c.length) (m : Mem) : denC prog ann 23 [w] m = some (.int .i64 (maxL c), m) := by
  have lp := max_loop hw0 hcl (c.length - 1) 1 (nth c 0) Mem.empty (by omega)
  simp only [Int.cast_ofNat_Int] at lp
  have i0 := hw0.idx h0 .i64
  have i1 := ints_head h0
  simp only [Int.ofNat_zero, Int.cast_ofNat_Int, List.drop_zero] at i0 i1
  rw [slices_Max_int.call_eq _ _ (by simp [hw0.closed])]
  have hn : ¬ (c.length : Int) < 1 := by omega
  simp [hw0.len, hn, i0, i1, lp, maxL]
  done
def gSingle (l : List Int) : Bool := decide (maxL (counts l) ≤ 1)
/-! ### The search -/
def firstF (r : List Int → Option (List Int)) (l : List Int) : Nat → Int → Option (List Int)
  | 0, _ => none
  | n + 1, x => match r (l ++ [x]) with
    | some q => some q
    | none => firstF r l n (x + 1)
def findF (g e : List Int → Bool) (last : Int) : Nat → List Int → Option (List Int)
  | 0, l => if g l = true then (if e l = true then some l else none) else none
  | f + 1, l => if g l = true then firstF (findF g e last f) l (last - f - top l).toNat (top l + 1) else none
def ResV (r : Option (List Int)) (w : AV) : Prop := match r with
  | none => w = .nils
  | some l => ∃ ex, w = .fsl ex l.length (ints l)
/-- A function value that answers a question about straps. -/
structure Clo (gV : AV) (g : List Int → Bool) (d : Nat) (last : Int) : Prop where
  closed : gV.closed = true
  one : gV.one = true
  says : ∀ {w : AV} {l : List Int}, IsInts w l → StrapOk l → top l ≤ last → ∀ m, callA (fun g => (ann g).pure) (denC prog ann) 0 m gV [w] = some (.bool (g l), ⟨m.h, m.nx + d⟩)
end Go.Proofs.YtofceaeboboflaaDoor

/-
  STRAPS (12): round straps: the tests, how often each difference comes. Conditions: none.
-/
namespace Go.Proofs.YtofceaeboboflaaDoor
open Go.AM
open Go.Proofs.Tryd (prog)
set_option linter.all false
set_option maxRecDepth 100000
set_option maxHeartbeats 4000000

/-- A round strap: places below v, rising. -/
structure RingOk (v : Int) (l : List Int) : Prop where
  v2 : 2 ≤ v
  v31 : v ≤ 31
  pos : 0 < l.length
  few : l.length ≤ 31
  rng : ∀ i, i < l.length → 0 ≤ nth l i ∧ nth l i < v
  asc : ∀ i, i + 1 < l.length → nth l i < nth l (i + 1)
theorem RingOk.lt {v : Int} {l : List Int} (s : RingOk v l) {i : Nat} : ∀ {j : Nat}, i < j → j < l.length → nth l i < nth l j
  | j + 1, h, hj => by
    rcases Nat.eq_or_lt_of_le (Nat.le_of_lt_succ h) with e | e
    · subst e; exact s.asc i hj
    · exact Int.lt_trans (s.lt e (by omega)) (s.asc j hj)
/-- Why places are no round strap. -/
inductive RingErr (v : Int) (l : List Int) : Int → Prop where
  | long (h : 31 < l.length) : RingErr v l 3
  | arg (h : l.length ≤ 31) (h2 : v < 2 ∨ 31 < v) : RingErr v l 1
  | form (h : l.length ≤ 31) (h2 : 2 ≤ v ∧ v ≤ 31) (h3 : ¬ RingOk v l) : RingErr v l 2
  | ok (h : RingOk v l) : RingErr v l 0
theorem RingErr.uniq {v : Int} {l : List Int} {a b : Int} (h : RingErr v l a) (k : RingErr v l b) : a = b := by
  cases h with
  | long h => cases k with
    | long _ => rfl
    | arg h2 _ => omega
    | form h2 _ _ => omega
    | ok s => have := s.few; omega
  | arg h h2 => cases k with
    | long _ => omega
    | arg _ _ => rfl
    | form _ h3 _ => omega
    | ok s => have := s.v2; have := s.v31; omega
  | form h h2 h3 => cases k with
    | long _ => omega
    | arg _ _ => omega
    | form _ _ _ => rfl
    | ok s => exact absurd s h3
  | ok s => cases k with
    | long _ => have := s.few; omega
    | arg _ _ => have := s.v2; have := s.v31; omega
    | form _ _ h => exact absurd s h
    | ok _ => rfl
def rOk (v : Int) (l : List Int) (j : Nat) : Bool := decide (0 ≤ nth l j ∧ nth l j < v) && (decide (j = 0) || decide (nth l (j - 1) < nth l j))
theorem rOk_ring {v : Int} {l : List Int} (h2 : 2 ≤ v ∧ v ≤ 31) (h : 0 < l.length ∧ l.length ≤ 31) : RingOk v l ↔ (List.range' 0 l.length).all (rOk v l) = true := by
  rw [List.all_eq_true]
  constructor
  · intro s j hj
    simp [List.mem_range'_1] at hj
    have := s.rng j hj
    simp only [rOk, Bool.and_eq_true, Bool.or_eq_true, decide_eq_true_eq]
    refine ⟨this, ?_⟩
    by_cases e : j = 0
    · exact .inl e
    · have := s.asc (j - 1) (by omega)
      rw [show j - 1 + 1 = j by omega] at this
      exact .inr this
  · intro a
    have a' : ∀ j, j < l.length → rOk v l j = true := fun j hj => a j (by simp [List.mem_range'_1]; exact hj)
    refine ⟨h2.1, h2.2, h.1, h.2, fun i hi => ?_, fun i hi => ?_⟩
    · have := a' i hi
      simp only [rOk, Bool.and_eq_true, decide_eq_true_eq] at this
      exact this.1
    · have := a' (i + 1) hi
      simp only [rOk, Bool.and_eq_true, Bool.or_eq_true, decide_eq_true_eq] at this
      rcases this.2 with e | e
      · omega
      · exact e
theorem ring_loop {w : AV} {l : List Int} (hv : IsInts w l) (hl : l.length ≤ 31) (v : Int) : ∀ (k i : Nat) (m : Mem), i + k = l.length →
    strap_ring.L1 (.int .i64 v) w w (.int .i64 l.length) (.int .i64 i) m [.code strap_ring.r13, .code .ret] = some (.int .i64 (if (List.range' i k).all (rOk v l) = true then 0 else 2), Mem.empty) := by
  intro k
  induction k with
  | zero =>
    intro i m h1
    have e : i = l.length := by omega
    rw [strap_ring.L1_eq]
    simp [e]
    done
  | succ k ih =>
    intro i m h1
    have hi : i < l.length := by omega
    have hw : IntKind.wrap .i64 ((i : Int) + 1) = (i : Int) + 1 := wrap_id (by omega) (by omega)
    have hst := fun m => ih (i + 1) m (by omega)
    simp only [Int.natCast_add, Int.cast_ofNat_Int] at hst
    have e : (List.range' i (k + 1)).all (rOk v l) = (rOk v l i && (List.range' (i + 1) k).all (rOk v l)) := by simp [List.range'_succ]
    rw [e, strap_ring.L1_eq]
    by_cases q1 : nth l i < 0
    · have ho : rOk v l i = false := by simp [rOk]; omega
      rw [ho, Bool.false_and]
      simp [hi, hv.idx hi, ints_head hi, q1]
      done
    · by_cases q2 : v ≤ nth l i
      · have ho : rOk v l i = false := by simp [rOk]; omega
        rw [ho, Bool.false_and]
        simp [hi, hv.idx hi, ints_head hi, q1, q2]
        done
      · by_cases hz : i = 0
        · subst hz
          have ho : rOk v l 0 = true := by simp [rOk]; omega
          rw [ho, Bool.true_and]
          have i0 := hv.idx hi .i64
          have i1 := ints_head hi
          simp only [Int.ofNat_zero, Int.cast_ofNat_Int, List.drop_zero, Int.zero_add, Nat.zero_add] at i0 i1 hst hw
          simp [hi, i0, i1, q1, q2, hw, hst]
          done
        · have hw1 : IntKind.wrap .i64 ((i : Int) - 1) = ((i - 1 : Nat) : Int) := by rw [wrap_id (by omega) (by omega)]; omega
          have hj : i - 1 < l.length := by omega
          have hp : 0 < i := by omega
          by_cases q3 : nth l i ≤ nth l (i - 1)
          · have ho : rOk v l i = false := by simp [rOk]; omega
            rw [ho, Bool.false_and]
            simp [hi, hv.idx hi, ints_head hi, q1, q2, hw1, hv.idx hj, ints_head hj, hp, q3]
            done
          · have ho : rOk v l i = true := by simp [rOk]; omega
            rw [ho, Bool.true_and]
            simp [hi, hv.idx hi, ints_head hi, q1, q2, hw1, hv.idx hj, ints_head hj, hp, q3, hw, hst]
            done
theorem ring_spec {w : AV} {l : List Int} (hv : IsInts w l) (hl : l.length < 1000000) (v : Int) : ∃ e, RingErr v l e ∧ ∀ m, denC prog ann 14 [.int .i64 v, w] m = some (.int .i64 e, m) := by
  have hcl : closedL [.int .i64 v, w] = true := by simp [hv.closed]
  by_cases q1 : (31 : Int) < l.length
  · refine ⟨3, .long (by omega), fun m => ?_⟩
    rw [strap_ring.call_eq _ _ _ hcl]
    simp [hv.len, q1]
    done
  · by_cases q2 : v < 2
    · refine ⟨1, .arg (by omega) (.inl q2), fun m => ?_⟩
      rw [strap_ring.call_eq _ _ _ hcl]
      simp [hv.len, q1, q2]
      done
    · by_cases q3 : 31 < v
      · refine ⟨1, .arg (by omega) (.inr q3), fun m => ?_⟩
        rw [strap_ring.call_eq _ _ _ hcl]
        simp [hv.len, q1, q2, q3]
        done
      · by_cases q4 : l.length = 0
        · refine ⟨2, .form (by omega) (by omega) (fun s => by have := s.pos; omega), fun m => ?_⟩
          rw [strap_ring.call_eq _ _ _ hcl]
          simp [hv.len, q1, q2, q3, q4]
          done
        · have q4' : ¬ l = [] := fun e => q4 (by rw [e]; rfl)
          have lp := fun m => ring_loop hv (by omega) v l.length 0 m (by omega)
          simp only [Int.ofNat_zero, Int.cast_ofNat_Int] at lp
          have hro := rOk_ring (v := v) (l := l) (by omega) (by omega)
          by_cases q5 : (List.range' 0 l.length).all (rOk v l) = true
          · refine ⟨0, .ok (hro.2 q5), fun m => ?_⟩
            simp only [if_pos q5] at lp
            rw [strap_ring.call_eq _ _ _ hcl]
            simp [hv.len, q1, q2, q3, q4', lp]
            done
          · refine ⟨2, .form (by omega) (by omega) (fun s => q5 (hro.1 s)), fun m => ?_⟩
            simp only [if_neg q5] at lp
            rw [strap_ring.call_eq _ _ _ hcl]
            simp [hv.len, q1, q2, q3, q4', lp]
            done
/-! ### How often each difference comes -/
def dfF (l : List Int) (v : Int) (i : Nat) (k j : Nat) (c : List Int) : List Int := (List.range' j k).foldl (fun c q => if i = q then c else bump c ((nth l i - nth l q + v).tmod v).toNat) c
def dfO (l : List Int) (v : Int) (k i : Nat) (c : List Int) : List Int := (List.range' i k).foldl (fun c i => dfF l v i l.length 0 c) c
theorem dfF_succ (l : List Int) (v : Int) (i k j : Nat) (c : List Int) : dfF l v i (k + 1) j c = dfF l v i k (j + 1) (if i = j then c else bump c ((nth l i - nth l j + v).tmod v).toNat) := by simp [dfF, List.range'_succ]
theorem dfO_succ (l : List Int) (v : Int) (k i : Nat) (c : List Int) : dfO l v (k + 1) i c = dfO l v k (i + 1) (dfF l v i l.length 0 c) := by simp [dfO, List.range'_succ]
theorem dfF_len (l : List Int) (v : Int) (i : Nat) : ∀ (k j : Nat) (c : List Int), (dfF l v i k j c).length = c.length
  | 0, _, _ => rfl
  | k + 1, j, c => by rw [dfF_succ, dfF_len]; split <;> simp [bump_len]
theorem dfO_len (l : List Int) (v : Int) : ∀ (k i : Nat) (c : List Int), (dfO l v k i c).length = c.length
  | 0, _, _ => rfl
  | k + 1, i, c => by rw [dfO_succ, dfO_len, dfF_len]
theorem Small.dfF {l : List Int} {v : Int} {i : Nat} : ∀ {k j : Nat} {c : List Int} {B : Int}, Small c B → 0 ≤ B → Small (Go.Proofs.YtofceaeboboflaaDoor.dfF l v i k j c) (B + k)
  | 0, _, _, _, h, _ => by simpa [Go.Proofs.YtofceaeboboflaaDoor.dfF] using h
  | k + 1, j, c, B, h, hB => by
    rw [dfF_succ]
    have h1 : Small (if i = j then c else Go.AM.bump c ((nth l i - nth l j + v).tmod v).toNat) (B + 1) := by
      split
      · intro g; have := h g; omega
      · exact h.bump hB _
    have := h1.dfF (l := l) (v := v) (i := i) (k := k) (j := j + 1) (by omega)
    rwa [show B + 1 + (k : Int) = B + ((k + 1 : Nat) : Int) by omega] at this
def diffs (v : Int) (l : List Int) : List Int := dfO l v l.length 0 (List.replicate v.toNat 0)
theorem RingOk.ne {v : Int} {l : List Int} (s : RingOk v l) {i j : Nat} (hi : i < l.length) (hj : j < l.length) : nth l i = nth l j ↔ i = j := by
  constructor
  · intro h
    rcases Nat.lt_trichotomy i j with q | q | q
    · have := s.lt q hj; omega
    · exact q
    · have := s.lt q hi; omega
  · intro h; rw [h]
end Go.Proofs.YtofceaeboboflaaDoor

/-
  STRAPS (20): a set multiplied and moved, sorted by the library. Conditions: none.
-/
namespace Go.Proofs.YtofceaeboboflaaDoor
open Go.AM
open Go.Proofs.Tryd (prog)
set_option linter.all false
set_option maxRecDepth 100000
set_option maxHeartbeats 4000000

def mvF (v t s x : Int) : Int := (x * t + s).tmod v
def fillF (l : List Int) (f : Int → Int) (k i : Nat) (c : List Int) : List Int := (List.range' i k).foldl (fun c i => c.set i (f (nth l i))) c
theorem fillF_succ (l : List Int) (f : Int → Int) (k i : Nat) (c : List Int) : fillF l f (k + 1) i c = fillF l f k (i + 1) (c.set i (f (nth l i))) := by simp [fillF, List.range'_succ]
theorem fillF_len (l : List Int) (f : Int → Int) : ∀ (k i : Nat) (c : List Int), (fillF l f k i c).length = c.length
  | 0, _, _ => rfl
  | k + 1, i, c => by rw [fillF_succ, fillF_len]; simp
theorem fillF_nth (l : List Int) (f : Int → Int) : ∀ (k i : Nat) (c : List Int) (g : Nat), i + k ≤ c.length → nth (fillF l f k i c) g = if i ≤ g ∧ g < i + k then f (nth l g) else nth c g
  | 0, i, c, g, _ => by rw [if_neg (by omega)]; rfl
  | k + 1, i, c, g, h => by
    rw [fillF_succ, fillF_nth l f k (i + 1) _ g (by simp; omega), nth_set]
    by_cases e : i = g
    · subst e
      rw [if_neg (by omega), if_pos (by omega), if_pos (by omega)]
    · by_cases q : i + 1 ≤ g ∧ g < i + 1 + k
      · rw [if_pos q, if_pos (by omega)]
      · rw [if_neg q, if_neg (fun h => e h.1), if_neg (by omega)]
theorem fillF_all (l : List Int) (f : Int → Int) (c : List Int) (h : c.length = l.length) : fillF l f l.length 0 c = l.map f := by
  refine ext_nth (by rw [fillF_len, List.length_map, h]) fun g => ?_
  rw [fillF_nth l f _ _ _ _ (by omega)]
  by_cases q : g < l.length
  · rw [if_pos (by omega)]
    simp [nth, List.getD, q]
  · rw [if_neg (by omega)]
    simp [nth, List.getD, List.getElem?_eq_none (show c.length ≤ g by omega), List.getElem?_eq_none (show (l.map f).length ≤ g by simp; omega)]
theorem mv_fill {w : AV} {v t s : Int} {l : List Int} (hv : IsInts w l) (hl : l.length ≤ 31) (h0 : 0 < l.length) (hr : ∀ i, i < l.length → 0 ≤ nth l i ∧ nth l i < 31) (hv2 : 1 ≤ v ∧ v ≤ 31) (ht : 0 ≤ t ∧ t ≤ 31) (hs : 0 ≤ s ∧ s ≤ 31) (oid : Nat) : ∀ (k i : Nat) (c : List Int) (m : Mem), i + k = l.length → c.length = l.length → m.h oid = some (.cells (ints c)) →
    strap_moved.L2 (.int .i64 v) (.int .i64 t) (.int .i64 s) (.sl oid 1 0 l.length l.length) w (.int .i64 l.length) (.int .i64 i) m [.code strap_moved.r11, .code strap_moved.r12, .code .ret] = some (.fsl false l.length (ints (sortI (fillF l (mvF v t s) k i c))), Mem.empty) := by
  intro k
  induction k with
  | zero =>
    intro i c m h1 hc hm
    have e : i = l.length := by omega
    subst e
    have so := sort_spec oid c (by omega) (by omega) m hm
    rw [hc] at so
    have hsl := sortI_len c
    have htk : (sortI c).take l.length = sortI c := List.take_of_length_le (by omega)
    rw [strap_moved.L2_eq]
    simp [so, sort_pure, Mem.set, fillF, hsl, hc, htk]
    done
  | succ k ih =>
    intro i c m h1 hc hm
    have hi : i < l.length := by omega
    have hw : IntKind.wrap .i64 ((i : Int) + 1) = (i : Int) + 1 := wrap_id (by omega) (by omega)
    have hx := hr i hi
    have p0 : 0 ≤ nth l i * t := Int.mul_nonneg (by omega) (by omega)
    have p1 : nth l i * t ≤ 31 * 31 := Int.mul_le_mul (by omega) (by omega) (by omega) (by omega)
    have hw1 : IntKind.wrap .i64 (nth l i * t) = nth l i * t := wrap_id (by omega) (by omega)
    have hw2 : IntKind.wrap .i64 (nth l i * t + s) = nth l i * t + s := wrap_id (by omega) (by omega)
    have hv0 : ¬ v = 0 := by omega
    have hst := ih (i + 1) (c.set i (mvF v t s (nth l i))) ⟨upd m.h oid (some (.cells (ints (c.set i (mvF v t s (nth l i)))))), m.nx⟩ (by omega) (by simp [hc]) (by simp)
    simp only [Int.natCast_add, Int.cast_ofNat_Int] at hst
    rw [fillF_succ, ← hst, strap_moved.L2_eq]
    simp [hi, hv.idx hi, ints_head hi, hw1, hw2, hv0, hc, hm, hw, mvF]
    done
def mvL (v t s : Int) (l : List Int) : List Int := sortI (l.map (mvF v t s))
theorem mv_zero {w : AV} {v t s : Int} {l : List Int} (hv : IsInts w l) (hl : l.length ≤ 31) (h0 : 0 < l.length) (hr : ∀ i, i < l.length → 0 ≤ nth l i ∧ nth l i < 31) (hv2 : 1 ≤ v ∧ v ≤ 31) (ht : 0 ≤ t ∧ t ≤ 31) (hs : 0 ≤ s ∧ s ≤ 31) : ∀ (k i oid : Nat) (m : Mem), i + k = l.length → OutI m oid (List.replicate i 0) →
    strap_moved.L0 (.int .i64 v) w (.int .i64 t) (.int .i64 s) (outI oid (List.replicate i 0)) (.int .i64 l.length) (.int .i64 i) m [.code strap_moved.r6, .code strap_moved.k2, .code strap_moved.r11, .code strap_moved.r12, .code .ret] = some (.fsl false l.length (ints (mvL v t s l)), Mem.empty) := by
  intro k
  induction k with
  | zero =>
    intro i oid m h1 ho
    have e : i = l.length := by omega
    subst e
    have hne : List.replicate l.length (0 : Int) ≠ [] := by simp; intro e; rw [e] at h0; simp at h0
    obtain ⟨hm, _⟩ := ho hne
    have lp := mv_fill hv hl h0 hr hv2 ht hs oid l.length 0 (List.replicate l.length 0) m (by omega) (by simp) hm
    simp only [Int.ofNat_zero, Int.cast_ofNat_Int] at lp
    rw [fillF_all l _ _ (by simp)] at lp
    rw [outI, if_neg hne, List.length_replicate, strap_moved.L0_eq]
    simp [hv.len, lp, mvL]
    done
  | succ k ih =>
    intro i oid m h1 ho
    have hi : i < l.length := by omega
    have hw : IntKind.wrap .i64 ((i : Int) + 1) = (i : Int) + 1 := wrap_id (by omega) (by omega)
    obtain ⟨oid', m', g1, g2, _⟩ := outI_appT ho (by simp; omega) 0
    have er : List.replicate i (0 : Int) ++ [0] = List.replicate (i + 1) 0 := by rw [List.replicate_succ']
    rw [er] at g1 g2
    have hst := ih (i + 1) oid' m' (by omega) g2
    simp only [Int.natCast_add, Int.cast_ofNat_Int] at hst
    rw [strap_moved.L0_eq]
    simp [hi, g1, hw, hst]
    done
theorem moved_spec {w : AV} {v t s : Int} {l : List Int} (hv : IsInts w l) (hl : l.length ≤ 31) (h0 : 0 < l.length) (hr : ∀ i, i < l.length → 0 ≤ nth l i ∧ nth l i < 31) (hv2 : 1 ≤ v ∧ v ≤ 31) (ht : 0 ≤ t ∧ t ≤ 31) (hs : 0 ≤ s ∧ s ≤ 31) (m : Mem) :
    denC prog ann 17 [.int .i64 v, w, .int .i64 t, .int .i64 s] m = some (.fsl false l.length (ints (mvL v t s l)), m) := by
  have hcl : closedL [.int .i64 v, w, .int .i64 t, .int .i64 s] = true := by simp [hv.closed]
  have lp := mv_zero hv hl h0 hr hv2 ht hs l.length 0 0 Mem.empty (by omega) (fun h => absurd rfl h)
  rw [show outI 0 (List.replicate 0 0) = .nils from rfl] at lp
  simp only [Int.ofNat_zero, Int.cast_ofNat_Int] at lp
  rw [strap_moved.call_eq _ _ _ _ _ hcl]
  simp [hv.len, lp]
  done
end Go.Proofs.YtofceaeboboflaaDoor

/-
  STRAPS (21): common divisors, units, the same list (slices.Equal). Conditions: none.
-/
namespace Go.Proofs.YtofceaeboboflaaDoor
open Go.AM
open Go.Proofs.Tryd (prog)
set_option linter.all false
set_option maxRecDepth 100000
set_option maxHeartbeats 4000000

theorem gcd_step (a b : Nat) : Nat.gcd a (b + 1) = Nat.gcd (b + 1) (a % (b + 1)) := by
  rw [Nat.gcd_comm a, Nat.gcd_rec (b + 1) a, Nat.gcd_comm]
theorem div_loop : ∀ (n a b : Nat) (m : Mem), b ≤ n → strap_divisor.L0 (.int .i64 a) (.int .i64 b) m [.code strap_divisor.r3, .code .ret] = some (.int .i64 (Nat.gcd a b), Mem.empty)
  | n, a, 0, m, _ => by
    rw [strap_divisor.L0_eq]
    simp
    done
  | 0, a, b + 1, m, h => by omega
  | n + 1, a, b + 1, m, h => by
    have hlt := Nat.mod_lt a (show 0 < b + 1 by omega)
    have ih := div_loop n (b + 1) (a % (b + 1)) ⟨m.h, m.nx + 6⟩ (by omega)
    have e : (a : Int).tmod ((b + 1 : Nat) : Int) = ((a % (b + 1) : Nat) : Int) := by rw [Int.tmod_eq_emod_of_nonneg (by omega)]; rfl
    have hb : ¬ ((b + 1 : Nat) : Int) = 0 := by omega
    rw [gcd_step, ← ih]
    generalize ((b + 1 : Nat) : Int) = B at *
    rw [strap_divisor.L0_eq]
    simp [hb, e]
    done
theorem div_spec (a b : Nat) (m : Mem) : denC prog ann 25 [.int .i64 a, .int .i64 b] m = some (.int .i64 (Nat.gcd a b), m) := by
  have lp := div_loop b a b Mem.empty (Nat.le_refl _)
  rw [strap_divisor.call_eq _ _ _ rfl]
  simp [lp]
  done
theorem gcd_loop : ∀ (n a b : Nat) (m : Mem), b ≤ n → r04_Gcd.L0 (.int .i64 a) (.int .i64 b) m [.code r04_Gcd.r3, .code .ret] = some (.int .i64 (Nat.gcd a b), Mem.empty)
  | n, a, 0, m, _ => by
    rw [r04_Gcd.L0_eq]
    simp
    done
  | 0, a, b + 1, m, h => by omega
  | n + 1, a, b + 1, m, h => by
    have hlt := Nat.mod_lt a (show 0 < b + 1 by omega)
    have ih := gcd_loop n (b + 1) (a % (b + 1)) ⟨m.h, m.nx + 6⟩ (by omega)
    have e : (a : Int).tmod ((b + 1 : Nat) : Int) = ((a % (b + 1) : Nat) : Int) := by rw [Int.tmod_eq_emod_of_nonneg (by omega)]; rfl
    have hb : ¬ ((b + 1 : Nat) : Int) = 0 := by omega
    have hb2 : (0 : Int) < ((b + 1 : Nat) : Int) := by omega
    rw [gcd_step, ← ih]
    generalize ((b + 1 : Nat) : Int) = B at *
    rw [r04_Gcd.L0_eq]
    simp [hb, hb2, e]
    done
theorem gcd_spec (a b : Nat) (m : Mem) : denC prog ann 12 [.int .i64 a, .int .i64 b] m = some (.int .i64 (Nat.gcd a b), m) := by
  have lp := gcd_loop b a b Mem.empty (Nat.le_refl _)
  rw [r04_Gcd.call_eq _ _ _ rfl]
  simp [lp]
  done
/-! ### The units -/
def uniF (v k i : Nat) : List Int := ((List.range' i k).filter fun t => decide (Nat.gcd t v = 1)).map fun t : Nat => (t : Int)
theorem uniF_succ (v k i : Nat) : uniF v (k + 1) i = if Nat.gcd i v = 1 then (i : Int) :: uniF v k (i + 1) else uniF v k (i + 1) := by
  simp only [uniF, List.range'_succ, List.filter_cons]
  by_cases h : Nat.gcd i v = 1 <;> simp [h]
theorem uni_loop {v : Nat} (hv : v ≤ 31) : ∀ (k i oid : Nat) (acc : List Int) (m : Mem), i + k = v → OutI m oid acc → acc.length ≤ i →
    strap_units.L0 (.int .i64 v) (outI oid acc) (.int .i64 v) (.int .i64 i) m [.code strap_units.r8, .code .ret] = some (intsV (acc ++ uniF v k i), Mem.empty) := by
  intro k
  induction k with
  | zero =>
    intro i oid acc m h1 ho ha
    have e : i = v := by omega
    subst e
    have hd := outI_deep ho
    rw [strap_units.L0_eq]
    simp [uniF, hd]
    done
  | succ k ih =>
    intro i oid acc m h1 ho ha
    have hi : i < v := by omega
    have hw : IntKind.wrap .i64 ((i : Int) + 1) = (i : Int) + 1 := wrap_id (by omega) (by omega)
    have hd := fun m => div_spec i v m
    by_cases q : Nat.gcd i v = 1
    · rw [q] at hd
      obtain ⟨oid', m', g1, g2, _⟩ := outI_appT ho (by omega) (i : Int)
      have hst := ih (i + 1) oid' (acc ++ [(i : Int)]) m' (by omega) g2 (by simp; omega)
      simp only [Int.natCast_add, Int.cast_ofNat_Int] at hst
      rw [uniF_succ, if_pos q, strap_units.L0_eq]
      simp [hi, hd, g1, hw, hst]
      done
    · have q' : ¬ ((Nat.gcd i v : Nat) : Int) = 1 := by omega
      have hst := ih (i + 1) oid acc m (by omega) ho (by omega)
      simp only [Int.natCast_add, Int.cast_ofNat_Int] at hst
      rw [uniF_succ, if_neg q, strap_units.L0_eq]
      simp [hi, hd, q', q, hw, hst]
      done
def unitsL (v : Nat) : List Int := uniF v v 0
theorem units_spec {v : Nat} (hv : v ≤ 31) (m : Mem) : denC prog ann 15 [.int .i64 v] m = some (intsV (unitsL v), m) := by
  have lp := uni_loop hv v 0 0 [] Mem.empty (by omega) (fun h => absurd rfl h) (Nat.le_refl _)
  rw [show outI 0 [] = .nils from rfl, List.nil_append] at lp
  simp only [Int.ofNat_zero, Int.cast_ofNat_Int] at lp
  rw [strap_units.call_eq _ _ rfl]
  simp [lp, unitsL]
  done
/-! ### slices.Equal -/
theorem eq_loop {wa wb : AV} {a b : List Int} (ha : IsInts wa a) (hb : IsInts wb b) (hl : a.length = b.length) (hl2 : a.length ≤ 1000) : ∀ (k i : Nat) (m : Mem), i + k = a.length →
    slices_Equal_int.L0 wa wb (.int .i64 a.length) (.int .i64 i) m [.code slices_Equal_int.r9, .code .ret] = some (.bool (decide (a.drop i = b.drop i)), Mem.empty) := by
  intro k
  induction k with
  | zero =>
    intro i m h1
    have e1 : a.drop i = [] := List.drop_of_length_le (by omega)
    have e2 : b.drop i = [] := List.drop_of_length_le (by omega)
    have e : i = a.length := by omega
    rw [e1, e2, e, slices_Equal_int.L0_eq]
    simp
    done
  | succ k ih =>
    intro i m h1
    have hi : i < a.length := by omega
    have hj : i < b.length := by omega
    have hw : IntKind.wrap .i64 ((i : Int) + 1) = (i : Int) + 1 := wrap_id (by omega) (by omega)
    have hst := fun m => ih (i + 1) m (by omega)
    simp only [Int.natCast_add, Int.cast_ofNat_Int] at hst
    have a1 := ha.idx hi .i64
    have a2 := ints_head hi
    have b1 := hb.idx hj .i64
    have b2 := ints_head hj
    rw [slices_Equal_int.L0_eq]
    by_cases q : nth a i = nth b i
    · have e : decide (a.drop i = b.drop i) = decide (a.drop (i + 1) = b.drop (i + 1)) := by
        rw [drop_nth hi, drop_nth hj, q]; simp
      rw [e]
      rw [q] at a2
      simp [hi, a1, a2, b1, b2, hw, hst]
      done
    · have e : decide (a.drop i = b.drop i) = false := by
        rw [drop_nth hi, drop_nth hj]; simp [q]
      rw [e]
      simp [hi, a1, a2, b1, b2, q]
      done
theorem equal_spec {wa wb : AV} {a b : List Int} (ha : IsInts wa a) (hb : IsInts wb b) (hl : a.length = b.length) (hl2 : a.length ≤ 1000) (m : Mem) : denC prog ann 16 [wa, wb] m = some (.bool (decide (a = b)), m) := by
  have lp := eq_loop ha hb hl hl2 a.length 0 Mem.empty (by omega)
  simp only [Int.ofNat_zero, Int.cast_ofNat_Int, List.drop_zero] at lp
  have hl3 := hb.len
  rw [← hl] at hl3
  rw [slices_Equal_int.call_eq _ _ _ (by simp [ha.closed, hb.closed])]
  simp [ha.len, hl3, lp]
  done
end Go.Proofs.YtofceaeboboflaaDoor

/-
  STRAPS (22): the specification's multiplied and moved set. Conditions: none.
-/
namespace Go.Proofs.YtofceaeboboflaaDoor
open Go.AM
open Go.Proofs.Tryd (prog)
set_option linter.all false
set_option maxRecDepth 100000
set_option maxHeartbeats 4000000

def bls (bs : List Bool) : List AV := bs.map fun b => AV.bool b
def bnth (bs : List Bool) (i : Nat) : Bool := bs.getD i false
def turF (bs : List Bool) (k p : Nat) : List Int := ((List.range' p k).filter (bnth bs)).map fun t : Nat => (t : Int)
theorem turF_succ (bs : List Bool) (k p : Nat) : turF bs (k + 1) p = if bnth bs p = true then (p : Int) :: turF bs k (p + 1) else turF bs k (p + 1) := by
  simp only [turF, List.range'_succ, List.filter_cons]
  by_cases h : bnth bs p = true <;> simp [h]
theorem tur_out {v : Nat} (hv : v ≤ 31) {bs : List Bool} (hb : bs.length = v) (i1 i2 : Nat) (hne : i1 ≠ i2) : ∀ (k p : Nat) (acc : List Int) (m : Mem), p + k = v → acc.length ≤ p → m.h i1 = some (.cells (bls bs)) → m.h i2 = some (.cells (ints acc)) →
    r04_Turned.L2 (.int .i64 v) (.sl i1 1 0 v v) (.sl i2 1 0 acc.length acc.length) (.int .i64 p) m [.code r04_Turned.r11, .code .ret] = some (.fsl false (acc ++ turF bs k p).length (ints (acc ++ turF bs k p)), Mem.empty) := by
  intro k
  induction k with
  | zero =>
    intro p acc m h1 ha m1 m2
    have e : p = v := by omega
    subst e
    rw [r04_Turned.L2_eq]
    simp [turF, m2]
    done
  | succ k ih =>
    intro p acc m h1 ha m1 m2
    have hp : p < v := by omega
    have hw : IntKind.wrap .i64 ((p : Int) + 1) = (p : Int) + 1 := wrap_id (by omega) (by omega)
    have hbl : (bls bs).length = v := by simp [bls, hb]
    have hbp : ∀ h, (bls bs)[p]'h = .bool (bnth bs p) := fun h => by
      have hp2 : p < bs.length := by omega
      simp [bls, bnth, hp2]
    rw [turF_succ]
    cases q : bnth bs p with
    | true =>
      rw [q] at hbp
      have hx : ints acc ++ [AV.int .i64 (p : Int)] = ints (acc ++ [(p : Int)]) := by simp [ints]
      have hst := ih (p + 1) (acc ++ [(p : Int)]) ⟨upd m.h i2 (some (.cells (ints (acc ++ [(p : Int)])))), m.nx⟩ (by omega) (by simp; omega) (by show upd m.h i2 _ i1 = _; rw [updNe hne]; exact m1) (by simp)
      simp only [Int.natCast_add, Int.cast_ofNat_Int, List.length_append, List.length_singleton, List.append_assoc, List.singleton_append] at hst
      rw [if_pos rfl, r04_Turned.L2_eq]
      simp [hp, m1, hbl, hbp, m2, hx, Mem.set, hw, show acc.length ≤ 4611686018427387903 by omega, show (acc.length + 1) * 8 ≤ 70368744177664 by omega, hst]
      done
    | false =>
      rw [q] at hbp
      have hst := ih (p + 1) acc m (by omega) (by omega) m1 m2
      simp only [Int.natCast_add, Int.cast_ofNat_Int, List.length_append] at hst
      rw [if_neg (by decide), r04_Turned.L2_eq]
      simp [hp, m1, hbl, hbp, hw, hst]
      done
def turS (l : List Int) (f : Int → Int) (k i : Nat) (bs : List Bool) : List Bool := (List.range' i k).foldl (fun bs i => bs.set (f (nth l i)).toNat true) bs
theorem turS_succ (l : List Int) (f : Int → Int) (k i : Nat) (bs : List Bool) : turS l f (k + 1) i bs = turS l f k (i + 1) (bs.set (f (nth l i)).toNat true) := by simp [turS, List.range'_succ]
theorem bls_set (bs : List Bool) (d : Nat) : (bls bs).set d (.bool true) = bls (bs.set d true) := by simp [bls, List.map_set]
theorem tur_in {w : AV} {v : Nat} {t s : Int} {l : List Int} (hv : IsInts w l) (hl : l.length ≤ 31) (hr : ∀ i, i < l.length → 0 ≤ nth l i ∧ nth l i < 31) (hv2 : 1 ≤ v ∧ v ≤ 31) (ht : 0 ≤ t ∧ t ≤ 31) (hs : 0 ≤ s ∧ s ≤ 31) (i1 i2 : Nat) (hne : i1 ≠ i2) : ∀ (k i : Nat) (bs : List Bool) (m : Mem), i + k = l.length → bs.length = v → m.h i1 = some (.cells (bls bs)) → m.h i2 = some (.cells (ints [])) →
    r04_Turned.L0 (.int .i64 v) w (.int .i64 t) (.int .i64 s) (.sl i1 1 0 v v) (.sl i2 1 0 0 0) (.int .i64 i) m [.code r04_Turned.r6, .code r04_Turned.k2, .code r04_Turned.r11, .code .ret] = some (.fsl false (turF (turS l (mvF v t s) k i bs) v 0).length (ints (turF (turS l (mvF v t s) k i bs) v 0)), Mem.empty) := by
  intro k
  induction k with
  | zero =>
    intro i bs m h1 hb m1 m2
    have e : i = l.length := by omega
    subst e
    have lp := tur_out hv2.2 hb i1 i2 hne v 0 [] m (by omega) (Nat.le_refl _) m1 m2
    simp only [Int.ofNat_zero, Int.cast_ofNat_Int, List.nil_append, List.length_nil] at lp
    rw [r04_Turned.L0_eq]
    simp [hv.len, lp, turS]
    done
  | succ k ih =>
    intro i bs m h1 hb m1 m2
    have hi : i < l.length := by omega
    have hw : IntKind.wrap .i64 ((i : Int) + 1) = (i : Int) + 1 := wrap_id (by omega) (by omega)
    have hx := hr i hi
    have p0 : 0 ≤ nth l i * t := Int.mul_nonneg (by omega) (by omega)
    have p1 : nth l i * t ≤ 31 * 31 := Int.mul_le_mul (by omega) (by omega) (by omega) (by omega)
    have hw1 : IntKind.wrap .i64 (nth l i * t) = nth l i * t := wrap_id (by omega) (by omega)
    have hw2 : IntKind.wrap .i64 (nth l i * t + s) = nth l i * t + s := wrap_id (by omega) (by omega)
    have hv0 : ¬ (v : Int) = 0 := by omega
    have hv0' : ¬ v = 0 := by omega
    have er : (nth l i * t + s).tmod v = (nth l i * t + s) % v := Int.tmod_eq_emod_of_nonneg (by omega)
    have e1 := Int.emod_nonneg (nth l i * t + s) hv0
    have e2 := Int.emod_lt_of_pos (nth l i * t + s) (show (0 : Int) < v by omega)
    obtain ⟨d, hd⟩ : ∃ d : Nat, (nth l i * t + s).tmod v = d := ⟨((nth l i * t + s) % v).toNat, by omega⟩
    have hdv : d < v := by omega
    have hmv : (mvF v t s (nth l i)).toNat = d := by unfold mvF; rw [hd]; rfl
    have hbl : (bls bs).length = v := by simp [bls, hb]
    have hst := ih (i + 1) (bs.set d true) ⟨upd m.h i1 (some (.cells (bls (bs.set d true)))), m.nx⟩ (by omega) (by simp [hb]) (by simp) (by show upd m.h i1 _ i2 = _; rw [updNe (fun h => hne h.symm)]; exact m2)
    simp only [Int.natCast_add, Int.cast_ofNat_Int] at hst
    rw [turS_succ, hmv, ← hst, r04_Turned.L0_eq]
    simp [hi, hv.len, hv.idx hi, ints_head hi, hw1, hw2, hv0, hv0', hd, hdv, m1, hbl, bls_set, Mem.set, hw]
    done
def turL (v : Nat) (t s : Int) (l : List Int) : List Int := turF (turS l (mvF v t s) l.length 0 (List.replicate v false)) v 0
theorem turned_spec {w : AV} {v : Nat} {t s : Int} {l : List Int} (hv : IsInts w l) (hl : l.length ≤ 31) (hr : ∀ i, i < l.length → 0 ≤ nth l i ∧ nth l i < 31) (hv2 : 1 ≤ v ∧ v ≤ 31) (ht : 0 ≤ t ∧ t ≤ 31) (hs : 0 ≤ s ∧ s ≤ 31) (m : Mem) :
    denC prog ann 13 [.int .i64 v, w, .int .i64 t, .int .i64 s] m = some (.fsl false (turL v t s l).length (ints (turL v t s l)), m) := by
  have hcl : closedL [.int .i64 v, w, .int .i64 t, .int .i64 s] = true := by simp [hv.closed]
  have lp := tur_in hv hl hr hv2 ht hs 0 1 (by decide) l.length 0 (List.replicate v false) ⟨upd (upd Mem.empty.h 0 (some (.cells (bls (List.replicate v false))))) 1 (some (.cells (ints []))), 2⟩ (by omega) (by simp) (by simp) (by simp)
  have e : bls (List.replicate v false) = List.replicate v (AV.bool false) := by simp [bls]
  rw [e] at lp
  simp only [Int.ofNat_zero, Int.cast_ofNat_Int] at lp
  simp at lp
  rw [r04_Turned.call_eq _ _ _ _ _ hcl]
  simp [show v ≤ 4611686018427387904 by omega, show v ≤ 70368744177664 by omega, lp, turL]
  done
end Go.Proofs.YtofceaeboboflaaDoor

/-
  STRAPS (23): moved by the code and by the specification: the same. Conditions: none.
-/
namespace Go.Proofs.YtofceaeboboflaaDoor
open Go.AM
set_option linter.all false
set_option maxRecDepth 10000
set_option maxHeartbeats 2000000

theorem mvF_rng {v : Nat} (hv : 0 < v) {t s x : Int} (h : 0 ≤ x * t + s) : 0 ≤ mvF v t s x ∧ mvF v t s x < v ∧ mvF v t s x = (x * t + s) % v := by
  have e := Int.tmod_eq_emod_of_nonneg (b := (v : Int)) h
  unfold mvF
  rw [e]
  exact ⟨Int.emod_nonneg _ (by omega), Int.emod_lt_of_pos _ (by omega), rfl⟩
theorem dvd_small {v t : Nat} (hg : Nat.gcd t v = 1) {d : Nat} (hd : d < v) (h : (v : Int) ∣ (d : Int) * t) : d = 0 := by
  have h2 : v ∣ d * t := by
    have := Int.natAbs_dvd_natAbs.2 h
    simpa [Int.natAbs_mul] using this
  have hc : Nat.Coprime v t := by rw [Nat.Coprime, Nat.gcd_comm]; exact hg
  exact Nat.eq_zero_of_dvd_of_lt (hc.dvd_of_dvd_mul_right h2) hd
theorem mvF_inj {v t : Nat} (hg : Nat.gcd t v = 1) {s x y : Int} (hs : 0 ≤ s) (hx : 0 ≤ x ∧ x < v) (hy : 0 ≤ y ∧ y < v) (h : mvF v t s x = mvF v t s y) : x = y := by
  have hv : 0 < v := by omega
  have px : 0 ≤ x * (t : Int) := Int.mul_nonneg hx.1 (by omega)
  have py : 0 ≤ y * (t : Int) := Int.mul_nonneg hy.1 (by omega)
  rw [(mvF_rng hv (by omega : 0 ≤ x * (t : Int) + s)).2.2, (mvF_rng hv (by omega : 0 ≤ y * (t : Int) + s)).2.2] at h
  have h2 : (v : Int) ∣ (x - y) * t := by
    have := Int.emod_emod_of_dvd
    have h3 := Int.emod_eq_emod_iff_emod_sub_eq_zero.1 h
    have h4 := Int.dvd_of_emod_eq_zero h3
    rwa [show x * (t : Int) + s - (y * t + s) = (x - y) * t by rw [Int.sub_mul]; omega] at h4
  rcases Int.le_total y x with q | q
  · obtain ⟨d, hd⟩ : ∃ d : Nat, x - y = d := ⟨(x - y).toNat, by omega⟩
    rw [hd] at h2
    have := dvd_small hg (by omega) h2
    omega
  · obtain ⟨d, hd⟩ : ∃ d : Nat, y - x = d := ⟨(y - x).toNat, by omega⟩
    have h3 : (v : Int) ∣ (d : Int) * t := by
      have := Int.dvd_neg.2 h2
      rwa [show -((x - y) * (t : Int)) = (d : Int) * t by rw [← Int.neg_mul, ← hd]; congr 1; omega] at this
    have := dvd_small hg (by omega) h3
    omega
theorem bnth_set {bs : List Bool} {d p : Nat} (hd : d < bs.length) : bnth (bs.set d true) p = (decide (p = d) || bnth bs p) := by
  simp only [bnth, List.getD, List.getElem?_set]
  by_cases e : d = p
  · subst e; simp [hd]
  · have e' : ¬ p = d := fun h => e h.symm
    simp [e, e']
theorem turS_nth {l : List Int} {f : Int → Int} {p : Nat} : ∀ {k i : Nat} {bs : List Bool}, (∀ j, i ≤ j → j < i + k → (f (nth l j)).toNat < bs.length) → (bnth (turS l f k i bs) p = true ↔ bnth bs p = true ∨ ∃ j, i ≤ j ∧ j < i + k ∧ (f (nth l j)).toNat = p)
  | 0, i, bs, _ => by
    constructor
    · exact .inl
    · rintro (h | ⟨j, h1, h2, _⟩)
      · exact h
      · omega
  | k + 1, i, bs, h => by
    rw [turS_succ, turS_nth (fun j h1 h2 => by rw [List.length_set]; exact h j (by omega) (by omega)), bnth_set (h i (by omega) (by omega)), Bool.or_eq_true, decide_eq_true_eq]
    constructor
    · rintro ((h | h) | ⟨j, h1, h2, h3⟩)
      · exact .inr ⟨i, by omega, by omega, h.symm⟩
      · exact .inl h
      · exact .inr ⟨j, by omega, by omega, h3⟩
    · rintro (h | ⟨j, h1, h2, h3⟩)
      · exact .inl (.inr h)
      · by_cases e : j = i
        · subst e; exact .inl (.inl h3.symm)
        · exact .inr ⟨j, by omega, by omega, h3⟩
theorem range_sorted : ∀ (k p : Nat), (List.range' p k).Pairwise (· < ·) := fun k p => List.pairwise_lt_range'
theorem turF_sorted (bs : List Bool) (k p : Nat) : (turF bs k p).Pairwise (· < ·) := by
  unfold turF
  exact ((range_sorted k p).filter _).map _ fun a b h => by show (a : Int) < b; omega
theorem mem_turL {v : Nat} {t s : Int} {l : List Int} (hv : 0 < v) (hp : ∀ i, i < l.length → 0 ≤ nth l i * t + s) (x : Int) : x ∈ turL v t s l ↔ x ∈ l.map (mvF v t s) := by
  have hr : ∀ i, i < l.length → 0 ≤ mvF v t s (nth l i) ∧ mvF v t s (nth l i) < v := fun i hi => ⟨(mvF_rng hv (hp i hi)).1, (mvF_rng hv (hp i hi)).2.1⟩
  have hk : ∀ p, bnth (turS l (mvF v t s) l.length 0 (List.replicate v false)) p = true ↔ ∃ j, j < l.length ∧ (mvF v t s (nth l j)).toNat = p := fun p => by
    rw [turS_nth (fun j _ h2 => by have := hr j (by omega); simp; omega)]
    have z : bnth (List.replicate v false) p = false := by simp only [bnth, List.getD, List.getElem?_replicate]; split <;> rfl
    rw [z]
    constructor
    · rintro (h | ⟨j, _, h2, h3⟩)
      · cases h
      · exact ⟨j, by omega, h3⟩
    · rintro ⟨j, h2, h3⟩
      exact .inr ⟨j, by omega, by omega, h3⟩
  rw [turL, turF, List.mem_map, List.mem_map]
  constructor
  · rintro ⟨p, h1, rfl⟩
    rw [List.mem_filter] at h1
    obtain ⟨j, hj, e⟩ := (hk p).1 h1.2
    have := hr j hj
    exact ⟨nth l j, nth_mem hj, by omega⟩
  · rintro ⟨y, h1, rfl⟩
    obtain ⟨j, hj, e⟩ := List.getElem_of_mem h1
    rw [nth_get hj] at e
    have := hr j hj
    rw [e] at this
    refine ⟨(mvF v t s y).toNat, ?_, by omega⟩
    rw [List.mem_filter]
    refine ⟨by simp [List.mem_range'_1]; omega, (hk _).2 ⟨j, hj, by rw [e]⟩⟩
theorem tur_mv {v : Nat} {t : Nat} {s : Int} {l : List Int} (s' : RingOk v l) (hg : Nat.gcd t v = 1) (hs : 0 ≤ s) : turL v t s l = mvL v t s l := by
  have hv := s'.v2
  have hp : ∀ i, i < l.length → 0 ≤ nth l i * (t : Int) + s := fun i hi => by
    have := Int.mul_nonneg (s'.rng i hi).1 (show (0 : Int) ≤ t by omega)
    omega
  have nd : (l.map (mvF v t s)).Nodup := by
    rw [List.nodup_iff_pairwise_ne, List.pairwise_map, List.pairwise_iff_getElem]
    intro i j hi hj hij h
    rw [nth_get hi, nth_get hj] at h
    have := mvF_inj hg hs (s'.rng i hi) (s'.rng j hj) h
    have := s'.lt hij hj
    omega
  have sl := turF_sorted (turS l (mvF v t s) l.length 0 (List.replicate v false)) v 0
  have pm : (turL v t s l).Perm (l.map (mvF v t s)) := (List.perm_ext_iff_of_nodup (lt_nodup sl) nd).2 fun x => mem_turL (by omega) hp x
  exact sorted_uniq (sl.imp fun h => by omega) (sortI_sorted _) (pm.trans (sortI_perm _).symm)
end Go.Proofs.YtofceaeboboflaaDoor

/-
  STRAPS (24): Multipliers, and the specification's. Conditions: none.
-/
namespace Go.Proofs.YtofceaeboboflaaDoor
open Go.AM
open Go.Proofs.Tryd (prog)
set_option linter.all false
set_option maxRecDepth 100000
set_option maxHeartbeats 4000000

def fndF (v : Nat) (t : Int) (l : List Int) (k b : Nat) : Bool := (List.range' b k).any fun b : Nat => decide (mvL v t (b : Int) l = l)
theorem fndF_succ (v : Nat) (t : Int) (l : List Int) (k b : Nat) : fndF v t l (k + 1) b = (decide (mvL v t (b : Int) l = l) || fndF v t l k (b + 1)) := by simp [fndF, List.range'_succ]
theorem mvL_len (v t s : Int) (l : List Int) : (mvL v t s l).length = l.length := by rw [mvL, sortI_len, List.length_map]
theorem RingOk.rng31 {v : Int} {l : List Int} (s : RingOk v l) : ∀ i, i < l.length → 0 ≤ nth l i ∧ nth l i < 31 := fun i hi => by
  have := s.rng i hi; have := s.v31; omega
theorem mul_in {w uw : AV} {v : Nat} {l : List Int} (hv : IsInts w l) (s : RingOk v l) {t : Int} (ht : 0 ≤ t ∧ t ≤ 31) (ulen i : Int) (hi : I64 (i + 1)) (oid : Nat) (acc : List Int) (hacc : acc.length ≤ 1000) (K : List Item) : ∀ (k b : Nat) (m : Mem), b + k = v → OutI m oid acc →
    ∃ oid' m', OutI m' oid' (if fndF v t l k b = true then acc ++ [t] else acc) ∧ strap_Multipliers.L2 (.int .i64 v) w (outI oid acc) (.int .i64 t) uw (.int .i64 ulen) (.int .i64 i) (.int .i64 v) (.int .i64 b) m (.inBlock 1 :: .code strap_Multipliers.r14 :: .inLoop strap_Multipliers.l0 :: .inBlock 0 :: K) =
      strap_Multipliers.L0 (.int .i64 v) w (outI oid' (if fndF v t l k b = true then acc ++ [t] else acc)) uw (.int .i64 ulen) (.int .i64 (i + 1)) m' K := by
  intro k
  have hfew := s.few
  have hpos := s.pos
  have hv2 := s.v2
  have hv31 := s.v31
  have hwi : IntKind.wrap .i64 (i + 1) = i + 1 := wrap_id hi.1 (by have := hi.2; omega)
  induction k with
  | zero =>
    intro b m h1 ho
    have e : b = v := by omega
    subst e
    refine ⟨oid, m, ho, ?_⟩
    rw [strap_Multipliers.L2_eq]
    simp [hwi, fndF]
    done
  | succ k ih =>
    intro b m h1 ho
    have hb : b < v := by omega
    have hw : IntKind.wrap .i64 ((b : Int) + 1) = (b : Int) + 1 := wrap_id (by omega) (by omega)
    have hm := fun m => moved_spec (v := (v : Int)) (t := t) (s := (b : Int)) hv hfew hpos s.rng31 (by omega) ht (by omega) m
    have hml := mvL_len v t b l
    have he := fun m => equal_spec (wa := .fsl false l.length (ints (mvL v t b l))) (wb := w) (a := mvL v t b l) (b := l) (.inr ⟨false, by rw [hml]⟩) hv hml (by omega) m
    rw [fndF_succ]
    by_cases q : mvL v t b l = l
    · rw [decide_eq_true q] at he
      obtain ⟨oid', m', g1, g2, _⟩ := outI_appT ho (by omega) t
      refine ⟨oid', m', by rw [decide_eq_true q, Bool.true_or, if_pos rfl]; exact g2, ?_⟩
      rw [decide_eq_true q, Bool.true_or, if_pos rfl, strap_Multipliers.L2_eq]
      simp [hb, hv.closed, hm, he, g1, hwi]
      done
    · rw [decide_eq_false q] at he
      obtain ⟨oid', m', g1, g2⟩ := ih (b + 1) m (by omega) ho
      simp only [Int.natCast_add, Int.cast_ofNat_Int] at g2
      refine ⟨oid', m', by rw [decide_eq_false q, Bool.false_or]; exact g1, ?_⟩
      rw [decide_eq_false q, Bool.false_or, ← g2, strap_Multipliers.L2_eq]
      simp [hb, hv.closed, hm, he, hw]
      done
theorem mul_out {w uw : AV} {v : Nat} {l T : List Int} (hv : IsInts w l) (hu : IsInts uw T) (hT : ∀ i, i < T.length → 0 ≤ nth T i ∧ nth T i ≤ 31) (hTl : T.length ≤ 31) (s : RingOk v l) : ∀ (k i oid : Nat) (acc : List Int) (m : Mem), i + k = T.length → acc.length ≤ i → OutI m oid acc →
    strap_Multipliers.L0 (.int .i64 v) w (outI oid acc) uw (.int .i64 T.length) (.int .i64 i) m [.code strap_Multipliers.r15, .code .ret] = some (.tup [intsV (acc ++ (T.drop i).filter fun t => fndF v t l v 0), .int .i64 0], Mem.empty) := by
  intro k
  induction k with
  | zero =>
    intro i oid acc m h1 ha ho
    have e : i = T.length := by omega
    subst e
    have hd := outI_deep ho
    rw [strap_Multipliers.L0_eq]
    simp [hd]
    done
  | succ k ih =>
    intro i oid acc m h1 ha ho
    have hi : i < T.length := by omega
    obtain ⟨oid', m', g1, g2⟩ := mul_in (uw := uw) hv s (hT i hi) T.length i ⟨by omega, by omega⟩ oid acc (by omega) [.code strap_Multipliers.r15, .code .ret] v 0 m (by omega) ho
    simp only [Int.ofNat_zero, Int.cast_ofNat_Int] at g2
    rw [drop_nth hi, List.filter_cons]
    cases q : fndF v (nth T i) l v 0 with
    | true =>
      rw [q, if_pos rfl] at g1 g2
      have hst := ih (i + 1) oid' (acc ++ [nth T i]) m' (by omega) (by simp; omega) g1
      simp only [Int.natCast_add, Int.cast_ofNat_Int] at hst
      rw [if_pos rfl, strap_Multipliers.L0_eq]
      simp [hi, hu.idx hi, ints_head hi, g2, hst]
      done
    | false =>
      rw [q, if_neg (by decide)] at g1 g2
      have hst := ih (i + 1) oid' acc m' (by omega) (by omega) g1
      simp only [Int.natCast_add, Int.cast_ofNat_Int] at hst
      rw [if_neg (by decide), strap_Multipliers.L0_eq]
      simp [hi, hu.idx hi, ints_head hi, g2, hst]
      done
def multsL (v : Nat) (l : List Int) : List Int := (unitsL v).filter fun t => fndF v t l v 0
theorem mem_uniF {v k i : Nat} {x : Int} (h : x ∈ uniF v k i) : ∃ t : Nat, x = t ∧ i ≤ t ∧ t < i + k ∧ Nat.gcd t v = 1 := by
  rw [uniF, List.mem_map] at h
  obtain ⟨t, h1, rfl⟩ := h
  rw [List.mem_filter] at h1
  have h2 := h1.1
  simp [List.mem_range'_1] at h2
  exact ⟨t, rfl, h2.1, h2.2, by simpa using h1.2⟩
theorem unitsL_few (v : Nat) : (unitsL v).length ≤ v := by
  have := List.length_filter_le (fun t => decide (Nat.gcd t v = 1)) (List.range' 0 v)
  simp only [unitsL, uniF, List.length_map]; simpa using this
theorem unitsL_rng {v : Nat} (hv : v ≤ 31) : ∀ i, i < (unitsL v).length → 0 ≤ nth (unitsL v) i ∧ nth (unitsL v) i ≤ 31 := fun i hi => by
  obtain ⟨t, e, _, h2, _⟩ := mem_uniF (v := v) (k := v) (i := 0) (x := nth (unitsL v) i) (nth_mem hi)
  rw [e]
  omega
theorem mults_spec {w : AV} {v : Nat} {l : List Int} (hv : IsInts w l) (s : RingOk v l) (hr : ∀ m, denC prog ann 14 [.int .i64 v, w] m = some (.int .i64 0, m)) (m : Mem) :
    denC prog ann 8 [.int .i64 v, w] m = some (.tup [intsV (multsL v l), .int .i64 0], m) := by
  have hcl : closedL [.int .i64 v, w] = true := by simp [hv.closed]
  have hv31 := s.v31
  have hu := intsV_is (unitsL v)
  have hf := unitsL_few v
  have lp := mul_out hv hu (unitsL_rng (by omega)) (by omega) s (unitsL v).length 0 0 [] Mem.empty (by omega) (Nat.le_refl _) (fun h => absurd rfl h)
  rw [show outI 0 [] = .nils from rfl, List.nil_append, List.drop_zero] at lp
  simp only [Int.ofNat_zero, Int.cast_ofNat_Int] at lp
  have hus := fun m => units_spec (v := v) (by omega) m
  rw [strap_Multipliers.call_eq _ _ _ hcl]
  simp [hv.closed, hr, hus, hu.len, lp, multsL]
  done
end Go.Proofs.YtofceaeboboflaaDoor

/-
  STRAPS (25): the specification's Multipliers. Conditions: none.
-/
namespace Go.Proofs.YtofceaeboboflaaDoor
open Go.AM
open Go.Proofs.Tryd (prog)
set_option linter.all false
set_option maxRecDepth 100000
set_option maxHeartbeats 4000000

def rmL (v : Nat) (l : List Int) (k t : Nat) : List Int := (uniF v k t).filter fun t => fndF v t l v 0
end Go.Proofs.YtofceaeboboflaaDoor

/-
  STRAPS (26): slices.Compare. Conditions: none.
-/
namespace Go.Proofs.YtofceaeboboflaaDoor
open Go.AM
open Go.Proofs.Tryd (prog)
set_option linter.all false
set_option maxRecDepth 100000
set_option maxHeartbeats 4000000

def cmpI (x y : Int) : Int := if x < y then -1 else if y < x then 1 else 0
def cmpV (a b : List Int) : Int := if lexLt a b = true then -1 else if a = b then 0 else 1
end Go.Proofs.YtofceaeboboflaaDoor

/-
  STRAPS (27): the least set that a set becomes. Conditions: none.
-/
namespace Go.Proofs.YtofceaeboboflaaDoor
open Go.AM
open Go.Proofs.Tryd (prog)
set_option linter.all false
set_option maxRecDepth 100000
set_option maxHeartbeats 4000000

def cStep (v : Nat) (t : Int) (l best : List Int) (s : Nat) : List Int := if lexLt (mvL v t (s : Int) l) best = true then mvL v t (s : Int) l else best
def cF (v : Nat) (t : Int) (l : List Int) (k s : Nat) (best : List Int) : List Int := (List.range' s k).foldl (cStep v t l) best
def cT (v : Nat) (l : List Int) (T : List Int) (best : List Int) : List Int := T.foldl (fun b t => cF v t l v 0 b) best
def canonL (v : Nat) (l : List Int) : List Int := cT v l (unitsL v) l
end Go.Proofs.YtofceaeboboflaaDoor

/-
  STRAPS (29): what a set becomes, multiplied and moved, is an orbit; its least set does not hang on which one of them it is asked for. Conditions: none.
-/
namespace Go.Proofs.YtofceaeboboflaaDoor
open Go.AM
set_option linter.all false
set_option maxRecDepth 100000
set_option maxHeartbeats 4000000

theorem RingOk.mem {v : Int} {l : List Int} (s : RingOk v l) {x : Int} (h : x ∈ l) : 0 ≤ x ∧ x < v := by
  obtain ⟨i, hi, rfl⟩ := List.getElem_of_mem h
  have := s.rng i hi
  simpa [nth, List.getD, hi] using this
theorem RingOk.pw {v : Int} {l : List Int} (s : RingOk v l) : l.Pairwise (· < ·) := by
  rw [List.pairwise_iff_getElem]
  intro i j hi hj hij
  have := s.lt hij hj
  simpa [nth, List.getD, hi, hj] using this
theorem ring_of {v : Int} {l : List Int} (h2 : 2 ≤ v) (h31 : v ≤ 31) (hp : 0 < l.length) (hf : l.length ≤ 31) (hm : ∀ x ∈ l, 0 ≤ x ∧ x < v) (hs : l.Pairwise (· < ·)) : RingOk v l := by
  refine ⟨h2, h31, hp, hf, fun i hi => ?_, fun i hi => ?_⟩
  · have : nth l i = l[i] := by simp [nth, List.getD, hi]
    rw [this]; exact hm _ (List.getElem_mem hi)
  · have h1 := List.pairwise_iff_getElem.1 hs i (i + 1) (by omega) hi (by omega)
    have : i < l.length := by omega
    simpa [nth, List.getD, hi, this] using h1
theorem sort_lt {l : List Int} (h : l.Nodup) : (sortI l).Pairwise (· < ·) := by
  have h1 := sortI_sorted l
  have h2 : (sortI l).Nodup := (sortI_perm l).nodup_iff.2 h
  have h3 := h1.and h2
  exact h3.imp fun ⟨a, b⟩ => by omega
theorem mem_mvL {v t s x : Int} {l : List Int} : x ∈ mvL v t s l ↔ ∃ y ∈ l, mvF v t s y = x := by
  rw [mvL, (sortI_perm _).mem_iff, List.mem_map]
theorem mv_pos {v : Nat} {t : Nat} {s x : Int} (hs : 0 ≤ s) (hx : 0 ≤ x) : 0 ≤ x * (t : Int) + s := by
  have := Int.mul_nonneg hx (by omega : 0 ≤ (t : Int)); omega
theorem ring_mv {v t : Nat} {s : Int} {l : List Int} (r : RingOk v l) (hg : Nat.gcd t v = 1) (hs : 0 ≤ s) : RingOk v (mvL v t s l) := by
  have hv := r.v2
  have h31 := r.v31
  have hp := r.pos
  have hf := r.few
  refine ring_of hv h31 (by rw [mvL_len]; omega) (by rw [mvL_len]; omega) (fun x hx => ?_) (sort_lt ?_)
  · obtain ⟨y, hy, rfl⟩ := mem_mvL.1 hx
    have := r.mem hy
    have := mvF_rng (v := v) (by omega) (mv_pos (v := v) (t := t) hs this.1)
    exact ⟨this.1, this.2.1⟩
  · rw [List.nodup_iff_pairwise_ne, List.pairwise_map]
    refine r.pw.imp_of_mem fun {a b} ha hb hab e => ?_
    have := mvF_inj hg hs (r.mem ha) (r.mem hb) e
    omega
theorem ring_eq {v : Int} {a b : List Int} (ra : RingOk v a) (rb : RingOk v b) (h : ∀ x, x ∈ a ↔ x ∈ b) : a = b := by
  have na : a.Nodup := ra.pw.imp fun h e => by omega
  have nb : b.Nodup := rb.pw.imp fun h e => by omega
  exact sorted_uniq (ra.pw.imp fun h => by omega) (rb.pw.imp fun h => by omega) ((List.perm_ext_iff_of_nodup na nb).2 h)
theorem mvF_comp {v t t' : Nat} {s s' x : Int} (hv : 0 < v) (hs : 0 ≤ s) (hs' : 0 ≤ s') (hx : 0 ≤ x) : mvF v t' s' (mvF v t s x) = mvF v ((t * t' % v : Nat) : Int) ((s * t' + s') % v) x := by
  have p1 := mvF_rng (v := v) hv (mv_pos (v := v) (t := t) hs hx)
  have p2 := mvF_rng (v := v) hv (mv_pos (v := v) (t := t') hs' p1.1)
  have p4 : 0 ≤ (s * (t' : Int) + s') % v := Int.emod_nonneg _ (by omega)
  have p3 := mvF_rng (v := v) hv (mv_pos (v := v) (t := t * t' % v) p4 hx)
  rw [p2.2.2, p3.2.2, p1.2.2]
  rw [Int.natCast_emod, Int.natCast_mul]
  rw [Int.add_emod (((x * t + s) % v) * (t' : Int)) s', Int.mul_emod ((x * (t : Int) + s) % v) t', Int.emod_emod, ← Int.mul_emod, ← Int.add_emod]
  rw [Int.add_emod (x * ((t : Int) * t' % v)) ((s * (t' : Int) + s') % v), Int.emod_emod, Int.mul_emod x ((t : Int) * t' % v), Int.emod_emod, ← Int.mul_emod, ← Int.add_emod]
  congr 1
  rw [Int.add_mul, Int.mul_assoc, Int.add_assoc]
theorem gcd_mulmod {v t t' : Nat} (h : Nat.gcd t v = 1) (h' : Nat.gcd t' v = 1) : Nat.gcd (t * t' % v) v = 1 := by
  rw [← Nat.gcd_rec, Nat.gcd_comm]
  exact Nat.Coprime.mul_left h h'
theorem mvL_comp {v t t' : Nat} {s s' : Int} {l : List Int} (r : RingOk v l) (hg : Nat.gcd t v = 1) (hg' : Nat.gcd t' v = 1) (hs : 0 ≤ s) (hs' : 0 ≤ s') : mvL v t' s' (mvL v t s l) = mvL v ((t * t' % v : Nat) : Int) ((s * t' + s') % v) l := by
  have hv : 0 < v := by have := r.v2; omega
  have p4 : 0 ≤ (s * (t' : Int) + s') % v := Int.emod_nonneg _ (by omega)
  refine ring_eq (v := v) (ring_mv (ring_mv r hg hs) hg' hs') (ring_mv r (gcd_mulmod hg hg') p4) fun x => ?_
  rw [mem_mvL, mem_mvL]
  constructor
  · rintro ⟨y, hy, rfl⟩
    obtain ⟨z, hz, rfl⟩ := mem_mvL.1 hy
    exact ⟨z, hz, (mvF_comp hv hs hs' (r.mem hz).1).symm⟩
  · rintro ⟨z, hz, rfl⟩
    exact ⟨_, mem_mvL.2 ⟨z, hz, rfl⟩, mvF_comp hv hs hs' (r.mem hz).1⟩
theorem mvL_one {v : Nat} {l : List Int} (r : RingOk v l) : mvL v 1 0 l = l := by
  have hv : 0 < v := by have := r.v2; omega
  have key : ∀ y ∈ l, mvF v ((1 : Nat) : Int) 0 y = y := fun y hy => by
    have m := r.mem hy
    rw [(mvF_rng (v := v) hv (mv_pos (v := v) (t := 1) (Int.le_refl 0) m.1)).2.2]
    rw [show y * ((1 : Nat) : Int) + 0 = y by omega]
    exact Int.emod_eq_of_lt m.1 m.2
  refine ring_eq (v := v) (ring_mv (t := 1) r (by simp) (Int.le_refl 0)) r fun x => ?_
  rw [mem_mvL]
  constructor
  · rintro ⟨y, hy, rfl⟩
    have e : mvF v 1 0 y = y := key y hy
    rw [e]; exact hy
  · intro h
    exact ⟨x, h, key x h⟩
def invB (v t : Nat) : Bool := !(decide (Nat.gcd t v = 1)) || (List.range v).any fun u => decide (Nat.gcd u v = 1) && decide (t * u % v = 1)
theorem inv_all : ((List.range 32).all fun v => decide (v < 2) || (List.range v).all fun t => invB v t) = true := by decide +kernel
theorem inv_ex {v t : Nat} (h2 : 2 ≤ v) (h31 : v ≤ 31) (ht : t < v) (hg : Nat.gcd t v = 1) : ∃ u, u < v ∧ Nat.gcd u v = 1 ∧ t * u % v = 1 := by
  have h := List.all_eq_true.1 inv_all v (List.mem_range.2 (by omega))
  rw [Bool.or_eq_true] at h
  rcases h with h' | h'
  · simp at h'; omega
  · have h3 := List.all_eq_true.1 h' t (List.mem_range.2 ht)
    unfold invB at h3
    simp only [hg, decide_true, Bool.not_true, Bool.false_or, List.any_eq_true, List.mem_range, Bool.and_eq_true, decide_eq_true_eq] at h3
    exact h3
/-- What it may become. -/
def Orb (v : Nat) (l o : List Int) : Prop := ∃ t : Nat, ∃ s : Int, t < v ∧ Nat.gcd t v = 1 ∧ 0 ≤ s ∧ s < v ∧ o = mvL v t s l
theorem Orb.ring {v : Nat} {l o : List Int} (r : RingOk v l) (h : Orb v l o) : RingOk v o := by
  obtain ⟨t, s, h1, h2, h3, h4, rfl⟩ := h
  exact ring_mv r h2 h3
theorem Orb.trans {v : Nat} {l o p : List Int} (r : RingOk v l) (h : Orb v l o) (k : Orb v o p) : Orb v l p := by
  obtain ⟨t, s, h1, h2, h3, h4, rfl⟩ := h
  obtain ⟨t', s', k1, k2, k3, k4, rfl⟩ := k
  have hv : 0 < v := by omega
  exact ⟨t * t' % v, (s * t' + s') % v, Nat.mod_lt _ hv, gcd_mulmod h2 k2, Int.emod_nonneg _ (by omega), Int.emod_lt_of_pos _ (by omega), mvL_comp r h2 k2 h3 k3⟩
theorem Orb.symm {v : Nat} {l o : List Int} (r : RingOk v l) (h : Orb v l o) : Orb v o l := by
  obtain ⟨t, s, h1, h2, h3, h4, rfl⟩ := h
  have hv2 := r.v2
  have hv31 := r.v31
  obtain ⟨u, u1, u2, u3⟩ := inv_ex (by omega) (by omega) h1 h2
  have p : 0 ≤ (-(s * u)) % (v : Int) := Int.emod_nonneg _ (by omega)
  refine ⟨u, (-(s * u)) % v, u1, u2, p, Int.emod_lt_of_pos _ (by omega), ?_⟩
  rw [mvL_comp r h2 u2 h3 p, u3]
  have e : (s * (u : Int) + -(s * u) % v) % v = 0 := by
    rw [Int.add_emod, Int.emod_emod, ← Int.add_emod]
    rw [show s * (u : Int) + -(s * u) = 0 by omega]; rfl
  rw [e]
  exact (mvL_one r).symm
/-! ### Multipliers -/
theorem fnd_iff {v : Nat} {t : Int} {l : List Int} : fndF v t l v 0 = true ↔ ∃ s : Int, 0 ≤ s ∧ s < v ∧ mvL v t s l = l := by
  unfold fndF
  rw [List.any_eq_true]
  constructor
  · rintro ⟨b, hb, h⟩
    simp [List.mem_range'_1] at hb
    exact ⟨b, by omega, by omega, by simpa using h⟩
  · rintro ⟨s, h1, h2, h3⟩
    refine ⟨s.toNat, by simp [List.mem_range'_1]; omega, ?_⟩
    rw [show ((s.toNat : Nat) : Int) = s by omega]
    simpa using h3
end Go.Proofs.YtofceaeboboflaaDoor

/-
  STRAPS (30): a set that is read off the bits of a number. Conditions: none.
-/
namespace Go.Proofs.YtofceaeboboflaaDoor
open Go.AM
open Go.Proofs.Tryd (prog)
set_option linter.all false
set_option maxRecDepth 100000
set_option maxHeartbeats 4000000

theorem bit_ex (x : Int) (d : Nat) : ∃ (b : Bool), ∃ (y z : AV), binA prog .shr 22 (.int .u32 x) (.int .i64 (d : Int)) = some y ∧ binA prog .and 22 y (.int .u32 1) = some z ∧ binA prog .eql 22 z (.int .u32 1) = some (.bool b) := by
  have h1 : binA prog .shr 22 (.int .u32 x) (.int .i64 (d : Int)) = some (.int .u32 (x.fdiv (2 ^ min (d : Int).toNat (IntKind.bits .u32)))) := by
    rw [binA_shr, show decide ((d : Int) < 0) = false from decide_eq_false (by omega)]; rfl
  generalize x.fdiv (2 ^ min (d : Int).toNat (IntKind.bits .u32)) = y at h1
  have h2 := binA_and prog 50 .u32 y 1
  generalize IntKind.wrap .u32 (((BitVec.ofInt (IntKind.bits .u32) y &&& BitVec.ofInt (IntKind.bits .u32) 1).toNat : Nat) : Int) = z at h2
  exact ⟨_, _, _, h1, h2, binA_eql prog 50 .u32 z 1⟩
/-- Is the bit set? -/
noncomputable def sb (x : Int) (d : Nat) : Bool := (bit_ex x d).choose
noncomputable def setF (x : Int) (k i : Nat) : List Int := ((List.range' i k).filter fun t => sb x t).map fun t : Nat => (t : Int)
theorem ring_err {w : AV} {l : List Int} (hv : IsInts w l) {v : Int} (s : RingOk v l) : ∀ m, denC prog ann 14 [.int .i64 v, w] m = some (.int .i64 0, m) := by
  obtain ⟨e, he, hr⟩ := ring_spec hv (by have := s.few; omega) v
  have := he.uniq (.ok s)
  subst this
  exact hr
theorem gcd_last : ((List.range 32).all fun v => decide (v < 2) || decide (Nat.gcd (v - 1) v = 1)) = true := by decide +kernel
theorem gcd_pred {v : Nat} (h2 : 2 ≤ v) (h31 : v ≤ 31) : Nat.gcd (v - 1) v = 1 := by
  have h := List.all_eq_true.1 gcd_last v (List.mem_range.2 (by omega))
  rw [Bool.or_eq_true] at h
  rcases h with h | h
  · simp at h; omega
  · simpa using h
end Go.Proofs.YtofceaeboboflaaDoor

/-
  STRAPS (13): the code that counts the differences. Conditions: none.
-/
namespace Go.Proofs.YtofceaeboboflaaDoor
open Go.AM
open Go.Proofs.Tryd (prog)
set_option linter.all false
set_option maxRecDepth 100000
set_option maxHeartbeats 4000000

theorem rem_nat {v : Int} {l : List Int} (s : RingOk v l) {i j : Nat} (hi : i < l.length) (hj : j < l.length) : ∃ d : Nat, (nth l i - nth l j + v).tmod v = d ∧ (d : Int) < v := by
  have a := s.rng i hi
  have b := s.rng j hj
  have h := s.v2
  have e := Int.tmod_eq_emod_of_nonneg (a := nth l i - nth l j + v) (b := v) (by omega)
  have h1 := Int.emod_nonneg (nth l i - nth l j + v) (show v ≠ 0 by omega)
  have h2 := Int.emod_lt_of_pos (nth l i - nth l j + v) (show 0 < v by omega)
  exact ⟨((nth l i - nth l j + v) % v).toNat, by rw [e]; omega, by omega⟩
theorem df_in {w : AV} {v : Int} {l : List Int} (hv : IsInts w l) (s : RingOk v l) {i : Nat} (hi : i < l.length) (oid : Nat) (K : List Item) : ∀ (k j : Nat) (c : List Int) (m : Mem), j + k = l.length → m.h oid = some (.cells (ints c)) → c.length = v.toNat → Small c (1000000 + j) →
    ∃ m', m'.h oid = some (.cells (ints (dfF l v i k j c))) ∧ strap_differences.L2 (.int .i64 v) w (.sl oid 1 0 c.length c.length) (.int .i64 (nth l i)) w (.int .i64 l.length) (.int .i64 i) w (.int .i64 l.length) (.int .i64 j) m (.inBlock 1 :: .code strap_differences.r11 :: .inLoop strap_differences.l0 :: .inBlock 0 :: K) = strap_differences.L0 (.int .i64 v) w (.sl oid 1 0 c.length c.length) w (.int .i64 l.length) (.int .i64 ((i : Int) + 1)) m' K := by
  intro k
  have hfew := s.few
  have hv2 := s.v2
  have hv31 := s.v31
  have hwi : IntKind.wrap .i64 ((i : Int) + 1) = (i : Int) + 1 := wrap_id (by omega) (by omega)
  induction k with
  | zero =>
    intro j c m h1 hm hc hs
    have e : j = l.length := by omega
    subst e
    refine ⟨m, hm, ?_⟩
    rw [strap_differences.L2_eq]
    simp [hwi]
    done
  | succ k ih =>
    intro j c m h1 hm hc hs
    have hj : j < l.length := by omega
    have hw : IntKind.wrap .i64 ((j : Int) + 1) = (j : Int) + 1 := wrap_id (by omega) (by omega)
    by_cases e : i = j
    · subst e
      have hst := ih (i + 1) c m (by omega) hm hc (fun g => by have := hs g; omega)
      simp only [Int.natCast_add, Int.cast_ofNat_Int] at hst
      obtain ⟨m', g1, g2⟩ := hst
      refine ⟨m', by rw [dfF_succ, if_pos rfl]; exact g1, ?_⟩
      rw [strap_differences.L2_eq]
      simp [hj, hv.idx hj, ints_head hj, hwi, g2]
      done
    · have a1 := s.rng i hi
      have a2 := s.rng j hj
      have hne : ¬ nth l i = nth l j := fun h => e ((s.ne hi hj).1 h)
      obtain ⟨d, hd, hdv⟩ := rem_nat s hi hj
      have hw1 : IntKind.wrap .i64 (nth l i - nth l j) = nth l i - nth l j := wrap_id (by omega) (by omega)
      have hw2 : IntKind.wrap .i64 (nth l i - nth l j + v) = nth l i - nth l j + v := wrap_id (by omega) (by omega)
      have hv0 : ¬ v = 0 := by omega
      have hdl : d < c.length := by omega
      have hs2 := hs d
      have hwc : IntKind.wrap .i64 (nth c d + 1) = nth c d + 1 := wrap_id (by omega) (by omega)
      have hst := fun m hm => ih (j + 1) (bump c d) m (by omega) hm (by rw [bump_len, hc]) (by have := hs.bump (by omega) d; rwa [show (1000000 + (j : Int) + 1) = 1000000 + ((j + 1 : Nat) : Int) by omega] at this)
      rw [bump_len] at hst
      simp only [Int.natCast_add, Int.cast_ofNat_Int] at hst
      have hc' : c.set d (nth c d + 1) = bump c d := rfl
      obtain ⟨m', g1, g2⟩ := hst ⟨upd m.h oid (some (.cells (ints (bump c d)))), m.nx⟩ (by simp)
      refine ⟨m', by rw [dfF_succ, if_neg e, hd]; exact g1, ?_⟩
      rw [strap_differences.L2_eq]
      simp [hj, hv.idx hj, ints_head hj, hne, hw1, hw2, hv0, hd, hdl, hm, hwc, hw, hc', g2]
      done
theorem df_out {w : AV} {v : Int} {l : List Int} (hv : IsInts w l) (s : RingOk v l) (oid : Nat) : ∀ (k i : Nat) (c : List Int) (m : Mem), i + k = l.length → m.h oid = some (.cells (ints c)) → c.length = v.toNat → Small c (1000 * i) →
    strap_differences.L0 (.int .i64 v) w (.sl oid 1 0 c.length c.length) w (.int .i64 l.length) (.int .i64 i) m [.code strap_differences.r12, .code .ret] = some (intsV (dfO l v k i c), Mem.empty) := by
  intro k
  have hfew := s.few
  have hv2 := s.v2
  induction k with
  | zero =>
    intro i c m h1 hm hc hs
    have e : i = l.length := by omega
    subst e
    have hne : c ≠ [] := by intro e; rw [e] at hc; simp at hc; omega
    rw [strap_differences.L0_eq]
    simp [intsV, hne, dfO, hm]
    done
  | succ k ih =>
    intro i c m h1 hm hc hs
    have hi : i < l.length := by omega
    have hw : IntKind.wrap .i64 ((i : Int) + 1) = (i : Int) + 1 := wrap_id (by omega) (by omega)
    obtain ⟨m', g1, g2⟩ := df_in hv s hi oid [.code strap_differences.r12, .code .ret] l.length 0 c m (by omega) hm hc (fun g => by have := hs g; omega)
    simp only [Int.ofNat_zero, Int.cast_ofNat_Int] at g2
    have hst := ih (i + 1) (dfF l v i l.length 0 c) m' (by omega) g1 (by rw [dfF_len, hc]) (by
      have := hs.dfF (l := l) (v := v) (i := i) (k := l.length) (j := 0) (by omega)
      intro g; have := this g; omega)
    simp only [Int.natCast_add, Int.cast_ofNat_Int, dfF_len] at hst
    rw [strap_differences.L0_eq]
    simp [hi, hv.idx hi, ints_head hi, hv.len, g2, hst, dfO_succ]
    done
theorem diffs_spec {w : AV} {v : Int} {l : List Int} (hv : IsInts w l) (s : RingOk v l) (m : Mem) : denC prog ann 21 [.int .i64 v, w] m = some (intsV (diffs v l), m) := by
  have hcl : closedL [.int .i64 v, w] = true := by simp [hv.closed]
  have hv2 := s.v2
  have hv31 := s.v31
  obtain ⟨t, ht⟩ : ∃ t : Nat, v = t := ⟨v.toNat, by omega⟩
  have e : v.toNat = t := by omega
  rw [diffs, e]
  have lp := df_out hv s 0 l.length 0 (List.replicate t 0) ⟨upd Mem.empty.h 0 (some (.cells (List.replicate t (AV.int .i64 0)))), 1⟩ (by omega) (by simp [ints]) (by simp [e]) (fun g => by rw [nth_zero']; omega)
  simp only [Int.ofNat_zero, Int.cast_ofNat_Int, List.length_replicate] at lp
  rw [strap_differences.call_eq _ _ _ hcl]
  subst ht
  simp [hv.len, show t ≤ 4611686018427387904 by omega, show t * 8 ≤ 70368744177664 by omega, lp]
  done

end Go.Proofs.YtofceaeboboflaaDoor

/-
  STRAPS (10): Single, and the specification's. Conditions: none.
-/
namespace Go.Proofs.YtofceaeboboflaaDoor
open Go.AM
open Go.Proofs.Tryd (prog)
set_option linter.all false
set_option maxRecDepth 100000
set_option maxHeartbeats 4000000

def endsAt (L : Int) (l : List Int) : Bool := decide (top l = L)
/-- Length after length. -/
def sngS (k : Nat) : Nat → Int → Option (List Int)
  | 0, _ => none
  | n + 1, L => match findF gSingle (endsAt L) L (k - 1) [0] with
    | some r => some r
    | none => sngS k n (L + 1)
/-! ### The specification's -/
def rsF (L : Int) : Nat → List Int → Option (List Int)
  | 0, l => if (tw0 l l.length 0 []).isEmpty = true then (if top l = L then some l else none) else none
  | f + 1, l => if (tw0 l l.length 0 []).isEmpty = true then firstF (rsF L f) l (L - top l).toNat (top l + 1) else none
def rsS (k : Nat) : Nat → Int → Option (List Int)
  | 0, _ => none
  | n + 1, L => match rsF L (k - 1) [0] with
    | some r => some r
    | none => rsS k n (L + 1)
end Go.Proofs.YtofceaeboboflaaDoor

/-
  STRAPS (11): Full, and the specification's. Conditions: none.
-/
namespace Go.Proofs.YtofceaeboboflaaDoor
open Go.AM
open Go.Proofs.Tryd (prog)
set_option linter.all false
set_option maxRecDepth 100000
set_option maxHeartbeats 4000000

theorem drop_ints {v : AV} {l : List Int} (h : IsInts v l) (h1 : 1 ≤ l.length) : ∃ v', sliceSl 1 v (some (.int .i64 1)) none = some v' ∧ IsInts v' (l.drop 1) := by
  rcases h with ⟨rfl, rfl⟩ | ⟨ex, rfl⟩
  · simp at h1
  · exact ⟨.fsl ex (l.length - 1) (ints (l.drop 1)), by
      have h2 : (1 : Int) ≤ l.length := by omega
      have h3 : (l.drop 1).take (l.length - 1) = l.drop 1 := List.take_of_length_le (by simp)
      rw [List.drop_one] at h3
      simp [sliceSl, bnds, bnd, h2, h3], .inr ⟨ex, by simp⟩⟩
def always (_ : List Int) : Bool := true
def fullAt (L : Int) (l : List Int) : Bool := decide (top l = L) && !decide ((0 : Int) ∈ (counts l).drop 1)
def flS (L : Int) : Nat → Nat → Option (List Int)
  | 0, _ => none
  | n + 1, size => if ((size : Int) * ((size : Int) - 1)).tdiv 2 < L then flS L n (size + 1) else match findF always (fullAt L) L (size - 1) [0] with
    | some r => some r
    | none => flS L n (size + 1)
/-! ### The specification's -/
def rfF (L : Int) : Nat → List Int → Option (List Int)
  | 0, l => if top l = L then (if (misses l).length = 0 then some l else none) else none
  | f + 1, l => firstF (rfF L f) l (L - top l).toNat (top l + 1)
def rfS (L : Int) : Nat → Nat → Option (List Int)
  | 0, _ => none
  | n + 1, k => match rfF L (k - 1) [0] with
    | some r => some r
    | none => rfS L n (k + 1)
end Go.Proofs.YtofceaeboboflaaDoor

/-
  STRAPS (14): Even, and the specification's. Conditions: none.
-/
namespace Go.Proofs.YtofceaeboboflaaDoor
open Go.AM
open Go.Proofs.Tryd (prog)
set_option linter.all false
set_option maxRecDepth 100000
set_option maxHeartbeats 4000000

def eqA (c : List Int) (k d : Nat) : Bool := (List.range' d k).all fun g => decide (nth c g = nth c 1)
/-- What the specification's Even hands back. -/
def evenV (c : List Int) (n : Nat) : AV := if eqA c n 1 = true then .tup [.int .i64 (nth c 1), .bool true] else .tup [.int .i64 0, .bool false]
/-! ### The code's -/
def minL (c : List Int) : Int := (c.drop 1).foldl min (nth c 0)
theorem min_loop {w : AV} {c : List Int} (hw0 : IsInts w c) (hcl : c.length ≤ 1001) : ∀ (k i : Nat) (x : Int) (m : Mem), i + k = c.length →
    slices_Min_int.L0 w (.int .i64 x) (.int .i64 i) m [.code slices_Min_int.r8, .code .ret] = some (.int .i64 ((c.drop i).foldl min x), Mem.empty) := by
  intro k
  induction k with
  | zero =>
    intro i x m h1
    have e : i = c.length := by omega
    subst e
    rw [slices_Min_int.L0_eq]
    simp [hw0.len]
    done
  | succ k ih =>
    intro i x m h1
    have hi : i < c.length := by omega
    have hw : IntKind.wrap .i64 ((i : Int) + 1) = (i : Int) + 1 := wrap_id (by omega) (by omega)
    have hst := ih (i + 1) (min x (nth c i)) m (by omega)
    simp only [Int.natCast_add, Int.cast_ofNat_Int] at hst
    rw [drop_nth hi, List.foldl_cons, slices_Min_int.L0_eq]
    simp [hi, hw0.len, hw0.idx hi, ints_head hi, hw, hst]
    done
theorem min_spec {w : AV} {c : List Int} (hw0 : IsInts w c) (hcl : c.length ≤ 1001) (h0 : 0 < c.length) (m : Mem) : denC prog ann 22 [w] m = some (.int .i64 (minL c), m) := by
  have lp := min_loop hw0 hcl (c.length - 1) 1 (nth c 0) Mem.empty (by omega)
  simp only [Int.cast_ofNat_Int] at lp
  have i0 := hw0.idx h0 .i64
  have i1 := ints_head h0
  simp only [Int.ofNat_zero, Int.cast_ofNat_Int, List.drop_zero] at i0 i1
  rw [slices_Min_int.call_eq _ _ (by simp [hw0.closed])]
  have hn : ¬ (c.length : Int) < 1 := by omega
  simp [hw0.len, hn, i0, i1, lp, minL]
  done

theorem foldl_max_ge : ∀ (L : List Int) (x : Int), x ≤ L.foldl max x ∧ ∀ y ∈ L, y ≤ L.foldl max x
  | [], x => ⟨Int.le_refl _, fun _ h => by cases h⟩
  | a :: L, x => by
    obtain ⟨h1, h2⟩ := foldl_max_ge L (max x a)
    refine ⟨by rw [List.foldl_cons]; omega, fun y hy => ?_⟩
    rw [List.foldl_cons]
    rcases List.mem_cons.1 hy with rfl | hy
    · omega
    · exact h2 y hy
theorem foldl_min_le : ∀ (L : List Int) (x : Int), L.foldl min x ≤ x ∧ ∀ y ∈ L, L.foldl min x ≤ y
  | [], x => ⟨Int.le_refl _, fun _ h => by cases h⟩
  | a :: L, x => by
    obtain ⟨h1, h2⟩ := foldl_min_le L (min x a)
    refine ⟨by rw [List.foldl_cons]; omega, fun y hy => ?_⟩
    rw [List.foldl_cons]
    rcases List.mem_cons.1 hy with rfl | hy
    · omega
    · exact h2 y hy
theorem foldl_max_same : ∀ (L : List Int) (x : Int), (∀ y ∈ L, y = x) → L.foldl max x = x
  | [], _, _ => rfl
  | a :: L, x, h => by
    have : a = x := h a (by simp)
    subst this
    rw [List.foldl_cons, Int.max_self]
    exact foldl_max_same L a fun y hy => h y (by simp [hy])
theorem foldl_min_same : ∀ (L : List Int) (x : Int), (∀ y ∈ L, y = x) → L.foldl min x = x
  | [], _, _ => rfl
  | a :: L, x, h => by
    have : a = x := h a (by simp)
    subst this
    rw [List.foldl_cons, Int.min_self]
    exact foldl_min_same L a fun y hy => h y (by simp [hy])
theorem nth_drop (c : List Int) (i j : Nat) : nth (c.drop i) j = nth c (i + j) := by simp [nth, List.getD, List.getElem?_drop]
theorem eqA_iff {c : List Int} {v : Nat} (hc : c.length = v) (hv : 2 ≤ v) : eqA c (v - 1) 1 = true ↔ ∀ y ∈ c.drop 1, y = nth c 1 := by
  rw [eqA, List.all_eq_true]
  constructor
  · intro a y hy
    obtain ⟨i, hi, e⟩ := List.getElem_of_mem hy
    rw [nth_get hi, nth_drop] at e
    simp at hi
    have := a (1 + i) (by simp [List.mem_range'_1]; omega)
    rw [decide_eq_true_eq] at this
    omega
  · intro a g hg
    simp [List.mem_range'_1] at hg
    rw [decide_eq_true_eq]
    refine a _ ?_
    have : g - 1 < (c.drop 1).length := by simp; omega
    have e := nth_drop c 1 (g - 1)
    rw [show 1 + (g - 1) = g by omega] at e
    rw [← e, ← nth_get this]
    exact List.getElem_mem _
theorem minmax {c : List Int} {v : Nat} (hc : c.length = v) (hv : 2 ≤ v) : minL (c.drop 1) = maxL (c.drop 1) ↔ eqA c (v - 1) 1 = true := by
  rw [eqA_iff hc hv]
  have h0 : c.drop 1 = nth c 1 :: c.drop 2 := drop_nth (by omega)
  have hn : nth (c.drop 1) 0 = nth c 1 := by rw [nth_drop]
  have hd : (c.drop 1).drop 1 = c.drop 2 := by rw [List.drop_drop]
  rw [minL, maxL, hn, hd]
  obtain ⟨a1, a2⟩ := foldl_max_ge (c.drop 2) (nth c 1)
  obtain ⟨b1, b2⟩ := foldl_min_le (c.drop 2) (nth c 1)
  constructor
  · intro h y hy
    rw [h0] at hy
    rcases List.mem_cons.1 hy with rfl | hy
    · rfl
    · have := a2 y hy
      have := b2 y hy
      omega
  · intro h
    have h' : ∀ y ∈ c.drop 2, y = nth c 1 := fun y hy => h y (by rw [h0]; simp [hy])
    rw [foldl_max_same _ _ h', foldl_min_same _ _ h']
theorem diffs_len (v : Int) (l : List Int) : (diffs v l).length = v.toNat := by rw [diffs, dfO_len, List.length_replicate]
theorem even_spec {w : AV} {v : Nat} {l : List Int} (hv : IsInts w l) (s : RingOk v l) (hr : ∀ m, denC prog ann 14 [.int .i64 v, w] m = some (.int .i64 0, m)) (m : Mem) :
    denC prog ann 10 [.int .i64 v, w] m = some (if eqA (diffs v l) (v - 1) 1 = true then .tup [.int .i64 (nth (diffs v l) 1), .int .i64 0] else .tup [.int .i64 0, .int .i64 5], m) := by
  have hcl : closedL [.int .i64 v, w] = true := by simp [hv.closed]
  have hv2 := s.v2
  have hv31 := s.v31
  have hlen := diffs_len v l
  rw [Int.toNat_natCast] at hlen
  have hw0 := intsV_is (diffs v l)
  have hds := fun m => diffs_spec hv s m
  have mm := minmax hlen (by omega)
  generalize diffs v l = c at *
  obtain ⟨v', d1, d2⟩ := drop_ints hw0 (by omega)
  have hl1 : (c.drop 1).length = v - 1 := by simp; omega
  have h58 := fun m => max_spec d2 (by omega) (by omega) m
  have h57 := fun m => min_spec d2 (by omega) (by omega) m
  have i0 := d2.idx (i := 0) (by omega) .i64
  have i1 := ints_head (l := c.drop 1) (i := 0) (by omega)
  simp only [Int.ofNat_zero, Int.cast_ofNat_Int, List.drop_zero] at i0 i1
  rw [nth_drop, show 1 + 0 = 1 from rfl] at i1
  generalize c.drop 1 = T at *
  rw [strap_Even.call_eq _ _ _ hcl]
  by_cases q : eqA c (v - 1) 1 = true
  · rw [if_pos q]
    have q' := mm.2 q
    simp [hv.closed, hr, hds, hw0.closed, d1, d2.closed, h58, h57, q', i0, i1]
    done
  · rw [if_neg q]
    have q' : ¬ minL T = maxL T := fun h => q (mm.1 h)
    simp [hv.closed, hr, hds, hw0.closed, d1, d2.closed, h58, h57, q']
    done
end Go.Proofs.YtofceaeboboflaaDoor
