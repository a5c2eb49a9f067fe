/-
  WHAT THE REFERENCE's SMALL FUNCTIONS COMPUTE: the order of lists, the same list. Conditions: none.
-/
import Derived.Test.YtdkmepjedjclkaaKAmG
import Derived.Test.YtdkmepjedjclkaaKRefB
set_option linter.all false
namespace Go.Proofs.Ytdkmepjedjclkaa
open Go.AM
open Go.Proofs.Try (prog)
set_option linter.all false
set_option maxRecDepth 10000

/-- The lexicographic order. -/
def lexLt : List Int → List Int → Bool
  | [], [] => false
  | [], _ :: _ => true
  | _ :: _, [] => false
  | a :: x, b :: y => if a = b then lexLt x y else decide (a < b)

theorem lexLt_drop {a b : List Int} {i : Nat} (h1 : i < a.length) (h2 : i < b.length) : lexLt (a.drop i) (b.drop i) = if nth a i = nth b i then lexLt (a.drop (i + 1)) (b.drop (i + 1)) else decide (nth a i < nth b i) := by
  rw [drop_nth h1, drop_nth h2]; simp [lexLt]

theorem before_loop {va vb : AV} {a b : List Int} (ha : IsInts va a) (hb : IsInts vb b) (hla : a.length < 4611686018427387904) : ∀ (n i : Nat) (m : Mem), a.length - i ≤ n → i ≤ a.length → i ≤ b.length →
    r01_Before.L0 va vb (.int .i64 i) m [.code r01_Before.r6, .code .ret] = some (.bool (lexLt (a.drop i) (b.drop i)), Mem.empty) := by
  intro n
  induction n with
  | zero =>
    intro i m hn hi hi2
    have e : i = a.length := by omega
    subst e
    rw [r01_Before.L0_eq]
    simp [ha.len, hb.len]
    rcases Nat.lt_or_ge a.length b.length with h | h
    · simp [h, drop_nth h, lexLt]
    · have e2 : a.length = b.length := by omega
      simp [e2, lexLt]
  | succ n ih =>
    intro i m hn hi hi2
    rw [r01_Before.L0_eq]
    simp [ha.len, hb.len]
    by_cases h1 : i < a.length
    · by_cases h2 : i < b.length
      · simp [ha.len, hb.len, h1, h2, ha.idx, hb.idx, ints_head]
        by_cases h3 : nth a i = nth b i
        · simp [h3]
          rw [wrap_id (by omega) (by omega)]
          have := ih (i + 1) ⟨m.h, m.nx + 9⟩ (by omega) (by omega) (by omega)
          simp at this
          rw [this, lexLt_drop h1 h2]
          simp [h3]
        · simp [h3, ha.idx, hb.idx, h1, h2, ints_head]
          rw [lexLt_drop h1 h2]
          simp [h3]
      · have e : i = b.length := by omega
        subst e
        simp [ha.len, hb.len, h1]
        have h4 : ¬ a.length < b.length := by omega
        simp [h4, drop_nth h1, lexLt]
    · have e : i = a.length := by omega
      subst e
      simp [ha.len, hb.len]
      rcases Nat.lt_or_ge a.length b.length with h | h
      · simp [h, drop_nth h, lexLt]
      · have e2 : a.length = b.length := by omega
        simp [e2, lexLt]

theorem before_spec {va vb : AV} {a b : List Int} (ha : IsInts va a) (hb : IsInts vb b) (hla : a.length < 4611686018427387904) (m : Mem) :
    denC prog ann 67 [va, vb] m = some (.bool (lexLt a b), m) := by
  rw [r01_Before.call_eq _ _ _ (by simp [ha.closed, hb.closed])]
  have := before_loop ha hb hla _ 0 Mem.empty (Nat.le_refl _) (by omega) (by omega)
  simp at this
  simp [this]

theorem lexLt_same : ∀ a b : List Int, (!lexLt a b && !lexLt b a) = decide (a = b)
  | [], [] => by simp [lexLt]
  | [], _ :: _ => by simp [lexLt]
  | _ :: _, [] => by simp [lexLt]
  | a :: x, b :: y => by
    have ih := lexLt_same x y
    by_cases h : a = b
    · subst h; simpa [lexLt] using ih
    · have h' : ¬ b = a := fun e => h e.symm
      simp only [lexLt, h, h', if_false]
      by_cases h1 : a < b
      · simp [h1, h]
      · have : b < a := by omega
        simp [this, h]

theorem same_spec {va vb : AV} {a b : List Int} (ha : IsInts va a) (hb : IsInts vb b) (hla : a.length < 4611686018427387904) (hlb : b.length < 4611686018427387904) (m : Mem) :
    denC prog ann 21 [va, vb] m = some (.bool (decide (a = b)), m) := by
  rw [r01_Same.call_eq _ _ _ (by simp [ha.closed, hb.closed])]
  simp [ha.closed, hb.closed, before_spec ha hb hla, before_spec hb ha hlb]
  have h := lexLt_same a b
  cases h1 : lexLt a b <;> cases h2 : lexLt b a <;> simp [h1, h2] at h <;> (try subst h) <;> simp [ha.closed, hb.closed, before_spec hb ha hlb, h1, h2, *]
end Go.Proofs.Ytdkmepjedjclkaa

/-
  WHAT THE REFERENCE COMPUTES OF A STORY: which cuts are consistent. Conditions: none.
-/
namespace Go.Proofs.Ytdkmepjedjclkaa
open Go.AM
open Go.Proofs.Try (prog)
set_option linter.all false
set_option maxRecDepth 10000

/-- A message: from a hand's deed to another hand's deed (deeds from 1 on). -/
structure Note where
  f : Int
  s : Int
  t : Int
  r : Int
deriving Inhabited

def noteC (x : Note) : List AV := [.int .i64 x.f, .int .i64 x.s, .int .i64 x.t, .int .i64 x.r]
theorem noteC_len (l : List Note) : ∀ x ∈ l, (noteC x).length = 4 := fun _ _ => rfl
@[simp] theorem noteC_one (x : Note) : oneL (noteC x) = true := rfl
@[simp] theorem noteC_closed (x : Note) : closedL (noteC x) = true := rfl
def nt (l : List Note) (i : Nat) : Note := l.getD i default
theorem nt_eq {l : List Note} {i : Nat} (h : i < l.length) : l[i]? = some (nt l i) := by
  rw [List.getElem?_eq_getElem h]; simp [nt, List.getD, List.getElem?_eq_getElem h]
theorem nt_mem {l : List Note} {i : Nat} (h : i < l.length) : nt l i ∈ l := List.mem_of_getElem? (nt_eq h)
theorem load_note {l : List Note} {i : Nat} (h : i < l.length) : loadF true 4 (.fptr (flatC noteC (l.drop i))) = some (.agg (noteC (nt l i))) := by
  rw [flatC_at (nt_eq h)]; simp [noteC]
theorem drop_nt {l : List Note} {i : Nat} (h : i < l.length) : l.drop i = nt l i :: l.drop (i + 1) := by
  obtain ⟨h1, h2⟩ := List.getElem?_eq_some_iff.1 (nt_eq h)
  rw [List.drop_eq_getElem_cons h1, h2]

/-- A story as an argument. -/
structure IsTale (v : AV) (D : List Int) (N : List Note) : Prop where
  ex : ∃ vD vN, v = .agg [vD, vN] ∧ IsInts vD D ∧ IsSl noteC vN N

theorem IsTale.closed {v : AV} {D : List Int} {N : List Note} (h : IsTale v D N) : v.closed = true := by
  obtain ⟨vD, vN, rfl, h1, h2⟩ := h.ex; simp [h1.closed, h2.closed]

/-- Does a cut hold what was received without what was sent? -/
def noteOk (c : List Int) (x : Note) : Bool := !(decide (x.r ≤ nth c x.t.toNat) && decide (nth c x.f.toNat < x.s))
def conR (N : List Note) (c : List Int) : Bool := N.all (noteOk c)

theorem consR_loop {vD vN vc : AV} {D : List Int} {N : List Note} {c : List Int} (hD : IsInts vD D) (hN : IsSl noteC vN N) (hc : IsInts vc c) (hl : N.length < 1000000)
    (hr : ∀ x ∈ N, 0 ≤ x.f ∧ x.f < c.length ∧ 0 ≤ x.t ∧ x.t < c.length) : ∀ (n i : Nat) (m : Mem), N.length - i ≤ n → i ≤ N.length →
    r09_Consistent.L0 vc (.fptr [vD, vN]) (.int .i64 i) m [.code r09_Consistent.r7, .code .ret] = some (.bool (conR (N.drop i) c), Mem.empty) := by
  intro n
  induction n with
  | zero =>
    intro i m h1 h2
    have e : i = N.length := by omega
    subst e
    rw [r09_Consistent.L0_eq]
    simp [hN.len, conR]
  | succ n ih =>
    intro i m h1 h2
    by_cases h3 : i < N.length
    · rw [r09_Consistent.L0_eq]
      obtain ⟨f0, f1, t0, t1⟩ := hr _ (nt_mem h3)
      have hw : IntKind.wrap .i64 ((i : Int) + 1) = (i : Int) + 1 := wrap_id (by omega) (by omega)
      simp [hN.len, h3, hN.idx (noteC_len N) h3, load_note h3]
      simp [noteC, hc.idxI f0 f1, hc.idxI t0 t1, ints_headI f0 f1, ints_headI t0 t1]
      have hi := fun m => ih (i + 1) m (by omega) (by omega)
      simp at hi
      have hd : conR (N.drop i) c = (noteOk c (nt N i) && conR (N.drop (i + 1)) c) := by rw [drop_nt h3]; rfl
      rw [hd]
      by_cases q1 : (nt N i).r ≤ nth c (nt N i).t.toNat
      · by_cases q2 : nth c (nt N i).f.toNat < (nt N i).s
        · simp [q1, q2, hc.idxI f0 f1, ints_headI f0 f1, noteOk]
        · simp [q1, q2, hc.idxI f0 f1, ints_headI f0 f1, noteOk, hw, hi]
      · simp [q1, noteOk, hw, hi]
    · have e : i = N.length := by omega
      subst e
      rw [r09_Consistent.L0_eq]
      simp [hN.len, conR]

theorem consR_spec {v vc : AV} {D : List Int} {N : List Note} {c : List Int} (hs : IsTale v D N) (hc : IsInts vc c) (hl : N.length < 1000000)
    (hr : ∀ x ∈ N, 0 ≤ x.f ∧ x.f < c.length ∧ 0 ≤ x.t ∧ x.t < c.length) (m : Mem) : denC prog ann 66 [v, vc] m = some (.bool (conR N c), m) := by
  have hcl := hs.closed
  obtain ⟨vD, vN, rfl, hD, hN⟩ := hs.ex
  rw [r09_Consistent.call_eq _ _ _ (by simp [hc.closed, hD.closed, hN.closed])]
  have := consR_loop hD hN hc hl hr _ 0 Mem.empty (Nat.le_refl _) (by omega)
  simp at this
  simp [hD.one, hN.one, hD.closed, hN.closed, this]

theorem in_spec (v lo hi : Int) (m : Mem) : denC prog ann 64 [.int .i64 v, .int .i64 lo, .int .i64 hi] m = some (.bool (decide (lo ≤ v) && decide (v ≤ hi)), m) := by
  rw [r09_in.call_eq _ _ _ _ (by simp)]
  simp
  by_cases h : lo ≤ v <;> simp [h]

/-- Are all messages there that the next deed of a hand receives? -/
def readyOk (done : List Int) (h : Nat) (x : Note) : Bool := !(decide (x.t = h) && (decide (x.r = nth done h + 1) && decide (nth done x.f.toNat < x.s)))
def readyL (N : List Note) (done : List Int) (h : Nat) : Bool := N.all (readyOk done h)

theorem ready_loop {vD vN vd : AV} {N : List Note} {done : List Int} (hN : IsSl noteC vN N) (hd : IsInts vd done) (hl : N.length < 1000000) {h : Nat} (hh : h < done.length) (hb : nth done h < 1000000) (hb0 : 0 ≤ nth done h)
    (hr : ∀ x ∈ N, 0 ≤ x.f ∧ x.f < done.length ∧ 0 ≤ x.t ∧ x.t < done.length) : ∀ (n i : Nat) (m : Mem), N.length - i ≤ n → i ≤ N.length →
    r09_ready.L0 vd (.int .i64 h) (.fptr [vD, vN]) (.int .i64 i) m [.code r09_ready.r7, .code .ret] = some (.bool (readyL (N.drop i) done h), Mem.empty) := by
  intro n
  induction n with
  | zero =>
    intro i m h1 h2
    have e : i = N.length := by omega
    subst e
    rw [r09_ready.L0_eq]
    simp [hN.len, readyL]
  | succ n ih =>
    intro i m h1 h2
    by_cases h3 : i < N.length
    · rw [r09_ready.L0_eq]
      obtain ⟨f0, f1, t0, t1⟩ := hr _ (nt_mem h3)
      have hw : IntKind.wrap .i64 ((i : Int) + 1) = (i : Int) + 1 := wrap_id (by omega) (by omega)
      have hw2 : IntKind.wrap .i64 (nth done h + 1) = nth done h + 1 := wrap_id (by omega) (by omega)
      have hi := fun m => ih (i + 1) m (by omega) (by omega)
      simp at hi
      have hd' : readyL (N.drop i) done h = (readyOk done h (nt N i) && readyL (N.drop (i + 1)) done h) := by rw [drop_nt h3]; rfl
      rw [hd']
      simp [hN.len, h3, hN.idx (noteC_len N) h3, load_note h3]
      by_cases q0 : (nt N i).t = h
      · by_cases q1 : (nt N i).r = nth done h + 1
        · by_cases q2 : nth done (nt N i).f.toNat < (nt N i).s
          · simp [noteC, q0, q1, q2, hd.idx hh, ints_head hh, hd.idxI f0 f1, ints_headI f0 f1, readyOk, hw2]
          · simp [noteC, q0, q1, q2, hd.idx hh, ints_head hh, hd.idxI f0 f1, ints_headI f0 f1, readyOk, hw2, hw, hi]
        · simp [noteC, q0, q1, hd.idx hh, ints_head hh, readyOk, hw2, hw, hi]
      · simp [noteC, q0, readyOk, hw, hi]
    · have e : i = N.length := by omega
      subst e
      rw [r09_ready.L0_eq]
      simp [hN.len, readyL]

theorem ready_spec {v vd : AV} {D : List Int} {N : List Note} {done : List Int} (hs : IsTale v D N) (hd : IsInts vd done) (hl : N.length < 1000000) {h : Nat} (hh : h < done.length) (hb : nth done h < 1000000) (hb0 : 0 ≤ nth done h)
    (hr : ∀ x ∈ N, 0 ≤ x.f ∧ x.f < done.length ∧ 0 ≤ x.t ∧ x.t < done.length) (m : Mem) : denC prog ann 65 [v, vd, .int .i64 h] m = some (.bool (readyL N done h), m) := by
  obtain ⟨vD, vN, rfl, hD, hN⟩ := hs.ex
  rw [r09_ready.call_eq _ _ _ _ (by simp [hd.closed, hD.closed, hN.closed])]
  have := ready_loop (vD := vD) hN hd hl hh hb hb0 hr _ 0 Mem.empty (Nat.le_refl _) (by omega)
  simp at this
  simp [hD.one, hN.one, hD.closed, hN.closed, this]
end Go.Proofs.Ytdkmepjedjclkaa

/-
  WHAT THE REFERENCE's Cuts COMPUTES: the consistent ones among all tuples, in lexicographic order. Conditions: none.
-/
namespace Go.Proofs.Ytdkmepjedjclkaa
open Go.AM
open Go.Proofs.Try (prog)
set_option linter.all false
set_option maxRecDepth 10000

/-! ### Tuples in lexicographic order -/
def tuplesL : List Int → List (List Int)
  | [] => [[]]
  | d :: D => (List.range (d.toNat + 1)).flatMap fun (i : Nat) => (tuplesL D).map (List.cons (i : Int))
/-- The tuples from one on. -/
def fromL : List Int → List Int → List (List Int)
  | d :: D, x :: c => (fromL D c).map (List.cons x) ++ (List.range' 1 (d - x).toNat).flatMap fun (i : Nat) => (tuplesL D).map (List.cons (x + i))
  | _, _ => [[]]
def nextL : List Int → List Int → Option (List Int)
  | d :: D, x :: c => match nextL D c with
    | some c' => some (x :: c')
    | none => if x < d then some ((x + 1) :: List.replicate c.length 0) else none
  | _, _ => none

theorem fromL_zero : ∀ (D : List Int), (∀ d ∈ D, 0 ≤ d) → fromL D (List.replicate D.length 0) = tuplesL D
  | [], _ => rfl
  | d :: D, h => by
    have hd := h d (by simp)
    simp only [List.length_cons, List.replicate_succ, fromL, tuplesL, fromL_zero D (fun x hx => h x (by simp [hx])), Int.sub_zero]
    rw [List.range_eq_range', List.range'_succ, List.flatMap_cons]
    congr 1
    simp

theorem fromL_next : ∀ (D c : List Int), c.length = D.length → (∀ d ∈ D, 0 ≤ d) → fromL D c = c :: (match nextL D c with | none => [] | some c' => fromL D c')
  | [], [], _, _ => rfl
  | d :: D, x :: c, h, hd => by
    have hl : c.length = D.length := by simpa using h
    have ih := fromL_next D c hl (fun y hy => hd y (by simp [hy]))
    have hz := fromL_zero D (fun y hy => hd y (by simp [hy]))
    cases hn : nextL D c with
    | some c' =>
      rw [hn] at ih
      simp only [fromL, nextL, hn, ih, List.map_cons, List.cons_append]
    | none =>
      rw [hn] at ih
      simp only [fromL, nextL, hn, ih, List.map_cons, List.map_nil, List.cons_append, List.nil_append]
      by_cases hx : x < d
      · simp only [hx, if_true, fromL, hl, hz]
        have e : (d - x).toNat = (d - (x + 1)).toNat + 1 := by omega
        rw [e, List.range'_succ, List.flatMap_cons]
        congr 2
        rw [show (1 : Nat) + 1 = 1 + 1 by rfl, List.range'_eq_map_range, List.range'_eq_map_range, List.flatMap_map, List.flatMap_map]
        congr 1
        funext i
        congr 2
        simp only [Int.natCast_add]
        omega
      · have e : (d - x).toNat = 0 := by omega
        simp [hx, e]

/-- The odometer: places below j. -/
def odo (D : List Int) : List Int → Nat → Option (List Int)
  | _, 0 => none
  | c, j + 1 => if nth c j = nth D j then odo D (c.set j 0) j else some (c.set j (nth c j + 1))
def zeroTo : List Int → Nat → List Int
  | c, 0 => c
  | c, j + 1 => zeroTo (c.set j 0) j

theorem odo_cons (d x : Int) (D : List Int) : ∀ (j : Nat) (c : List Int), odo (d :: D) (x :: c) (j + 1) = match odo D c j with | some c' => some (x :: c') | none => if x = d then none else some ((x + 1) :: zeroTo c j)
  | 0, c => by
    by_cases h : x = d <;> simp [odo, nth_cons0, zeroTo, h]
  | j + 1, c => by
    rw [odo, nth_cons1, nth_cons1]
    simp only [List.set_cons_succ]
    rw [odo_cons d x D j (c.set j 0)]
    rw [show odo D c (j + 1) = if nth c j = nth D j then odo D (c.set j 0) j else some (c.set j (nth c j + 1)) from rfl]
    by_cases h : nth c j = nth D j
    · simp [h, zeroTo]
    · simp [h]

theorem zeroTo_all : ∀ (c : List Int), zeroTo c c.length = List.replicate c.length 0
  | [] => rfl
  | x :: c => by
    have go : ∀ (j : Nat) (c : List Int), zeroTo (x :: c) (j + 1) = 0 :: zeroTo c j := by
      intro j
      induction j with
      | zero => intro c; rfl
      | succ j ih => intro c; rw [zeroTo]; simp only [List.set_cons_succ]; rw [ih]; rfl
    rw [List.length_cons, go, zeroTo_all c]; rfl

theorem odo_next : ∀ (D c : List Int), c.length = D.length → (∀ i, nth c i ≤ nth D i) → odo D c c.length = nextL D c
  | [], [], _, _ => rfl
  | d :: D, x :: c, h, hle => by
    have hl : c.length = D.length := by simpa using h
    rw [List.length_cons, odo_cons, odo_next D c hl (fun i => by simpa [nth_cons1] using hle (i + 1))]
    have h0 := hle 0
    simp only [nth_cons0] at h0
    simp only [nextL]
    cases nextL D c with
    | some c' => rfl
    | none =>
      simp only [zeroTo_all]
      by_cases hx : x < d
      · have : ¬ x = d := by omega
        simp [hx, this]
      · have : x = d := by omega
        simp [hx, this]

/-- Slices of slices of numbers: each row is a value. -/
def rowC (c : List Int) : List AV := [.fsl false c.length (ints c)]
@[simp] theorem rowC_one (c : List Int) : oneL (rowC c) = true := rfl
@[simp] theorem rowC_closed (c : List Int) : closedL (rowC c) = true := rfl
theorem rowC_len (l : List (List Int)) : ∀ c ∈ l, (rowC c).length = 1 := fun _ _ => rfl

/-- A tuple in the box of the deeds. -/
structure InBox (D c : List Int) : Prop where
  len : c.length = D.length
  lo : ∀ i, 0 ≤ nth c i
  hi : ∀ i, nth c i ≤ nth D i

theorem odo_box {D : List Int} : ∀ (j : Nat) (c c' : List Int), InBox D c → j ≤ D.length → odo D c j = some c' → InBox D c'
  | 0, c, c', _, _, h => by simp [odo] at h
  | j + 1, c, c', hb, hj, h => by
    have hc := hb.len
    rw [odo] at h
    split at h
    · rename_i he
      have h0 := hb.hi j; have h1 := hb.lo j
      refine odo_box j (c.set j 0) c' ⟨by simp [hc], fun i => ?_, fun i => ?_⟩ (by omega) h
      · simp only [nth, List.getD, List.getElem?_set]
        have := hb.lo i
        simp only [nth, List.getD] at this
        split
        · split <;> simp
        · exact this
      · have h2 := hb.hi i; have h3 := hb.lo i
        by_cases e : j = i
        · subst e
          have : nth (c.set j 0) j = 0 := by simp [nth, List.getD, List.getElem?_set, show j < c.length by omega]
          omega
        · have : nth (c.set j 0) i = nth c i := by simp [nth, List.getD, List.getElem?_set, e]
          omega
    · rename_i he
      cases h
      have h0 := hb.hi j; have h1 := hb.lo j
      refine ⟨by simp [hc], fun i => ?_, fun i => ?_⟩
      · by_cases e : j = i
        · subst e
          have : nth (c.set j (nth c j + 1)) j = nth c j + 1 := by simp [nth, List.getD, List.getElem?_set, show j < c.length by omega]
          omega
        · have : nth (c.set j (nth c j + 1)) i = nth c i := by simp [nth, List.getD, List.getElem?_set, e]
          have := hb.lo i
          omega
      · by_cases e : j = i
        · subst e
          have : nth (c.set j (nth c j + 1)) j = nth c j + 1 := by simp [nth, List.getD, List.getElem?_set, show j < c.length by omega]
          omega
        · have : nth (c.set j (nth c j + 1)) i = nth c i := by simp [nth, List.getD, List.getElem?_set, e]
          have := hb.hi i
          omega

/-- A story within the limits: hands, deeds, messages' places. -/
structure Lims (D : List Int) (N : List Note) : Prop where
  n1 : 1 ≤ D.length
  n4 : D.length ≤ 4
  lo : ∀ i, 0 ≤ nth D i
  hi : ∀ i, nth D i ≤ 6
  N24 : N.length ≤ 24
  notes : ∀ x ∈ N, 0 ≤ x.f ∧ x.f < D.length ∧ 0 ≤ x.t ∧ x.t < D.length

theorem odo_loop {vD vN : AV} {D : List Int} {N : List Note} (hD : IsInts vD D) (L : Lims D N) {acc : List (List Int)} : ∀ (j : Nat) (c : List Int) (m : Mem), j ≤ D.length → InBox D c →
    m.h 0 = some (.cells (flatC rowC acc)) → m.h 4 = some (.cells (ints c)) →
    match odo D c j with
    | none => r09_Cuts.L2 (.fptr [vD, vN]) (.sl 0 1 0 acc.length acc.length) (.sl 4 1 0 D.length D.length) (.int .i64 ((j : Int) - 1)) m [.code r09_Cuts.r8, .code r09_Cuts.i2, .code r09_Cuts.r10, .inBlock 1, .inLoop r09_Cuts.l0, .inBlock 0] = some (.fsl false acc.length (flatC rowC acc), Mem.empty)
    | some c' => ∃ nx, m.nx ≤ nx ∧ r09_Cuts.L2 (.fptr [vD, vN]) (.sl 0 1 0 acc.length acc.length) (.sl 4 1 0 D.length D.length) (.int .i64 ((j : Int) - 1)) m [.code r09_Cuts.r8, .code r09_Cuts.i2, .code r09_Cuts.r10, .inBlock 1, .inLoop r09_Cuts.l0, .inBlock 0] =
        r09_Cuts.L0 (.fptr [vD, vN]) (.sl 0 1 0 acc.length acc.length) (.sl 4 1 0 D.length D.length) ⟨upd m.h 4 (some (.cells (ints c'))), nx⟩ [] := by
  intro j
  induction j with
  | zero =>
    intro c m hj hc h0 h4
    simp only [odo]
    rw [r09_Cuts.L2_eq]
    have hfl : (flatC rowC acc).length = acc.length := by simpa using flatC_len (k := 1) (rowC_len acc)
    have hdp := flatC_deep m.h 4 (f := rowC) (fun a => by simp [rowC]) acc
    have ht : (flatC rowC acc).take acc.length = flatC rowC acc := List.take_of_length_le (by omega)
    simp [h0, hfl, hdp, ht]
  | succ j ih =>
    intro c m hj hc h0 h4
    have hl := hc.len
    have hj' : j < c.length := by omega
    have b1 := hc.lo j
    have b2 := hc.hi j
    have b3 := L.hi j
    have hlen := L.n4
    have hw : IntKind.wrap .i64 ((j : Int) - 1) = (j : Int) - 1 := wrap_id (by omega) (by omega)
    have hw2 : IntKind.wrap .i64 (nth c j + 1) = nth c j + 1 := wrap_id (by omega) (by omega)
    have e : ((j + 1 : Nat) : Int) - 1 = j := by omega
    rw [odo, e]
    by_cases hq : nth c j = nth D j
    · simp only [hq, if_true]
      have hc' : InBox D (c.set j 0) := by
        refine ⟨by simp [hl], fun i => ?_, fun i => ?_⟩
        · by_cases e : j = i
          · subst e; simp [nth, List.getD, List.getElem?_set, hj']
          · have : nth (c.set j 0) i = nth c i := by simp [nth, List.getD, List.getElem?_set, e]
            have := hc.lo i; omega
        · by_cases e : j = i
          · subst e
            have : nth (c.set j 0) j = 0 := by simp [nth, List.getD, List.getElem?_set, hj']
            omega
          · have : nth (c.set j 0) i = nth c i := by simp [nth, List.getD, List.getElem?_set, e]
            have := hc.hi i; omega
      have step : r09_Cuts.L2 (.fptr [vD, vN]) (.sl 0 1 0 acc.length acc.length) (.sl 4 1 0 D.length D.length) (.int .i64 j) m [.code r09_Cuts.r8, .code r09_Cuts.i2, .code r09_Cuts.r10, .inBlock 1, .inLoop r09_Cuts.l0, .inBlock 0] =
          r09_Cuts.L2 (.fptr [vD, vN]) (.sl 0 1 0 acc.length acc.length) (.sl 4 1 0 D.length D.length) (.int .i64 ((j : Int) - 1)) ⟨upd m.h 4 (some (.cells (ints (c.set j 0)))), m.nx + 14⟩ [.code r09_Cuts.r8, .code r09_Cuts.i2, .code r09_Cuts.r10, .inBlock 1, .inLoop r09_Cuts.l0, .inBlock 0] := by
        rw [r09_Cuts.L2_eq]
        simp [hD.idx (show j < D.length by omega), ints_head (show j < D.length by omega), h4, hl, show j < D.length by omega, hq, hw]
      rw [step]
      have := ih (c.set j 0) ⟨upd m.h 4 (some (.cells (ints (c.set j 0)))), m.nx + 14⟩ (by omega) hc' (by simpa using h0) (by simp)
      cases ho : odo D (c.set j 0) j with
      | none => rw [ho] at this; exact this
      | some c' =>
        rw [ho] at this
        obtain ⟨nx, h1, h2⟩ := this
        exact ⟨nx, by simp at h1; omega, by rw [h2]; simp⟩
    · simp only [hq, if_false]
      refine ⟨m.nx + 14, by omega, ?_⟩
      rw [r09_Cuts.L2_eq]
      simp [hD.idx (show j < D.length by omega), ints_head (show j < D.length by omega), h4, hl, show j < D.length by omega, hq, hw2]

theorem fromL_len_pos (D c : List Int) : 0 < (fromL D c).length := by
  match D, c with
  | [], _ => simp [fromL]
  | _ :: _, [] => simp [fromL]
  | d :: D, x :: c => have := fromL_len_pos D c; simp [fromL]; omega

theorem cuts_loop {vD vN : AV} {D : List Int} {N : List Note} (hD : IsInts vD D) (hN : IsSl noteC vN N) (L : Lims D N) : ∀ (n : Nat) (c : List Int) (acc : List (List Int)) (m : Mem), (fromL D c).length ≤ n → InBox D c →
    m.h 0 = some (.cells (flatC rowC acc)) → m.h 4 = some (.cells (ints c)) → 5 ≤ m.nx → acc.length + (fromL D c).length ≤ 1000000 →
    r09_Cuts.L0 (.fptr [vD, vN]) (.sl 0 1 0 acc.length acc.length) (.sl 4 1 0 D.length D.length) m [] = some (.fsl false (acc ++ (fromL D c).filter (conR N)).length (flatC rowC (acc ++ (fromL D c).filter (conR N))), Mem.empty) := by
  intro n
  induction n with
  | zero => intro c acc m h; have := fromL_len_pos D c; omega
  | succ n ih =>
    intro c acc m hlen hc h0 h4 hnx hb
    have hl := hc.len
    have hn1 := L.n1
    have hn4 := L.n4
    have hpos : ∀ d ∈ D, 0 ≤ d := by
      intro d hd
      obtain ⟨i, hi, rfl⟩ := List.mem_iff_getElem.1 hd
      rw [nth_get hi]; exact L.lo i
    have htale : IsTale (.agg [vD, vN]) D N := ⟨vD, vN, rfl, hD, hN⟩
    have hcon := consR_spec htale (vc := .fsl false D.length (ints c)) (c := c) (.inr ⟨false, by rw [hl]⟩) (by have := L.N24; omega) (fun x hx => by rw [hl]; exact L.notes x hx) Mem.empty
    have hfl : (flatC rowC acc).length = acc.length := by simpa using flatC_len (k := 1) (rowC_len acc)
    have hno := fromL_next D c hl hpos
    have hon := odo_next D c hl hc.hi
    rw [hl] at hon
    have e04 : (0 == 4) = false := rfl
    have hw : IntKind.wrap .i64 ((D.length : Int) - 1) = (D.length : Int) - 1 := wrap_id (by omega) (by omega)
    have htk : (ints c).take D.length = ints c := List.take_of_length_le (by simp; omega)
    rw [hno] at hlen hb
    simp only [List.length_cons] at hlen hb
    -- behind the test: the odometer, and on
    have go : ∀ (acc : List (List Int)) (m : Mem), m.h 0 = some (.cells (flatC rowC acc)) → m.h 4 = some (.cells (ints c)) → 5 ≤ m.nx → acc.length + (match nextL D c with | none => [] | some c' => fromL D c').length ≤ 1000000 →
        r09_Cuts.L2 (.fptr [vD, vN]) (.sl 0 1 0 acc.length acc.length) (.sl 4 1 0 D.length D.length) (.int .i64 ((D.length : Int) - 1)) m [.code r09_Cuts.r8, .code r09_Cuts.i2, .code r09_Cuts.r10, .inBlock 1, .inLoop r09_Cuts.l0, .inBlock 0] =
          some (.fsl false (acc ++ (match nextL D c with | none => [] | some c' => fromL D c').filter (conR N)).length (flatC rowC (acc ++ (match nextL D c with | none => [] | some c' => fromL D c').filter (conR N))), Mem.empty) := by
      intro acc m h0 h4 hnx hb
      have := odo_loop (vN := vN) hD L (acc := acc) D.length c m (Nat.le_refl _) hc h0 h4
      rw [hon] at this
      cases hq : nextL D c with
      | none => rw [hq] at this; simpa using this
      | some c' =>
        rw [hq] at this hlen hb
        obtain ⟨nx, q1, q2⟩ := this
        rw [q2]
        have hc' : InBox D c' := odo_box D.length c c' hc (Nat.le_refl _) (by rw [hon, hq])
        exact ih c' acc _ (by simp only at hlen; omega) hc' (by simpa using h0) (by simp) (by simp; omega) hb
    rw [r09_Cuts.L0_eq]
    rw [hno]
    by_cases hq : conR N c = true
    · have hg := go (acc ++ [c]) ⟨upd (upd m.h m.nx none) 0 (some (.cells (flatC rowC (acc ++ [c])))), m.nx + 1⟩ (by simp) (by
          have : (4 == m.nx) = false := by simp; omega
          simpa [this] using h4) (by simp; omega) (by rw [List.length_append]; simp; omega)
      have e0 : (0 == m.nx) = false := by simp; omega
      have e4 : (4 == m.nx) = false := by simp; omega
      have hr : flatC rowC acc ++ [.fsl false D.length (ints c)] = flatC rowC (acc ++ [c]) := by rw [flatC_append, flatC_one]; simp [rowC, hl]
      have hfl' : (flatC rowC (acc ++ [c])).length = acc.length + 1 := by simpa using flatC_len (k := 1) (rowC_len (acc ++ [c]))
      have en : (D.length == 0) = false := by rw [beq_eq_false_iff_ne]; omega
      simp [List.append_assoc] at hg
      simp [h4, hl, htk, hD.closed, hN.closed, hcon, hD.deep m.h 4, hN.deep m.h 4, AV.flat, AV.flat1, hq, h0, e0, e4, hfl, en, hw, show D.length ≤ 4611686018427387904 by omega, show D.length * 8 ≤ 70368744177664 by omega, show acc.length ≤ 4611686018427387903 by omega, show (acc.length + 1) * 24 ≤ 70368744177664 by omega, hr, hfl', hg]
    · have hq' : conR N c = false := by simpa using hq
      have hg := go acc m h0 h4 hnx (by omega)
      simp at hg
      simp [h4, hl, htk, hD.closed, hN.closed, hcon, hD.deep m.h 4, hN.deep m.h 4, AV.flat, AV.flat1, hq', hw, hg]

theorem tuplesL_len : ∀ (D : List Int), (∀ d ∈ D, d ≤ 6) → (tuplesL D).length ≤ 7 ^ D.length
  | [], _ => by simp [tuplesL]
  | d :: D, h => by
    have ih := tuplesL_len D (fun x hx => h x (by simp [hx]))
    have go : ∀ (l : List Nat), (l.flatMap fun (i : Nat) => (tuplesL D).map (List.cons (i : Int))).length ≤ l.length * 7 ^ D.length := by
      intro l
      induction l with
      | nil => simp
      | cons a l ihl => rw [List.flatMap_cons, List.length_append, List.length_cons, Nat.succ_mul, List.length_map]; omega
    have h1 := go (List.range (d.toNat + 1))
    simp only [List.length_range] at h1
    have h2 : (d.toNat + 1) * 7 ^ D.length ≤ 7 * 7 ^ D.length := Nat.mul_le_mul_right _ (by have := h d (by simp); omega)
    rw [List.length_cons, Nat.pow_succ, Nat.mul_comm]
    simp only [tuplesL]
    omega

theorem Lims.all {D : List Int} {N : List Note} (L : Lims D N) : ∀ d ∈ D, 0 ≤ d ∧ d ≤ 6 := by
  intro d hd
  obtain ⟨i, hi, rfl⟩ := List.mem_iff_getElem.1 hd
  rw [nth_get hi]; exact ⟨L.lo i, L.hi i⟩

/-- All consistent cuts of the reference. -/
def cutsL (D : List Int) (N : List Note) : List (List Int) := (tuplesL D).filter (conR N)

theorem cutsR_spec {v : AV} {D : List Int} {N : List Note} (hs : IsTale v D N) (L : Lims D N) (m : Mem) :
    denC prog ann 20 [v] m = some (.fsl false (cutsL D N).length (flatC rowC (cutsL D N)), m) := by
  obtain ⟨vD, vN, rfl, hD, hN⟩ := hs.ex
  have hz : ∀ i, nth (List.replicate D.length 0) i = 0 := fun i => by
    simp only [nth, List.getD, List.getElem?_replicate]
    split <;> rfl
  have hlen : (tuplesL D).length ≤ 1000000 := by
    have h1 := tuplesL_len D (fun d hd => (L.all d hd).2)
    have h2 : 7 ^ D.length ≤ 7 ^ 4 := Nat.pow_le_pow_right (by omega) L.n4
    omega
  have hfz := fromL_zero D (fun d hd => (L.all d hd).1)
  have := cuts_loop hD hN L _ (List.replicate D.length 0) [] ⟨upd (upd Mem.empty.h 0 (some (.cells []))) 4 (some (.cells (List.replicate D.length (.int .i64 0)))), 7⟩ (Nat.le_refl _)
    ⟨by simp, fun i => by rw [hz]; omega, fun i => by rw [hz]; exact L.lo i⟩ (by simp) (by simp [ints]) (by simp) (by rw [hfz]; simpa using hlen)
  rw [r09_Cuts.call_eq _ _ (by simp [hD.closed, hN.closed])]
  rw [hfz] at this
  simp at this
  have hn4 := L.n4
  have h7 : (D.length : Int).toNat = D.length := by simp
  have hone : oneL (List.replicate D.length (AV.int .i64 0)) = true := by
    have := ints_oneL (List.replicate D.length 0)
    simpa [ints] using this
  simp [hD.one, hN.one, hD.closed, hN.closed, hD.len, this, hone, show D.length ≤ 4611686018427387904 by omega, show D.length * 8 ≤ 70368744177664 by omega, cutsL]
end Go.Proofs.Ytdkmepjedjclkaa

/-
  WHAT THE REFERENCE's Valid COMPUTES: within the limits, and all deeds can be done one by one. Conditions: none.
-/
namespace Go.Proofs.Ytdkmepjedjclkaa
open Go.AM
open Go.Proofs.Try (prog)
set_option linter.all false
set_option maxRecDepth 10000

/-- A hand may do its next deed. -/
def Step (D : List Int) (N : List Note) (done : List Int) (h : Nat) : Prop := h < D.length ∧ nth done h < nth D h ∧ readyL N done h = true
/-- What can be done, deed by deed. -/
inductive Reach (D : List Int) (N : List Note) : List Int → Prop where
  | zero : Reach D N (List.replicate D.length 0)
  | step {done : List Int} {h : Nat} : Reach D N done → Step D N done h → Reach D N (done.set h (nth done h + 1))

theorem Reach.box {D : List Int} {N : List Note} (lo : ∀ i, 0 ≤ nth D i) {done : List Int} (r : Reach D N done) : InBox D done := by
  induction r with
  | zero =>
    have hz : ∀ i, nth (List.replicate D.length 0) i = 0 := fun i => by
      simp only [nth, List.getD, List.getElem?_replicate]; split <;> rfl
    exact ⟨by simp, fun i => by rw [hz]; omega, fun i => by rw [hz]; exact lo i⟩
  | @step done h r s ih =>
    obtain ⟨s1, s2, _⟩ := s
    have hl := ih.len
    refine ⟨by simp [hl], fun i => ?_, fun i => ?_⟩
    · by_cases e : h = i
      · subst e
        have : nth (done.set h (nth done h + 1)) h = nth done h + 1 := by simp [nth, List.getD, List.getElem?_set, show h < done.length by omega]
        have := ih.lo h; omega
      · have : nth (done.set h (nth done h + 1)) i = nth done i := by simp [nth, List.getD, List.getElem?_set, e]
        have := ih.lo i; omega
    · by_cases e : h = i
      · subst e
        have : nth (done.set h (nth done h + 1)) h = nth done h + 1 := by simp [nth, List.getD, List.getElem?_set, show h < done.length by omega]
        omega
      · have : nth (done.set h (nth done h + 1)) i = nth done i := by simp [nth, List.getD, List.getElem?_set, e]
        have := ih.hi i; omega

def Stuck (D : List Int) (N : List Note) (done : List Int) : Prop := ∀ h, ¬ Step D N done h

/-- Where nothing more can be done, all is done that can be. -/
theorem stuck_most {D : List Int} {N : List Note} {done x : List Int} (hd : done.length = D.length) (st : Stuck D N done) (r : Reach D N x) (lo : ∀ i, 0 ≤ nth D i) (hn : ∀ i, 0 ≤ nth done i) : ∀ i, nth x i ≤ nth done i := by
  induction r with
  | zero => intro i; have : nth (List.replicate D.length 0) i = 0 := by { simp only [nth, List.getD, List.getElem?_replicate]; split <;> rfl }; have := hn i; omega
  | @step x h r s ih =>
    obtain ⟨s1, s2, s3⟩ := s
    have hl := (Reach.box lo r).len
    intro i
    by_cases e : h = i
    · subst e
      have e1 : nth (x.set h (nth x h + 1)) h = nth x h + 1 := by simp [nth, List.getD, List.getElem?_set, show h < x.length by omega]
      rw [e1]
      have h1 := ih h
      rcases Int.lt_or_eq_of_le h1 with h2 | h2
      · omega
      · exfalso
        refine st h ⟨s1, by omega, ?_⟩
        simp only [readyL, List.all_eq_true] at s3 ⊢
        intro y hy
        have := s3 y hy
        simp only [readyOk] at this ⊢
        rw [← h2]
        have h3 := ih y.f.toNat
        by_cases q1 : y.t = h <;> by_cases q2 : y.r = nth x h + 1 <;> simp [q1, q2] at this ⊢
        omega
    · have : nth (x.set h (nth x h + 1)) i = nth x i := by simp [nth, List.getD, List.getElem?_set, e]
      rw [this]; exact ih i

theorem ext_nth {a b : List Int} (hl : a.length = b.length) (h : ∀ i, nth a i = nth b i) : a = b := by
  refine List.ext_getElem hl fun i h1 h2 => ?_
  rw [nth_get h1, nth_get h2]; exact h i

/-- A message of the story. -/
structure NoteIn (D : List Int) (x : Note) : Prop where
  f0 : 0 ≤ x.f
  f1 : x.f < D.length
  t0 : 0 ≤ x.t
  t1 : x.t < D.length
  ne : x.f ≠ x.t
  s0 : 1 ≤ x.s
  s1 : x.s ≤ nth D x.f.toNat
  r0 : 1 ≤ x.r
  r1 : x.r ≤ nth D x.t.toNat

/-- A story is valid. -/
structure ValidS (D : List Int) (N : List Note) : Prop where
  n1 : 1 ≤ D.length
  n4 : D.length ≤ 4
  lo : ∀ i, 0 ≤ nth D i
  hi : ∀ i, nth D i ≤ 6
  N24 : N.length ≤ 24
  notes : ∀ x ∈ N, NoteIn D x
  all : Reach D N D

theorem ValidS.lims {D : List Int} {N : List Note} (v : ValidS D N) : Lims D N := ⟨v.n1, v.n4, v.lo, v.hi, v.N24, fun x hx => ⟨(v.notes x hx).f0, (v.notes x hx).f1, (v.notes x hx).t0, (v.notes x hx).t1⟩⟩

/-! ### The walk: deeds are done, sweep after sweep -/
theorem sum_set : ∀ (l : List Int) (i : Nat) (a : Int), i < l.length → (l.set i a).sum = l.sum - nth l i + a
  | x :: l, 0, a, _ => by simp [nth_cons0]; omega
  | x :: l, i + 1, a, h => by
    have := sum_set l i a (by simpa using h)
    simp only [List.set_cons_succ, List.sum_cons, nth_cons1, this]; omega
theorem sum_le : ∀ (a b : List Int), a.length = b.length → (∀ i, nth a i ≤ nth b i) → a.sum ≤ b.sum
  | [], [], _, _ => by simp
  | x :: a, y :: b, hl, h => by
    have h0 := h 0
    have := sum_le a b (by simpa using hl) (fun i => by simpa [nth_cons1] using h (i + 1))
    simp only [nth_cons0] at h0
    simp only [List.sum_cons]; omega

theorem sweep_loop {vD vN : AV} {D : List Int} {N : List Note} (hD : IsInts vD D) (hN : IsSl noteC vN N) (L : Lims D N) {id : Nat} {done0 : List Int} : ∀ (k h : Nat) (done : List Int) (mv : Bool) (m : Mem), h + k = D.length → Reach D N done →
    m.h id = some (.cells (ints done)) → ((mv = false ∧ done = done0 ∧ ∀ g, g < h → ¬ Step D N done0 g) ∨ (mv = true ∧ done0.sum < done.sum)) →
    ∃ done' mv' m', r09_Valid.L6 (.fptr [vD, vN]) (.sl id 1 0 D.length D.length) (.bool mv) (.int .i64 h) m [.inBlock 5, .inLoop r09_Valid.l4, .inBlock 4, .code r09_Valid.r24, .code .ret] =
        r09_Valid.L4 (.fptr [vD, vN]) (.sl id 1 0 D.length D.length) (.bool mv') m' [.code r09_Valid.r24, .code .ret] ∧ Reach D N done' ∧ m'.h id = some (.cells (ints done')) ∧
        ((mv' = false ∧ done' = done0 ∧ Stuck D N done0) ∨ (mv' = true ∧ done0.sum < done'.sum)) := by
  intro k
  induction k with
  | zero =>
    intro h done mv m hk hr hm hp
    have e : h = D.length := by omega
    subst e
    refine ⟨done, mv, m, ?_, hr, hm, hp.imp (fun ⟨a, b, c⟩ => ⟨a, b, fun g hg => c g hg.1 hg⟩) (fun h => h)⟩
    rw [r09_Valid.L6_eq]
    simp
  | succ k ih =>
    intro h done mv m hk hr hm hp
    have hh : h < D.length := by omega
    have hb := hr.box L.lo
    have hl := hb.len
    have b1 := hb.lo h; have b2 := hb.hi h; have b3 := L.hi h
    have hn4 := L.n4
    have htale : IsTale (.agg [vD, vN]) D N := ⟨vD, vN, rfl, hD, hN⟩
    have hrd := ready_spec htale (vd := .fsl false D.length (ints done)) (done := done) (.inr ⟨false, by rw [hl]⟩) (by have := L.N24; omega) (h := h) (by omega) (by omega) b1 (fun x hx => by rw [hl]; exact L.notes x hx) Mem.empty
    have hw : IntKind.wrap .i64 ((h : Int) + 1) = (h : Int) + 1 := wrap_id (by omega) (by omega)
    have hw2 : IntKind.wrap .i64 (nth done h + 1) = nth done h + 1 := wrap_id (by omega) (by omega)
    have htk : (ints done).take D.length = ints done := List.take_of_length_le (by simp; omega)
    rw [r09_Valid.L6_eq]
    by_cases q1 : nth done h < nth D h
    · by_cases q2 : readyL N done h = true
      · -- done
        have st : Step D N done h := ⟨hh, q1, q2⟩
        have := ih (h + 1) (done.set h (nth done h + 1)) true ⟨upd m.h id (some (.cells (ints (done.set h (nth done h + 1))))), m.nx + 16⟩ (by omega) (hr.step st) (by simp) (.inr ⟨rfl, by
          rw [sum_set _ _ _ (by omega)]
          rcases hp with ⟨_, e, _⟩ | ⟨_, e⟩
          · subst e; omega
          · omega⟩)
        obtain ⟨done', mv', m', e, r⟩ := this
        refine ⟨done', mv', m', ?_, r⟩
        rw [← e]
        simp [hh, hm, hl, hD.idx hh, ints_head hh, q1, hD.closed, hN.closed, hD.deep m.h 4, hN.deep m.h 4, htk, hrd, AV.flat, AV.flat1, q2, hw, hw2]
      · have q2' : readyL N done h = false := by simpa using q2
        have := ih (h + 1) done mv ⟨m.h, m.nx + 16⟩ (by omega) hr (by simpa using hm) (by
          rcases hp with ⟨a, b, c⟩ | hp
          · refine .inl ⟨a, b, fun g hg => ?_⟩
            by_cases e : g = h
            · subst e; subst b; intro st; rw [st.2.2] at q2'; cases q2'
            · exact c g (by omega)
          · exact .inr hp)
        obtain ⟨done', mv', m', e, r⟩ := this
        refine ⟨done', mv', m', ?_, r⟩
        rw [← e]
        simp [hh, hm, hl, hD.idx hh, ints_head hh, q1, hD.closed, hN.closed, hD.deep m.h 4, hN.deep m.h 4, htk, hrd, AV.flat, AV.flat1, q2', hw, hw2]
    · have := ih (h + 1) done mv ⟨m.h, m.nx + 16⟩ (by omega) hr (by simpa using hm) (by
          rcases hp with ⟨a, b, c⟩ | hp
          · refine .inl ⟨a, b, fun g hg => ?_⟩
            by_cases e : g = h
            · subst e; subst b; intro st; exact q1 st.2.1
            · exact c g (by omega)
          · exact .inr hp)
      obtain ⟨done', mv', m', e, r⟩ := this
      refine ⟨done', mv', m', ?_, r⟩
      rw [← e]
      simp [hh, hm, hl, hD.idx hh, ints_head hh, q1, hw]

theorem sim_loop {vD vN : AV} {D : List Int} {N : List Note} (hD : IsInts vD D) (hN : IsSl noteC vN N) (L : Lims D N) {id : Nat} : ∀ (n : Nat) (done : List Int) (mv : Bool) (m : Mem), (D.sum - done.sum).toNat ≤ n → Reach D N done →
    m.h id = some (.cells (ints done)) → (mv = false → Stuck D N done) →
    ∃ fin, Reach D N fin ∧ Stuck D N fin ∧ r09_Valid.L4 (.fptr [vD, vN]) (.sl id 1 0 D.length D.length) (.bool mv) m [.code r09_Valid.r24, .code .ret] = some (.bool (decide (fin = D)), Mem.empty) := by
  -- the last test
  have last : ∀ (done : List Int) (m : Mem), Reach D N done → m.h id = some (.cells (ints done)) → r09_Valid.L4 (.fptr [vD, vN]) (.sl id 1 0 D.length D.length) (.bool false) m [.code r09_Valid.r24, .code .ret] = some (.bool (decide (done = D)), Mem.empty) := by
    intro done m hr hm
    have hl := (hr.box L.lo).len
    have hn4 := L.n4
    have htk : (ints done).take D.length = ints done := List.take_of_length_le (by simp; omega)
    have hs := same_spec (va := .fsl false D.length (ints done)) (a := done) (.inr ⟨false, by rw [hl]⟩) hD (by omega) (by omega) Mem.empty
    rw [r09_Valid.L4_eq]
    simp [hm, hl, htk, hD.deep m.h 5, hs, AV.flat, AV.flat1]
  -- one sweep
  have sweep : ∀ (done : List Int) (m : Mem), Reach D N done → m.h id = some (.cells (ints done)) → ∃ done' mv' m', r09_Valid.L4 (.fptr [vD, vN]) (.sl id 1 0 D.length D.length) (.bool true) m [.code r09_Valid.r24, .code .ret] =
        r09_Valid.L4 (.fptr [vD, vN]) (.sl id 1 0 D.length D.length) (.bool mv') m' [.code r09_Valid.r24, .code .ret] ∧ Reach D N done' ∧ m'.h id = some (.cells (ints done')) ∧
        ((mv' = false ∧ done' = done ∧ Stuck D N done) ∨ (mv' = true ∧ done.sum < done'.sum)) := by
    intro done m hr hm
    obtain ⟨done', mv', m', e, r⟩ := sweep_loop hD hN L (id := id) (done0 := done) D.length 0 done false m (by omega) hr hm (.inl ⟨rfl, rfl, fun g hg => by omega⟩)
    refine ⟨done', mv', m', ?_, r⟩
    rw [← e, r09_Valid.L4_eq]
    simp
  intro n
  induction n with
  | zero =>
    intro done mv m hn hr hm hst
    cases mv with
    | false => exact ⟨done, hr, hst rfl, last done m hr hm⟩
    | true =>
      obtain ⟨done', mv', m', e, r1, r2, r3⟩ := sweep done m hr hm
      rcases r3 with ⟨rfl, rfl, h3⟩ | ⟨rfl, h3⟩
      · exact ⟨_, r1, h3, by rw [e]; exact last _ m' r1 r2⟩
      · exfalso
        have hb := r1.box L.lo
        have := sum_le done' D hb.len hb.hi
        omega
  | succ n ih =>
    intro done mv m hn hr hm hst
    cases mv with
    | false => exact ⟨done, hr, hst rfl, last done m hr hm⟩
    | true =>
      obtain ⟨done', mv', m', e, r1, r2, r3⟩ := sweep done m hr hm
      rcases r3 with ⟨rfl, rfl, h3⟩ | ⟨rfl, h3⟩
      · exact ⟨_, r1, h3, by rw [e]; exact last _ m' r1 r2⟩
      · obtain ⟨fin, f1, f2, f3⟩ := ih done' true m' (by omega) r1 r2 (fun h => by cases h)
        exact ⟨fin, f1, f2, by rw [e]; exact f3⟩
end Go.Proofs.Ytdkmepjedjclkaa

/-
  WHAT THE REFERENCE's Valid COMPUTES: whether a story is valid. Conditions: none.
-/
namespace Go.Proofs.Ytdkmepjedjclkaa
open Go.AM
open Go.Proofs.Try (prog)
set_option linter.all false
set_option maxRecDepth 10000

theorem fin_iff {D : List Int} {N : List Note} (lo : ∀ i, 0 ≤ nth D i) {fin : List Int} (r : Reach D N fin) (st : Stuck D N fin) : fin = D ↔ Reach D N D := by
  constructor
  · intro e; rw [e] at r; exact r
  · intro rD
    have hb := r.box lo
    have h1 := stuck_most hb.len st rD lo hb.lo
    exact ext_nth hb.len fun i => Int.le_antisymm (hb.hi i) (h1 i)

section
variable {vD vN : AV} {D : List Int} {N : List Note}

theorem valid_deeds (hD : IsInts vD D) (hl : D.length < 1000000) {R : Option Res} (T : D.all (fun d => decide (0 ≤ d) && decide (d ≤ 6)) = true → ∀ t m, AM.get t 1 = .fptr [vD, vN] → den prog ann 19 [.code r09_Valid.r6, .code r09_Valid.i2, .code r09_Valid.r8, .code r09_Valid.k2, .code r09_Valid.r14, .code r09_Valid.r15, .code r09_Valid.k4, .code r09_Valid.r24, .code .ret] ⟨t, 132, m⟩ = R) :
    ∀ (n i : Nat) (m : Mem), D.length - i ≤ n → i ≤ D.length → (D.take i).all (fun d => decide (0 ≤ d) && decide (d ≤ 6)) = true →
    r09_Valid.L0 (.fptr [vD, vN]) (.int .i64 i) m [.code r09_Valid.r6, .code r09_Valid.i2, .code r09_Valid.r8, .code r09_Valid.k2, .code r09_Valid.r14, .code r09_Valid.r15, .code r09_Valid.k4, .code r09_Valid.r24, .code .ret] =
      if (D.drop i).all (fun d => decide (0 ≤ d) && decide (d ≤ 6)) then R else some (.bool false, Mem.empty) := by
  intro n
  induction n with
  | zero =>
    intro i m h1 h2 hp
    have e : i = D.length := by omega
    subst e
    rw [List.take_length] at hp
    rw [r09_Valid.L0_eq]
    simp [hD.len, -r09_Valid.r6_eq, T hp]
  | succ n ih =>
    intro i m h1 h2 hp
    by_cases h3 : i < D.length
    · have hw : IntKind.wrap .i64 ((i : Int) + 1) = (i : Int) + 1 := wrap_id (by omega) (by omega)
      rw [r09_Valid.L0_eq, drop_nth h3]
      by_cases q : 0 ≤ nth D i ∧ nth D i ≤ 6
      · have hi := fun m => ih (i + 1) m (by omega) (by omega) (by
          rw [List.take_succ, nth_eq h3, List.all_append, hp]; simp [q.1, q.2])
        simp only [Int.natCast_add, Int.cast_ofNat_Int] at hi
        simp [hD.len, h3, hD.idx h3, ints_head h3, in_spec, q.1, q.2, hw, hi]
      · have q' : (decide (0 ≤ nth D i) && decide (nth D i ≤ 6)) = false := by
          by_cases q1 : 0 ≤ nth D i
          · have : ¬ nth D i ≤ 6 := fun q2 => q ⟨q1, q2⟩
            simp [this]
          · simp [q1]
        simp [hD.len, h3, hD.idx h3, ints_head h3, in_spec, q']
    · have e : i = D.length := by omega
      subst e
      rw [List.take_length] at hp
      rw [r09_Valid.L0_eq]
      simp [hD.len, -r09_Valid.r6_eq, T hp]

/-- Is a message one of the story? -/
def noteIn (D : List Int) (x : Note) : Bool :=
  (decide (0 ≤ x.f) && decide (x.f ≤ (D.length : Int) - 1)) && ((decide (0 ≤ x.t) && decide (x.t ≤ (D.length : Int) - 1)) && (!decide (x.f = x.t) && ((decide (1 ≤ x.s) && decide (x.s ≤ nth D x.f.toNat)) && (decide (1 ≤ x.r) && decide (x.r ≤ nth D x.t.toNat)))))
theorem noteIn_iff {x : Note} : noteIn D x = true ↔ NoteIn D x := by
  simp only [noteIn, Bool.and_eq_true, decide_eq_true_eq, Bool.not_eq_true', decide_eq_false_iff_not]
  constructor
  · rintro ⟨⟨a, b⟩, ⟨c, d⟩, e, ⟨f, g⟩, h, i⟩
    exact ⟨a, by omega, c, by omega, e, f, g, h, i⟩
  · rintro ⟨a, b, c, d, e, f, g, h, i⟩
    exact ⟨⟨a, by omega⟩, ⟨c, by omega⟩, e, ⟨f, g⟩, h, i⟩

theorem valid_notes (hD : IsInts vD D) (hN : IsSl noteC vN N) (hl : D.length < 1000000) (hn : N.length < 1000000) {R : Option Res} (T : N.all (noteIn D) = true → ∀ t m, AM.get t 1 = .fptr [vD, vN] → den prog ann 19 [.code r09_Valid.r14, .code r09_Valid.r15, .code r09_Valid.k4, .code r09_Valid.r24, .code .ret] ⟨t, 132, m⟩ = R) :
    ∀ (n i : Nat) (m : Mem), N.length - i ≤ n → i ≤ N.length → (N.take i).all (noteIn D) = true →
    r09_Valid.L2 (.fptr [vD, vN]) (.int .i64 i) m [.code r09_Valid.r14, .code r09_Valid.r15, .code r09_Valid.k4, .code r09_Valid.r24, .code .ret] =
      if (N.drop i).all (noteIn D) then R else some (.bool false, Mem.empty) := by
  intro n
  induction n with
  | zero =>
    intro i m h1 h2 hp
    have e : i = N.length := by omega
    subst e
    rw [List.take_length] at hp
    rw [r09_Valid.L2_eq]
    simp [hN.len, -r09_Valid.r14_eq, T hp]
  | succ n ih =>
    intro i m h1 h2 hp
    by_cases h3 : i < N.length
    · have hw : IntKind.wrap .i64 ((i : Int) + 1) = (i : Int) + 1 := wrap_id (by omega) (by omega)
      have hw2 : IntKind.wrap .i64 ((D.length : Int) - 1) = (D.length : Int) - 1 := wrap_id (by omega) (by omega)
      rw [r09_Valid.L2_eq, drop_nt h3]
      by_cases q1 : (decide (0 ≤ (nt N i).f) && decide ((nt N i).f ≤ (D.length : Int) - 1)) = true
      · have ⟨f0, f1⟩ : 0 ≤ (nt N i).f ∧ (nt N i).f < D.length := by simp at q1; omega
        by_cases q2 : (decide (0 ≤ (nt N i).t) && decide ((nt N i).t ≤ (D.length : Int) - 1)) = true
        · have ⟨t0, t1⟩ : 0 ≤ (nt N i).t ∧ (nt N i).t < D.length := by simp at q2; omega
          by_cases q3 : (nt N i).f = (nt N i).t
          · simp [noteIn, hN.len, h3, hN.idx (noteC_len N) h3, load_note h3, noteC, hD.len, in_spec, hw2, q1, q2, q3, hw]
          · by_cases q4 : (decide (1 ≤ (nt N i).s) && decide ((nt N i).s ≤ nth D (nt N i).f.toNat)) = true
            · by_cases q5 : (decide (1 ≤ (nt N i).r) && decide ((nt N i).r ≤ nth D (nt N i).t.toNat)) = true
              · have hni : noteIn D (nt N i) = true := by simp only [noteIn, q1, q2, q3, q4, q5]; rfl
                have hi := fun m => ih (i + 1) m (by omega) (by omega) (by
                  rw [List.take_succ, nt_eq h3, List.all_append, hp]; simp [hni])
                simp only [Int.natCast_add, Int.cast_ofNat_Int] at hi
                simp [noteIn, hN.len, h3, hN.idx (noteC_len N) h3, load_note h3, noteC, hD.len, in_spec, hw2, q1, q2, q3, q4, q5, hw, hi, hD.idxI f0 f1, ints_headI f0 f1, hD.idxI t0 t1, ints_headI t0 t1]
              · have q5' : (decide (1 ≤ (nt N i).r) && decide ((nt N i).r ≤ nth D (nt N i).t.toNat)) = false := by simpa using q5
                simp [noteIn, hN.len, h3, hN.idx (noteC_len N) h3, load_note h3, noteC, hD.len, in_spec, hw2, q1, q2, q3, q4, q5', hw, hD.idxI f0 f1, ints_headI f0 f1, hD.idxI t0 t1, ints_headI t0 t1]
            · have q4' : (decide (1 ≤ (nt N i).s) && decide ((nt N i).s ≤ nth D (nt N i).f.toNat)) = false := by simpa using q4
              simp [noteIn, hN.len, h3, hN.idx (noteC_len N) h3, load_note h3, noteC, hD.len, in_spec, hw2, q1, q2, q3, q4', hw, hD.idxI f0 f1, ints_headI f0 f1]
        · have q2' : (decide (0 ≤ (nt N i).t) && decide ((nt N i).t ≤ (D.length : Int) - 1)) = false := by simpa using q2
          simp [noteIn, hN.len, h3, hN.idx (noteC_len N) h3, load_note h3, noteC, hD.len, in_spec, hw2, q1, q2', hw]
      · have q1' : (decide (0 ≤ (nt N i).f) && decide ((nt N i).f ≤ (D.length : Int) - 1)) = false := by simpa using q1
        simp [noteIn, hN.len, h3, hN.idx (noteC_len N) h3, load_note h3, noteC, hD.len, in_spec, hw2, q1', hw]
    · have e : i = N.length := by omega
      subst e
      rw [List.take_length] at hp
      rw [r09_Valid.L2_eq]
      simp [hN.len, -r09_Valid.r14_eq, T hp]
end

theorem all_nth {p : Int → Bool} {D : List Int} : D.all p = true ↔ ∀ i, i < D.length → p (nth D i) = true := by
  rw [List.all_eq_true]
  constructor
  · intro h i hi; rw [← nth_get hi]; exact h _ (List.getElem_mem hi)
  · intro h d hd
    obtain ⟨i, hi, rfl⟩ := List.mem_iff_getElem.1 hd
    rw [nth_get hi]; exact h i hi

theorem valid_spec {v : AV} {D : List Int} {N : List Note} (hs : IsTale v D N) (hl : D.length < 1000000) (hn : N.length < 1000000) : ∃ b : Bool, (b = true ↔ ValidS D N) ∧ ∀ m, denC prog ann 19 [v] m = some (.bool b, m) := by
  obtain ⟨vD, vN, rfl, hD, hN⟩ := hs.ex
  -- the last part: all deeds are done
  have T14 : ∀ b : Bool, Lims D N → (b = true ↔ Reach D N D) → ∀ t m, AM.get t 1 = .fptr [vD, vN] → den prog ann 19 [.code r09_Valid.r14, .code r09_Valid.r15, .code r09_Valid.k4, .code r09_Valid.r24, .code .ret] ⟨t, 132, m⟩ = some (.bool b, Mem.empty) := by
    intro b L hb t m ht
    have hn4 := L.n4
    have hone : oneL (List.replicate D.length (AV.int .i64 0)) = true := by
      have := ints_oneL (List.replicate D.length 0)
      simpa [ints] using this
    obtain ⟨fin, f1, f2, f3⟩ := sim_loop hD hN L (id := m.nx) _ (List.replicate D.length 0) true ⟨upd m.h m.nx (some (.cells (List.replicate D.length (.int .i64 0)))), m.nx + 1⟩ (Nat.le_refl _) Reach.zero (by simp [ints]) (fun h => by cases h)
    have e : decide (fin = D) = b := by
      have := fin_iff L.lo f1 f2
      cases b with
      | true => exact decide_eq_true (this.2 (hb.1 rfl))
      | false => exact decide_eq_false fun h => by have := hb.2 (this.1 h); cases this
    rw [e] at f3
    simp [ht, hD.len, hone, show D.length ≤ 4611686018427387904 by omega, show D.length * 8 ≤ 70368744177664 by omega, f3]
  -- from the lengths on
  have T6 : ∀ b : Bool, (∀ i, 0 ≤ nth D i ∧ nth D i ≤ 6) → (b = true ↔ ValidS D N) → ∀ t m, AM.get t 1 = .fptr [vD, vN] → den prog ann 19 [.code r09_Valid.r6, .code r09_Valid.i2, .code r09_Valid.r8, .code r09_Valid.k2, .code r09_Valid.r14, .code r09_Valid.r15, .code r09_Valid.k4, .code r09_Valid.r24, .code .ret] ⟨t, 132, m⟩ = some (.bool b, Mem.empty) := by
    intro b hD6 hb t m ht
    have no : ¬ ValidS D N → b = false := fun h => by cases b with | false => rfl | true => exact absurd (hb.1 rfl) h
    by_cases q1 : (decide (1 ≤ (D.length : Int)) && decide ((D.length : Int) ≤ 4)) = true
    · have ⟨n1, n4⟩ : 1 ≤ D.length ∧ D.length ≤ 4 := by simp only [Bool.and_eq_true, decide_eq_true_eq] at q1; omega
      by_cases q2 : (24 : Int) < N.length
      · have := no (fun v => by have := v.N24; omega)
        subst this
        simp [ht, hD.len, hN.len, in_spec, q1, q2]
      · by_cases q3 : N.all (noteIn D) = true
        · have hno : ∀ x ∈ N, NoteIn D x := fun x hx => noteIn_iff.1 (List.all_eq_true.1 q3 x hx)
          have L : Lims D N := ⟨n1, n4, fun i => (hD6 i).1, fun i => (hD6 i).2, by omega, fun x hx => ⟨(hno x hx).f0, (hno x hx).f1, (hno x hx).t0, (hno x hx).t1⟩⟩
          have hb' : b = true ↔ Reach D N D := hb.trans ⟨fun v => v.all, fun r => ⟨n1, n4, L.lo, L.hi, L.N24, hno, r⟩⟩
          have h2 := fun m => valid_notes hD hN hl hn (fun _ => T14 b L hb') _ 0 m (Nat.le_refl _) (by omega) rfl
          simp only [List.drop_zero, q3, if_true] at h2
          simp at h2
          simp [ht, hD.len, hN.len, in_spec, q1, q2, h2]
        · have := no (fun v => q3 (List.all_eq_true.2 fun x hx => noteIn_iff.2 (v.notes x hx)))
          subst this
          have h2 := fun m => valid_notes (R := none) hD hN hl hn (fun h => absurd h q3) _ 0 m (Nat.le_refl _) (by omega) rfl
          simp only [List.drop_zero, q3] at h2
          simp at h2
          simp [ht, hD.len, hN.len, in_spec, q1, q2, h2]
    · have := no (fun v => q1 (by have := v.n1; have := v.n4; simp; omega))
      subst this
      have q1' : (decide (1 ≤ (D.length : Int)) && decide ((D.length : Int) ≤ 4)) = false := by simpa using q1
      simp [ht, hD.len, hN.len, in_spec, q1']
  have hcl : closedL [AV.agg [vD, vN]] = true := by simp [hD.closed, hN.closed]
  obtain ⟨b, hb⟩ : ∃ b : Bool, b = true ↔ ValidS D N := by
    rcases Classical.em (ValidS D N) with h | h
    · exact ⟨true, by simp [h]⟩
    · exact ⟨false, by simp [h]⟩
  refine ⟨b, hb, fun m => ?_⟩
  rw [r09_Valid.call_eq _ _ hcl]
  by_cases q : D.all (fun d => decide (0 ≤ d) && decide (d ≤ 6)) = true
  · have hD6 : ∀ i, 0 ≤ nth D i ∧ nth D i ≤ 6 := by
      intro i
      rcases Nat.lt_or_ge i D.length with h | h
      · have := all_nth.1 q i h; simpa using this
      · rw [nth_out h]; omega
    have h0 := valid_deeds (vN := vN) hD hl (fun _ => T6 b hD6 hb) _ 0 Mem.empty (Nat.le_refl _) (by omega) rfl
    simp only [List.drop_zero, q, if_true] at h0
    simp at h0
    simp [hD.one, hN.one, hD.closed, hN.closed, h0]
  · have : b = false := by
      cases b with
      | false => rfl
      | true =>
        have v := hb.1 rfl
        exact absurd (all_nth.2 fun i hi => by simp [v.lo i, v.hi i]) q
    subst this
    have h0 := valid_deeds (vN := vN) (R := none) hD hl (fun h => absurd h q) _ 0 Mem.empty (Nat.le_refl _) (by omega) rfl
    simp only [List.drop_zero, q] at h0
    simp at h0
    simp [hD.one, hN.one, hD.closed, hN.closed, h0]
end Go.Proofs.Ytdkmepjedjclkaa
