/-
  WHAT THE REFERENCE COMPUTES OF A STORY: which cuts are consistent. Conditions: none.
-/
import Derived.Test.YtdkmepjedjclkaaSRefA
namespace Go.Proofs.Ytdkmepjedjclkaa
open Go.AM
open Go.Proofs.Try (prog)
set_option linter.all false
set_option maxRecDepth 10000

/-- A message: from a hand's deed to another hand's deed (deeds from 1 on). -/
structure Note where
  f : Int
  s : Int
  t : Int
  r : Int
deriving Inhabited

def noteC (x : Note) : List AV := [.int .i64 x.f, .int .i64 x.s, .int .i64 x.t, .int .i64 x.r]
theorem noteC_len (l : List Note) : ∀ x ∈ l, (noteC x).length = 4 := fun _ _ => rfl
@[simp] theorem noteC_one (x : Note) : oneL (noteC x) = true := rfl
@[simp] theorem noteC_closed (x : Note) : closedL (noteC x) = true := rfl
def nt (l : List Note) (i : Nat) : Note := l.getD i default
theorem nt_eq {l : List Note} {i : Nat} (h : i < l.length) : l[i]? = some (nt l i) := by
  rw [List.getElem?_eq_getElem h]; simp [nt, List.getD, List.getElem?_eq_getElem h]
theorem nt_mem {l : List Note} {i : Nat} (h : i < l.length) : nt l i ∈ l := List.mem_of_getElem? (nt_eq h)
theorem load_note {l : List Note} {i : Nat} (h : i < l.length) : loadF true 4 (.fptr (flatC noteC (l.drop i))) = some (.agg (noteC (nt l i))) := by
  rw [flatC_at (nt_eq h)]; simp [noteC]
theorem drop_nt {l : List Note} {i : Nat} (h : i < l.length) : l.drop i = nt l i :: l.drop (i + 1) := by
  obtain ⟨h1, h2⟩ := List.getElem?_eq_some_iff.1 (nt_eq h)
  rw [List.drop_eq_getElem_cons h1, h2]

/-- A story as an argument. -/
structure IsTale (v : AV) (D : List Int) (N : List Note) : Prop where
  ex : ∃ vD vN, v = .agg [vD, vN] ∧ IsInts vD D ∧ IsSl noteC vN N

theorem IsTale.closed {v : AV} {D : List Int} {N : List Note} (h : IsTale v D N) : v.closed = true := by
  obtain ⟨vD, vN, rfl, h1, h2⟩ := h.ex; simp [h1.closed, h2.closed]

/-- Does a cut hold what was received without what was sent? -/
def noteOk (c : List Int) (x : Note) : Bool := !(decide (x.r ≤ nth c x.t.toNat) && decide (nth c x.f.toNat < x.s))
def conR (N : List Note) (c : List Int) : Bool := N.all (noteOk c)

theorem consR_loop {vD vN vc : AV} {D : List Int} {N : List Note} {c : List Int} (hD : IsInts vD D) (hN : IsSl noteC vN N) (hc : IsInts vc c) (hl : N.length < 1000000)
    (hr : ∀ x ∈ N, 0 ≤ x.f ∧ x.f < c.length ∧ 0 ≤ x.t ∧ x.t < c.length) : ∀ (n i : Nat) (m : Mem), N.length - i ≤ n → i ≤ N.length →
    r09_Consistent.L0 vc (.fptr [vD, vN]) (.int .i64 i) m [.code r09_Consistent.r7, .code .ret] = some (.bool (conR (N.drop i) c), Mem.empty) := by
  intro n
  induction n with
  | zero =>
    intro i m h1 h2
    have e : i = N.length := by omega
    subst e
    rw [r09_Consistent.L0_eq]
    simp [hN.len, conR]
  | succ n ih =>
    intro i m h1 h2
    by_cases h3 : i < N.length
    · rw [r09_Consistent.L0_eq]
      obtain ⟨f0, f1, t0, t1⟩ := hr _ (nt_mem h3)
      have hw : IntKind.wrap .i64 ((i : Int) + 1) = (i : Int) + 1 := wrap_id (by omega) (by omega)
      simp [hN.len, h3, hN.idx (noteC_len N) h3, load_note h3]
      simp [noteC, hc.idxI f0 f1, hc.idxI t0 t1, ints_headI f0 f1, ints_headI t0 t1]
      have hi := fun m => ih (i + 1) m (by omega) (by omega)
      simp at hi
      have hd : conR (N.drop i) c = (noteOk c (nt N i) && conR (N.drop (i + 1)) c) := by rw [drop_nt h3]; rfl
      rw [hd]
      by_cases q1 : (nt N i).r ≤ nth c (nt N i).t.toNat
      · by_cases q2 : nth c (nt N i).f.toNat < (nt N i).s
        · simp [q1, q2, hc.idxI f0 f1, ints_headI f0 f1, noteOk]
        · simp [q1, q2, hc.idxI f0 f1, ints_headI f0 f1, noteOk, hw, hi]
      · simp [q1, noteOk, hw, hi]
    · have e : i = N.length := by omega
      subst e
      rw [r09_Consistent.L0_eq]
      simp [hN.len, conR]

theorem consR_spec {v vc : AV} {D : List Int} {N : List Note} {c : List Int} (hs : IsTale v D N) (hc : IsInts vc c) (hl : N.length < 1000000)
    (hr : ∀ x ∈ N, 0 ≤ x.f ∧ x.f < c.length ∧ 0 ≤ x.t ∧ x.t < c.length) (m : Mem) : denC prog ann 66 [v, vc] m = some (.bool (conR N c), m) := by
  have hcl := hs.closed
  obtain ⟨vD, vN, rfl, hD, hN⟩ := hs.ex
  rw [r09_Consistent.call_eq _ _ _ (by simp [hc.closed, hD.closed, hN.closed])]
  have := consR_loop hD hN hc hl hr _ 0 Mem.empty (Nat.le_refl _) (by omega)
  simp at this
  simp [hD.one, hN.one, hD.closed, hN.closed, this]

theorem in_spec (v lo hi : Int) (m : Mem) : denC prog ann 64 [.int .i64 v, .int .i64 lo, .int .i64 hi] m = some (.bool (decide (lo ≤ v) && decide (v ≤ hi)), m) := by
  rw [r09_in.call_eq _ _ _ _ (by simp)]
  simp
  by_cases h : lo ≤ v <;> simp [h]

/-- Are all messages there that the next deed of a hand receives? -/
def readyOk (done : List Int) (h : Nat) (x : Note) : Bool := !(decide (x.t = h) && (decide (x.r = nth done h + 1) && decide (nth done x.f.toNat < x.s)))
def readyL (N : List Note) (done : List Int) (h : Nat) : Bool := N.all (readyOk done h)

theorem ready_loop {vD vN vd : AV} {N : List Note} {done : List Int} (hN : IsSl noteC vN N) (hd : IsInts vd done) (hl : N.length < 1000000) {h : Nat} (hh : h < done.length) (hb : nth done h < 1000000) (hb0 : 0 ≤ nth done h)
    (hr : ∀ x ∈ N, 0 ≤ x.f ∧ x.f < done.length ∧ 0 ≤ x.t ∧ x.t < done.length) : ∀ (n i : Nat) (m : Mem), N.length - i ≤ n → i ≤ N.length →
    r09_ready.L0 vd (.int .i64 h) (.fptr [vD, vN]) (.int .i64 i) m [.code r09_ready.r7, .code .ret] = some (.bool (readyL (N.drop i) done h), Mem.empty) := by
  intro n
  induction n with
  | zero =>
    intro i m h1 h2
    have e : i = N.length := by omega
    subst e
    rw [r09_ready.L0_eq]
    simp [hN.len, readyL]
  | succ n ih =>
    intro i m h1 h2
    by_cases h3 : i < N.length
    · rw [r09_ready.L0_eq]
      obtain ⟨f0, f1, t0, t1⟩ := hr _ (nt_mem h3)
      have hw : IntKind.wrap .i64 ((i : Int) + 1) = (i : Int) + 1 := wrap_id (by omega) (by omega)
      have hw2 : IntKind.wrap .i64 (nth done h + 1) = nth done h + 1 := wrap_id (by omega) (by omega)
      have hi := fun m => ih (i + 1) m (by omega) (by omega)
      simp at hi
      have hd' : readyL (N.drop i) done h = (readyOk done h (nt N i) && readyL (N.drop (i + 1)) done h) := by rw [drop_nt h3]; rfl
      rw [hd']
      simp [hN.len, h3, hN.idx (noteC_len N) h3, load_note h3]
      by_cases q0 : (nt N i).t = h
      · by_cases q1 : (nt N i).r = nth done h + 1
        · by_cases q2 : nth done (nt N i).f.toNat < (nt N i).s
          · simp [noteC, q0, q1, q2, hd.idx hh, ints_head hh, hd.idxI f0 f1, ints_headI f0 f1, readyOk, hw2]
          · simp [noteC, q0, q1, q2, hd.idx hh, ints_head hh, hd.idxI f0 f1, ints_headI f0 f1, readyOk, hw2, hw, hi]
        · simp [noteC, q0, q1, hd.idx hh, ints_head hh, readyOk, hw2, hw, hi]
      · simp [noteC, q0, readyOk, hw, hi]
    · have e : i = N.length := by omega
      subst e
      rw [r09_ready.L0_eq]
      simp [hN.len, readyL]

theorem ready_spec {v vd : AV} {D : List Int} {N : List Note} {done : List Int} (hs : IsTale v D N) (hd : IsInts vd done) (hl : N.length < 1000000) {h : Nat} (hh : h < done.length) (hb : nth done h < 1000000) (hb0 : 0 ≤ nth done h)
    (hr : ∀ x ∈ N, 0 ≤ x.f ∧ x.f < done.length ∧ 0 ≤ x.t ∧ x.t < done.length) (m : Mem) : denC prog ann 65 [v, vd, .int .i64 h] m = some (.bool (readyL N done h), m) := by
  obtain ⟨vD, vN, rfl, hD, hN⟩ := hs.ex
  rw [r09_ready.call_eq _ _ _ _ (by simp [hd.closed, hD.closed, hN.closed])]
  have := ready_loop (vD := vD) hN hd hl hh hb hb0 hr _ 0 Mem.empty (Nat.le_refl _) (by omega)
  simp at this
  simp [hD.one, hN.one, hD.closed, hN.closed, this]
end Go.Proofs.Ytdkmepjedjclkaa
