/-
  THE PROGRAM READS A STORY (3): clocks grow till all messages are in order: the least clocks. Conditions: none.
-/
import Derived.Test.YtdkmepjedjclkaaSReadB
namespace Go.Proofs.Ytdkmepjedjclkaa
open Go.AM
open Go.Proofs.Try (prog)
set_option linter.all false
set_option maxRecDepth 10000

/-- Clocks that take in what comes before (deeds from 0 on). -/
structure Super (D : List Int) (N : List Note) (V : Nat → Nat → Nat → Int) : Prop where
  unit : ∀ (h i : Nat), (i : Int) < nth D h → (i : Int) + 1 ≤ V h i h
  pos : ∀ h i g, 0 ≤ V h i g
  own : ∀ (h i g : Nat), (i : Int) + 1 < nth D h → V h i g ≤ V h (i + 1) g
  note : ∀ x ∈ N, ∀ g, V x.f.toNat (x.s.toNat - 1) g ≤ V x.t.toNat (x.r.toNat - 1) g

/-- What is known of the clocks while they grow. -/
structure Inv (D : List Int) (N : List Note) (K : List (List (List Int))) : Prop where
  rows : ∀ h, h < D.length → ((kth K h).length : Int) = nth D h
  none : ∀ h, D.length ≤ h → kth K h = []
  low : ∀ V, Super D N V → ∀ h i, i < (kth K h).length → ∀ g, nth (cth (kth K h) i) g ≤ V h i g
  unit : ∀ (h i : Nat), i < (kth K h).length → (i : Int) + 1 ≤ nth (cth (kth K h) i) h
  pos : ∀ h i, i < (kth K h).length → ∀ g, 0 ≤ nth (cth (kth K h) i) g

theorem nth_zmax {a b : List Int} (hl : a.length = b.length) (g : Nat) : nth (zmax a b) g = max (nth a g) (nth b g) := by
  simp only [nth, List.getD, zmax, List.getElem?_zipWith]
  rcases Nat.lt_or_ge g a.length with h | h
  · simp [List.getElem?_eq_getElem h, List.getElem?_eq_getElem (show g < b.length by omega)]
  · simp [List.getElem?_eq_none h, List.getElem?_eq_none (show b.length ≤ g by omega)]

theorem Inv.grow {D : List Int} {N : List Note} {K : List (List (List Int))} (I : Inv D N K) (hK : K.length = 4) (hf : ∀ h, Four (kth K h)) {h i : Nat} (hh : h < 4) (hi : i < (kth K h).length) {c : List Int} (hc : c.length = 4)
    (hl : ∀ V, Super D N V → ∀ g, nth c g ≤ V h i g) : Inv D N (growK K h i c) := by
  have hk := fun g => kth_set (K := K) (h := h) (g := g) (r := (kth K h).set i (zmax (cth (kth K h) i) c)) (by rw [hK]; exact hh)
  have hkl : ∀ g, (kth (growK K h i c) g).length = (kth K g).length := by
    intro g; rw [growK, hk]; split
    · rename_i e; subst e; simp
    · rfl
  have hc0 : (cth (kth K h) i).length = 4 := hf h _ (cth_mem hi)
  have hcth : ∀ g j, j < (kth K g).length → cth (kth (growK K h i c) g) j = if g = h ∧ j = i then zmax (cth (kth K h) i) c else cth (kth K g) j := by
    intro g j hj
    rw [growK, hk]
    by_cases e : g = h
    · subst e
      simp only [if_true, true_and]
      simp only [cth, List.getD, List.getElem?_set]
      by_cases e2 : i = j
      · subst e2; simp [hi]
      · have : ¬ j = i := fun x => e2 x.symm
        simp [e2, this]
    · simp [e]
  refine ⟨fun g hg => by rw [hkl]; exact I.rows g hg, fun g hg => List.length_eq_zero_iff.1 (by rw [hkl, I.none g hg]; rfl), fun V hV g j hj q => ?_, fun g j hj => ?_, fun g j hj q => ?_⟩
  · rw [hkl] at hj
    rw [hcth g j hj]
    split
    · rename_i e; obtain ⟨rfl, rfl⟩ := e
      rw [nth_zmax (by rw [hc0, hc])]
      have := I.low V hV g j hj q; have := hl V hV q; omega
    · exact I.low V hV g j hj q
  · rw [hkl] at hj
    rw [hcth g j hj]
    split
    · rename_i e; obtain ⟨rfl, rfl⟩ := e
      rw [nth_zmax (by rw [hc0, hc])]
      have := I.unit g j hj; omega
    · exact I.unit g j hj
  · rw [hkl] at hj
    rw [hcth g j hj]
    split
    · rename_i e; obtain ⟨rfl, rfl⟩ := e
      rw [nth_zmax (by rw [hc0, hc])]
      have := I.pos g j hj q; omega
    · exact I.pos g j hj q

/-! ### How far the clocks have come -/
def tot (K : List (List (List Int))) : Int := (K.map fun r => (r.map List.sum).sum).sum

theorem map_sum_set {α : Type} (f : α → Int) : ∀ (l : List α) (i : Nat) (a b : α), l[i]? = some b → ((l.set i a).map f).sum = (l.map f).sum - f b + f a
  | [], i, a, b, h => by simp at h
  | x :: l, 0, a, b, h => by simp at h; subst h; simp; omega
  | x :: l, i + 1, a, b, h => by
    have := map_sum_set f l i a b (by simpa using h)
    simp only [List.set_cons_succ, List.map_cons, List.sum_cons, this]; omega

theorem zmax_sum : ∀ (a b : List Int), a.length = b.length → a.sum ≤ (zmax a b).sum ∧ (zmax a b ≠ a → a.sum < (zmax a b).sum)
  | [], [], _ => ⟨by simp [zmax], fun h => absurd rfl h⟩
  | x :: a, y :: b, h => by
    obtain ⟨h1, h2⟩ := zmax_sum a b (by simpa using h)
    simp only [zmax, List.zipWith_cons_cons, List.sum_cons] at h1 h2 ⊢
    refine ⟨by omega, fun hne => ?_⟩
    by_cases e : max x y = x
    · have : List.zipWith max a b ≠ a := fun e2 => hne (by rw [e, e2])
      have := h2 this
      omega
    · omega

theorem tot_grow {K : List (List (List Int))} (hK : K.length = 4) (hf : ∀ h, Four (kth K h)) {h i : Nat} (hh : h < 4) (hi : i < (kth K h).length) {c : List Int} (hc : c.length = 4) :
    (grows K h i c = false → growK K h i c = K) ∧ (grows K h i c = true → tot K < tot (growK K h i c)) := by
  refine ⟨growK_same (by rw [hK]; exact hh) hi, fun hg => ?_⟩
  have hc0 : (cth (kth K h) i).length = 4 := hf h _ (cth_mem hi)
  have hne : zmax (cth (kth K h) i) c ≠ cth (kth K h) i := by simpa [grows] using hg
  have h1 := (zmax_sum (cth (kth K h) i) c (by rw [hc0, hc])).2 hne
  have h2 := map_sum_set (fun r : List (List Int) => (r.map List.sum).sum) K h ((kth K h).set i (zmax (cth (kth K h) i) c)) (kth K h) (kth_some (by rw [hK]; exact hh))
  have h3 := map_sum_set (List.sum : List Int → Int) (kth K h) i (zmax (cth (kth K h) i) c) (cth (kth K h) i) (cth_eq hi)
  simp only [tot, growK]
  rw [h2, h3]
  omega

/-- A sweep so far: nothing has grown, and what was looked at was in order; or something has grown. -/
def Prog (K0 K : List (List (List Int))) (mv : Bool) (E : Prop) : Prop := (mv = false ∧ K = K0 ∧ E) ∨ (mv = true ∧ tot K0 < tot K)

theorem Prog.step {K0 K : List (List (List Int))} {mv : Bool} {E E' : Prop} (p : Prog K0 K mv E) (hK : K.length = 4) (hf : ∀ h, Four (kth K h)) {h i : Nat} (hh : h < 4) (hi : i < (kth K h).length) {c : List Int} (hc : c.length = 4)
    (hE : E → K = K0 → grows K0 h i c = false → E') : Prog K0 (growK K h i c) (mv || grows K h i c) E' := by
  obtain ⟨t1, t2⟩ := tot_grow hK hf hh hi hc
  cases hg : grows K h i c with
  | false =>
    rw [t1 hg, Bool.or_false]
    rcases p with ⟨a, b, e⟩ | p
    · subst b; exact .inl ⟨a, rfl, hE e rfl hg⟩
    · exact .inr p
  | true =>
    have := t2 hg
    rw [Bool.or_true]
    rcases p with ⟨a, b, e⟩ | ⟨a, b⟩
    · subst b; exact .inr ⟨rfl, this⟩
    · exact .inr ⟨rfl, by omega⟩

theorem Prog.weak {K0 K : List (List (List Int))} {mv : Bool} {E E' : Prop} (p : Prog K0 K mv E) (h : E → E') : Prog K0 K mv E' := p.imp (fun ⟨a, b, c⟩ => ⟨a, b, h c⟩) fun h => h

def okOwn (K : List (List (List Int))) (h i : Nat) : Prop := grows K h i (cth (kth K h) (i - 1)) = false
def okNote (K : List (List (List Int))) (x : Note) : Prop := grows K x.t.toNat (x.r.toNat - 1) (cth (kth K x.f.toNat) (x.s.toNat - 1)) = false

/-- The story within the limits, its messages those of its deeds. -/
structure Pre (D : List Int) (N : List Note) : Prop where
  L : Lims D N
  notes : ∀ x ∈ N, NoteIn D x

noncomputable def t6 : List Item := [.inBlock 7, .code watch_read.r41, .code watch_read.r42, .inLoop watch_read.l6, .inBlock 6, .code watch_read.r43, .code watch_read.k14, .code watch_read.r59, .code .ret]

theorem own_loop {vD vN : AV} {D D4 : List Int} {N : List Note} (hD : IsInts vD D) (P : Pre D N) {sid : Nat} {ids : Nat → Nat} {mid : Nat} {K0 : List (List (List Int))} {h : Nat} (hh : h < D.length) : ∀ (k i : Nat) (m : Mem) (K : List (List (List Int))) (mv : Bool) (E : Prop), (nth D h).toNat - i ≤ k → 1 ≤ i →
    MAt m sid ids D.length D4 K mid mv → Inv D N K → Prog K0 K mv E →
    ∃ m' K' mv', watch_read.L10 (.fptr [vD, vN]) (.fptr [.int .i64 D.length]) (.sptr [.ptr sid 0 9]) (.ptr mid 0 1) (.fn 95 [] [.sptr [.ptr sid 0 9], .ptr mid 0 1]) (.int .i64 h) (.int .i64 i) (.int .i64 D.length) (.int .i64 h) m (.inBlock 9 :: .code watch_read.r35 :: .inLoop watch_read.l8 :: .inBlock 8 :: .code watch_read.r36 :: .code watch_read.k12 :: t6) =
        watch_read.L8 (.fptr [vD, vN]) (.fptr [.int .i64 D.length]) (.sptr [.ptr sid 0 9]) (.ptr mid 0 1) (.fn 95 [] [.sptr [.ptr sid 0 9], .ptr mid 0 1]) (.int .i64 D.length) (.int .i64 ((h : Int) + 1)) m' (.code watch_read.r36 :: .code watch_read.k12 :: t6) ∧
      MAt m' sid ids D.length D4 K' mid mv' ∧ Inv D N K' ∧ Prog K0 K' mv' (E ∧ ∀ j, i ≤ j → (j : Int) < nth D h → okOwn K0 h j) := by
  have hn4 := P.L.n4
  have hwh : IntKind.wrap .i64 ((h : Int) + 1) = (h : Int) + 1 := wrap_id (by omega) (by omega)
  have hpos := P.L.lo h
  have h6 := P.L.hi h
  intro k
  induction k with
  | zero =>
    intro i m K mv E hk h1 s I p
    refine ⟨m, K, mv, ?_, s, I, p.weak fun e => ⟨e, fun j h2 h3 => by omega⟩⟩
    rw [watch_read.L10_eq]
    have hni : ¬ (i : Int) < nth D h := by omega
    simp [hD.idx hh, ints_head hh, hni, hwh, t6]
  | succ k ih =>
    intro i m K mv E hk h1 s I p
    by_cases h3 : (i : Int) < nth D h
    · have hr := I.rows h hh
      have hi : i < (kth K h).length := by omega
      have hi1 : i - 1 < (kth K h).length := by omega
      have hh4 : h < 4 := by omega
      have hc : (cth (kth K h) (i - 1)).length = 4 := s.s.four h _ (cth_mem hi1)
      obtain ⟨V, v1, v2, v3, v4⟩ := s.s.at
      simp only [List.length_cons, List.length_append, ints_len] at v4
      have v3' := v3 h hh4
      obtain ⟨c1, c2⟩ := s.s.clock hh4 hi1
      rw [c1] at v3'
      have hw1 : IntKind.wrap .i64 ((i : Int) - 1) = ((i - 1 : Nat) : Int) := by rw [wrap_id (by omega) (by omega)]; omega
      have hwi : IntKind.wrap .i64 ((i : Int) + 1) = (i : Int) + 1 := wrap_id (by omega) (by omega)
      obtain ⟨m1, g1, g2, g3⟩ := grow_run s hh4 hi hc
      have I1 : Inv D N (growK K h i (cth (kth K h) (i - 1))) := I.grow s.K4 s.s.four hh4 hi hc fun V hV g => by
        have e1 := I.low V hV h (i - 1) hi1 g
        have e2 := hV.own h (i - 1) g (by omega)
        rw [show i - 1 + 1 = i by omega] at e2
        omega
      have p1 := p.step s.K4 s.s.four hh4 hi hc (E' := E ∧ okOwn K0 h i) fun e eK hg => ⟨e, by subst eK; exact hg⟩
      obtain ⟨m', K', mv', i1, i2, i3, i4⟩ := ih (i + 1) m1 _ _ _ (by omega) (by omega) g2 I1 p1
      refine ⟨m', K', mv', ?_, i2, i3, i4.weak fun ⟨⟨e1, e2⟩, e3⟩ => ⟨e1, fun j h4 h5 => ?_⟩⟩
      · rw [← i1, watch_read.L10_eq]
        simp [hD.idx hh, ints_head hh, h3, v1, v4, v3', hh4, hw1, hi1, c2, g1, hwi]
      · by_cases e : j = i
        · subst e; exact e2
        · exact e3 j (by omega) h5
    · refine ⟨m, K, mv, ?_, s, I, p.weak fun e => ⟨e, fun j h2 h3 => by omega⟩⟩
      rw [watch_read.L10_eq]
      simp [hD.idx hh, ints_head hh, h3, hwh, t6]

theorem hand_loop {vD vN : AV} {D D4 : List Int} {N : List Note} (hD : IsInts vD D) (P : Pre D N) {sid : Nat} {ids : Nat → Nat} {mid : Nat} {K0 : List (List (List Int))} : ∀ (k h : Nat) (m : Mem) (K : List (List (List Int))) (mv : Bool) (E : Prop), h + k = D.length →
    MAt m sid ids D.length D4 K mid mv → Inv D N K → Prog K0 K mv E →
    ∃ m' K' mv', watch_read.L8 (.fptr [vD, vN]) (.fptr [.int .i64 D.length]) (.sptr [.ptr sid 0 9]) (.ptr mid 0 1) (.fn 95 [] [.sptr [.ptr sid 0 9], .ptr mid 0 1]) (.int .i64 D.length) (.int .i64 h) m (.code watch_read.r36 :: .code watch_read.k12 :: t6) =
        watch_read.L8 (.fptr [vD, vN]) (.fptr [.int .i64 D.length]) (.sptr [.ptr sid 0 9]) (.ptr mid 0 1) (.fn 95 [] [.sptr [.ptr sid 0 9], .ptr mid 0 1]) (.int .i64 D.length) (.int .i64 D.length) m' (.code watch_read.r36 :: .code watch_read.k12 :: t6) ∧
      MAt m' sid ids D.length D4 K' mid mv' ∧ Inv D N K' ∧ Prog K0 K' mv' (E ∧ ∀ (g j : Nat), h ≤ g → g < D.length → 1 ≤ j → (j : Int) < nth D g → okOwn K0 g j) := by
  have hn4 := P.L.n4
  intro k
  induction k with
  | zero =>
    intro h m K mv E hk s I p
    have e : h = D.length := by omega
    subst e
    exact ⟨m, K, mv, rfl, s, I, p.weak fun e => ⟨e, fun g j h2 h3 => by omega⟩⟩
  | succ k ih =>
    intro h m K mv E hk s I p
    have hh : h < D.length := by omega
    obtain ⟨m1, K1, mv1, a1, a2, a3, a4⟩ := own_loop hD P (vN := vN) (sid := sid) (ids := ids) (mid := mid) (D4 := D4) (K0 := K0) hh _ 1 m K mv E (Nat.le_refl _) (by omega) s I p
    obtain ⟨m', K', mv', i1, i2, i3, i4⟩ := ih (h + 1) m1 K1 mv1 _ (by omega) a2 a3 a4
    refine ⟨m', K', mv', ?_, i2, i3, i4.weak fun ⟨⟨e1, e2⟩, e3⟩ => ⟨e1, fun g j h2 h3 h4 h5 => ?_⟩⟩
    · rw [← i1, watch_read.L8_eq]
      simp at a1
      simp [hh, a1]
    · by_cases e : g = h
      · subst e; exact e2 j h4 h5
      · exact e3 g j (by omega) h3 h4 h5

theorem note_loop {vD vN : AV} {D D4 : List Int} {N : List Note} (hN : IsSl noteC vN N) (P : Pre D N) {sid : Nat} {ids : Nat → Nat} {mid : Nat} {K0 : List (List (List Int))} : ∀ (k i : Nat) (m : Mem) (K : List (List (List Int))) (mv : Bool) (E : Prop), N.length - i ≤ k → i ≤ N.length →
    MAt m sid ids D.length D4 K mid mv → Inv D N K → Prog K0 K mv E →
    ∃ m' K' mv', watch_read.L12 (.fptr [vD, vN]) (.fptr [.int .i64 D.length]) (.sptr [.ptr sid 0 9]) (.ptr mid 0 1) (.fn 95 [] [.sptr [.ptr sid 0 9], .ptr mid 0 1]) vN (.int .i64 N.length) (.int .i64 i) m t6 =
        watch_read.L12 (.fptr [vD, vN]) (.fptr [.int .i64 D.length]) (.sptr [.ptr sid 0 9]) (.ptr mid 0 1) (.fn 95 [] [.sptr [.ptr sid 0 9], .ptr mid 0 1]) vN (.int .i64 N.length) (.int .i64 N.length) m' t6 ∧
      MAt m' sid ids D.length D4 K' mid mv' ∧ Inv D N K' ∧ Prog K0 K' mv' (E ∧ ∀ x ∈ N.drop i, okNote K0 x) := by
  have hn4 := P.L.n4
  have h24 := P.L.N24
  intro k
  induction k with
  | zero =>
    intro i m K mv E hk h1 s I p
    have e : i = N.length := by omega
    subst e
    exact ⟨m, K, mv, rfl, s, I, p.weak fun e => ⟨e, fun x hx => by simp at hx⟩⟩
  | succ k ih =>
    intro i m K mv E hk h1 s I p
    by_cases h3 : i < N.length
    · have hx := P.notes _ (nt_mem h3)
      obtain ⟨f0, f1, t0, t1, ne, s0, s1, r0, r1⟩ := hx
      have hlf := P.L.hi (nt N i).f.toNat
      have hlt := P.L.hi (nt N i).t.toNat
      have rf := I.rows (nt N i).f.toNat (by omega)
      have rt := I.rows (nt N i).t.toNat (by omega)
      have if1 : (nt N i).s.toNat - 1 < (kth K (nt N i).f.toNat).length := by omega
      have it1 : (nt N i).r.toNat - 1 < (kth K (nt N i).t.toNat).length := by omega
      have hf4 : (nt N i).f.toNat < 4 := by omega
      have ht4 : (nt N i).t.toNat < 4 := by omega
      have hc : (cth (kth K (nt N i).f.toNat) ((nt N i).s.toNat - 1)).length = 4 := s.s.four _ _ (cth_mem if1)
      have s1' : MAt ⟨upd m.h m.nx none, m.nx + 1 + 19⟩ sid ids D.length D4 K mid mv := s.mono (by simp; omega) (fun id hid => by have : (id == m.nx) = false := by { simp; omega }; simp [this])
      obtain ⟨V, v1, v2, v3, v4⟩ := s1'.s.at
      simp only [List.length_cons, List.length_append, ints_len] at v4
      have v3' := v3 _ hf4
      obtain ⟨c1, c2⟩ := s1'.s.clock hf4 if1
      rw [c1] at v3'
      have hws : IntKind.wrap .i64 ((nt N i).s - 1) = (((nt N i).s.toNat - 1 : Nat) : Int) := by rw [wrap_id (by omega) (by omega)]; omega
      have hwr : IntKind.wrap .i64 ((nt N i).r - 1) = (((nt N i).r.toNat - 1 : Nat) : Int) := by rw [wrap_id (by omega) (by omega)]; omega
      have hwi : IntKind.wrap .i64 ((i : Int) + 1) = (i : Int) + 1 := wrap_id (by omega) (by omega)
      have et : (((nt N i).t.toNat : Nat) : Int) = (nt N i).t := by omega
      obtain ⟨m1, g1, g2, g3⟩ := grow_run s1' ht4 it1 hc
      rw [et] at g1
      have I1 : Inv D N (growK K (nt N i).t.toNat ((nt N i).r.toNat - 1) (cth (kth K (nt N i).f.toNat) ((nt N i).s.toNat - 1))) := I.grow s.K4 s.s.four ht4 it1 hc fun V hV g => by
        have e1 := I.low V hV _ _ if1 g
        have e2 := hV.note _ (nt_mem h3) g
        omega
      have p1 := p.step s.K4 s.s.four ht4 it1 hc (E' := E ∧ okNote K0 (nt N i)) fun e eK hg => ⟨e, by subst eK; exact hg⟩
      obtain ⟨m', K', mv', i1, i2, i3, i4⟩ := ih (i + 1) m1 _ _ _ (by omega) (by omega) g2 I1 p1
      refine ⟨m', K', mv', ?_, i2, i3, i4.weak fun ⟨⟨e1, e2⟩, e3⟩ => ⟨e1, fun x hx => ?_⟩⟩
      · rw [← i1, watch_read.L12_eq]
        have hf5 : (decide (0 ≤ (nt N i).f) && decide ((nt N i).f < 4)) = true := by simp; omega
        simp at v1 c2
        simp [h3, hN.idx (noteC_len N) h3, load_note h3, noteC, hws, hwr, f0, show (nt N i).f < 4 by omega, v1, v4, v3', if1, c2, g1, hwi]
      · rw [drop_nt h3] at hx
        rcases List.mem_cons.1 hx with rfl | hx
        · exact e2
        · exact e3 x hx
    · have e : i = N.length := by omega
      subst e
      exact ⟨m, K, mv, rfl, s, I, p.weak fun e => ⟨e, fun x hx => by simp at hx⟩⟩

/-- Clocks that have taken in all that comes before. -/
def Closed (D : List Int) (N : List Note) (K : List (List (List Int))) : Prop := (∀ (g j : Nat), g < D.length → 1 ≤ j → (j : Int) < nth D g → okOwn K g j) ∧ ∀ x ∈ N, okNote K x

theorem sum_bound {B : Int} (hB : 0 ≤ B) : ∀ (l : List Int), (∀ x ∈ l, x ≤ B) → l.sum ≤ l.length * B
  | [], _ => by simp
  | x :: l, h => by
    have h1 := h x (by simp)
    have h2 := sum_bound hB l (fun y hy => h y (by simp [hy]))
    simp only [List.sum_cons, List.length_cons, Int.natCast_add, Int.add_mul]
    omega

theorem Inv.tot {D : List Int} {N : List Note} {K : List (List (List Int))} (I : Inv D N K) (L : Lims D N) (hK : K.length = 4) (hf : ∀ h, Four (kth K h)) (h6 : ∀ h, (kth K h).length ≤ 6) : Proofs.Ytdkmepjedjclkaa.tot K ≤ 576 := by
  have hV : Super D N (fun h i g => nth D g) := ⟨fun h i hi => by omega, fun h i g => L.lo g, fun _ _ _ _ => Int.le_refl _, fun _ _ _ => Int.le_refl _⟩
  have hc : ∀ h, ∀ c ∈ kth K h, c.sum ≤ 24 := by
    intro h c hc
    obtain ⟨i, hi, rfl⟩ := List.mem_iff_getElem.1 hc
    have e : (kth K h)[i] = cth (kth K h) i := by simp [cth, List.getD, List.getElem?_eq_getElem hi]
    rw [e]
    have h4 := hf h _ (cth_mem hi)
    have := sum_bound (B := 6) (by omega) (cth (kth K h) i) (fun x hx => by
      obtain ⟨g, hg, rfl⟩ := List.mem_iff_getElem.1 hx
      rw [nth_get hg]
      have h1 := I.low _ hV h i hi g
      have h2 := L.hi g
      omega)
    omega
  have hr : ∀ r ∈ K, (r.map List.sum).sum ≤ 144 := by
    intro r hr
    obtain ⟨h, hh, rfl⟩ := List.mem_iff_getElem.1 hr
    have e : K[h] = kth K h := by simp [kth, List.getD, List.getElem?_eq_getElem hh]
    rw [e]
    have := sum_bound (B := 24) (by omega) ((kth K h).map List.sum) (fun x hx => by
      obtain ⟨c, h1, rfl⟩ := List.mem_map.1 hx
      exact hc h c h1)
    have h2 := h6 h
    rw [List.length_map] at this
    omega
  have := sum_bound (B := 144) (by omega) (K.map fun r => (r.map List.sum).sum) (fun x hx => by
    obtain ⟨r, h1, rfl⟩ := List.mem_map.1 hx
    exact hr r h1)
  rw [List.length_map, hK] at this
  exact this

theorem sweepK {vD vN : AV} {D D4 : List Int} {N : List Note} (hD : IsInts vD D) (hN : IsSl noteC vN N) (P : Pre D N) {sid : Nat} {ids : Nat → Nat} {mid : Nat} {m : Mem} {K : List (List (List Int))} (s : MAt m sid ids D.length D4 K mid true) (I : Inv D N K) :
    ∃ m' K' mv' mid', watch_read.L6 (.fptr [vD, vN]) (.fptr [.int .i64 D.length]) (.sptr [.ptr sid 0 9]) (.ptr mid 0 1) m [.code watch_read.r43, .code watch_read.k14, .code watch_read.r59, .code .ret] =
        watch_read.L6 (.fptr [vD, vN]) (.fptr [.int .i64 D.length]) (.sptr [.ptr sid 0 9]) (.ptr mid' 0 1) m' [.code watch_read.r43, .code watch_read.k14, .code watch_read.r59, .code .ret] ∧
      MAt m' sid ids D.length D4 K' mid' mv' ∧ Inv D N K' ∧ Prog K K' mv' (Closed D N K) := by
  have s0 : MAt ⟨upd m.h mid (some (.cells [.bool false])), m.nx⟩ sid ids D.length D4 K mid false := by
    obtain ⟨V, w1, w2, w3⟩ := s.s.st
    have n1 : (sid == mid) = false := by simpa using (fun e => s.ms e.symm)
    refine ⟨⟨⟨V, by simpa [n1] using w1, w2, w3⟩, s.s.D4, fun h a b => ?_, s.s.slt, s.s.lt, s.s.ne, s.s.inj, s.s.four, s.s.few⟩, s.K4, by simp, s.mlt, s.ms, s.mi⟩
    have n2 : (ids h == mid) = false := by simpa using (fun e => s.mi h a b e.symm)
    simpa [n2] using s.s.cl h a b
  obtain ⟨m1, K1, mv1, a1, a2, a3, a4⟩ := hand_loop hD P (vN := vN) (sid := sid) (ids := ids) (mid := mid) (D4 := D4) (K0 := K) D.length 0 _ K false True (by omega) s0 I (.inl ⟨rfl, rfl, trivial⟩)
  obtain ⟨m2, K2, mv2, b1, b2, b3, b4⟩ := note_loop (vD := vD) hN P (sid := sid) (ids := ids) (mid := mid) (D4 := D4) (K0 := K) N.length 0 m1 K1 mv1 _ (by omega) (by omega) a2 a3 a4
  refine ⟨⟨upd m2.h m2.nx (some (.cells [.bool mv2])), m2.nx + 1⟩, K2, mv2, m2.nx, ?_, ?_, b3, b4.weak fun ⟨⟨_, e1⟩, e2⟩ => ⟨fun g j hg h1 h2 => e1 g j (by omega) hg h1 h2, by simpa using e2⟩⟩
  · -- the end of the first part leads to the second one; the end of the second one leads to the next sweep
    have x1 : watch_read.L8 (.fptr [vD, vN]) (.fptr [.int .i64 D.length]) (.sptr [.ptr sid 0 9]) (.ptr mid 0 1) (.fn 95 [] [.sptr [.ptr sid 0 9], .ptr mid 0 1]) (.int .i64 D.length) (.int .i64 D.length) m1 (.code watch_read.r36 :: .code watch_read.k12 :: t6) =
        watch_read.L12 (.fptr [vD, vN]) (.fptr [.int .i64 D.length]) (.sptr [.ptr sid 0 9]) (.ptr mid 0 1) (.fn 95 [] [.sptr [.ptr sid 0 9], .ptr mid 0 1]) vN (.int .i64 N.length) (.int .i64 0) m1 t6 := by
      rw [watch_read.L8_eq]
      simp [hN.len]
    have x2 : watch_read.L12 (.fptr [vD, vN]) (.fptr [.int .i64 D.length]) (.sptr [.ptr sid 0 9]) (.ptr mid 0 1) (.fn 95 [] [.sptr [.ptr sid 0 9], .ptr mid 0 1]) vN (.int .i64 N.length) (.int .i64 N.length) m2 t6 =
        watch_read.L6 (.fptr [vD, vN]) (.fptr [.int .i64 D.length]) (.sptr [.ptr sid 0 9]) (.ptr m2.nx 0 1) ⟨upd m2.h m2.nx (some (.cells [.bool mv2])), m2.nx + 1⟩ [.code watch_read.r43, .code watch_read.k14, .code watch_read.r59, .code .ret] := by
      rw [watch_read.L12_eq]
      simp [t6, b2.more]
    rw [← x2, ← b1]
    simp at x1 a1
    rw [watch_read.L6_eq]
    simp [s.more]
    simp only [t6] at x1 a1 ⊢
    rw [a1, x1]
  · have s2 := b2.s.mono (m' := ⟨upd m2.h m2.nx (some (.cells [.bool mv2])), m2.nx + 1⟩) (by simp) (fun id hid => by have : (id == m2.nx) = false := by { simp; omega }; simp [this])
    exact ⟨s2, b2.K4, by simp, by simp, by have := b2.s.slt; omega, fun h a b => by have := b2.s.lt h a b; omega⟩


theorem fix_loop {vD vN : AV} {D D4 : List Int} {N : List Note} (hD : IsInts vD D) (hN : IsSl noteC vN N) (P : Pre D N) {sid : Nat} {ids : Nat → Nat} : ∀ (k : Nat) (mid : Nat) (m : Mem) (K : List (List (List Int))) (mv : Bool), (576 - tot K).toNat ≤ k →
    MAt m sid ids D.length D4 K mid mv → Inv D N K → (mv = false → Closed D N K) →
    ∃ K', Inv D N K' ∧ Closed D N K' ∧ K'.length = 4 ∧ (∀ h, Four (kth K' h)) ∧ (∀ h, (kth K' h).length ≤ 6) ∧ watch_read.L6 (.fptr [vD, vN]) (.fptr [.int .i64 D.length]) (.sptr [.ptr sid 0 9]) (.ptr mid 0 1) m [.code watch_read.r43, .code watch_read.k14, .code watch_read.r59, .code .ret] =
      if badAll K' D.length 0 then failR else okR D.length D4 K' := by
  have last : ∀ (mid : Nat) (m : Mem) (K : List (List (List Int))), MAt m sid ids D.length D4 K mid false → watch_read.L6 (.fptr [vD, vN]) (.fptr [.int .i64 D.length]) (.sptr [.ptr sid 0 9]) (.ptr mid 0 1) m [.code watch_read.r43, .code watch_read.k14, .code watch_read.r59, .code .ret] =
      if badAll K D.length 0 then failR else okR D.length D4 K := by
    intro mid m K s
    have := chk_h P.L.n4 D.length 0 m (by omega) (by omega) s.s
    simp at this
    rw [watch_read.L6_eq]
    simp [s.more, this]
  intro k
  induction k with
  | zero =>
    intro mid m K mv hk s I hcl
    cases mv with
    | false => exact ⟨K, I, hcl rfl, s.K4, s.s.four, s.s.few, last mid m K s⟩
    | true =>
      obtain ⟨m', K', mv', mid', e, s', I', p⟩ := sweepK hD hN P s I
      rcases p with ⟨rfl, rfl, hc⟩ | ⟨rfl, hlt⟩
      · exact ⟨_, I', hc, s'.K4, s'.s.four, s'.s.few, by rw [e]; exact last mid' m' _ s'⟩
      · exfalso
        have := I'.tot P.L s'.K4 s'.s.four s'.s.few
        omega
  | succ k ih =>
    intro mid m K mv hk s I hcl
    cases mv with
    | false => exact ⟨K, I, hcl rfl, s.K4, s.s.four, s.s.few, last mid m K s⟩
    | true =>
      obtain ⟨m', K', mv', mid', e, s', I', p⟩ := sweepK hD hN P s I
      rcases p with ⟨rfl, rfl, hc⟩ | ⟨rfl, hlt⟩
      · exact ⟨_, I', hc, s'.K4, s'.s.four, s'.s.few, by rw [e]; exact last mid' m' _ s'⟩
      · obtain ⟨Kf, i1, i2, i3, i4, i5, i6⟩ := ih mid' m' K' true (by have := I'.tot P.L s'.K4 s'.s.four s'.s.few; omega) s' I' (fun h => by cases h)
        exact ⟨Kf, i1, i2, i3, i4, i5, by rw [e]; exact i6⟩
end Go.Proofs.Ytdkmepjedjclkaa
