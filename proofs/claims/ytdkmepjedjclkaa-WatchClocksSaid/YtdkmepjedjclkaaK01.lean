/-
  WHAT THE REFERENCE's Valid COMPUTES: whether a story is valid. Conditions: none.
-/
import Derived.Test.YtdkmepjedjclkaaK00
import Derived.Test.YtdkmepjedjclkaaKAmF
import Derived.Test.YtdkmepjedjclkaaKAmH
set_option linter.all false
namespace Go.Proofs.Ytdkmepjedjclkaa
open Go.AM
open Go.Proofs.Try (prog)
set_option linter.all false
set_option maxRecDepth 10000
theorem fin_iff {D : List Int} {N : List Note} (lo : ∀ i, 0 ≤ nth D i) {fin : List Int} (r : Reach D N fin) (st : Stuck D N fin) : fin = D ↔ Reach D N D := by
  constructor
  · intro e; rw [e] at r; exact r
  · intro rD
    have hb := r.box lo
    have h1 := stuck_most hb.len st rD lo hb.lo
    exact ext_nth hb.len fun i => Int.le_antisymm (hb.hi i) (h1 i)
section
variable {vD vN : AV} {D : List Int} {N : List Note}
theorem valid_deeds (hD : IsInts vD D) (hl : D.length < 1000000) {R : Option Res} (T : D.all (fun d => decide (0 ≤ d) && decide (d ≤ 6)) = true → ∀ t m, AM.get t 1 = .fptr [vD, vN] → den prog ann 19 [.code r09_Valid.r6, .code r09_Valid.i2, .code r09_Valid.r8, .code r09_Valid.k2, .code r09_Valid.r14, .code r09_Valid.r15, .code r09_Valid.k4, .code r09_Valid.r24, .code .ret] ⟨t, 132, m⟩ = R) :
    ∀ (n i : Nat) (m : Mem), D.length - i ≤ n → i ≤ D.length → (D.take i).all (fun d => decide (0 ≤ d) && decide (d ≤ 6)) = true →
    r09_Valid.L0 (.fptr [vD, vN]) (.int .i64 i) m [.code r09_Valid.r6, .code r09_Valid.i2, .code r09_Valid.r8, .code r09_Valid.k2, .code r09_Valid.r14, .code r09_Valid.r15, .code r09_Valid.k4, .code r09_Valid.r24, .code .ret] =
      if (D.drop i).all (fun d => decide (0 ≤ d) && decide (d ≤ 6)) then R else some (.bool false, Mem.empty) := by
  intro n
  induction n with
  | zero =>
    intro i m h1 h2 hp
    have e : i = D.length := by omega
    subst e
    rw [List.take_length] at hp
    rw [r09_Valid.L0_eq]
    simp [hD.len, -r09_Valid.r6_eq, T hp]
  | succ n ih =>
    intro i m h1 h2 hp
    by_cases h3 : i < D.length
    · have hw : IntKind.wrap .i64 ((i : Int) + 1) = (i : Int) + 1 := wrap_id (by omega) (by omega)
      rw [r09_Valid.L0_eq, drop_nth h3]
      by_cases q : 0 ≤ nth D i ∧ nth D i ≤ 6
      · have hi := fun m => ih (i + 1) m (by omega) (by omega) (by
          rw [List.take_succ, nth_eq h3, List.all_append, hp]; simp [q.1, q.2])
        simp only [Int.natCast_add, Int.cast_ofNat_Int] at hi
        simp [hD.len, h3, hD.idx h3, ints_head h3, in_spec, q.1, q.2, hw, hi]
      · have q' : (decide (0 ≤ nth D i) && decide (nth D i ≤ 6)) = false := by
          by_cases q1 : 0 ≤ nth D i
          · have : ¬ nth D i ≤ 6 := fun q2 => q ⟨q1, q2⟩
            simp [this]
          · simp [q1]
        simp [hD.len, h3, hD.idx h3, ints_head h3, in_spec, q']
    · have e : i = D.length := by omega
      subst e
      rw [List.take_length] at hp
      rw [r09_Valid.L0_eq]
      simp [hD.len, -r09_Valid.r6_eq, T hp]
def noteIn (D : List Int) (x : Note) : Bool :=
  (decide (0 ≤ x.f) && decide (x.f ≤ (D.length : Int) - 1)) && ((decide (0 ≤ x.t) && decide (x.t ≤ (D.length : Int) - 1)) && (!decide (x.f = x.t) && ((decide (1 ≤ x.s) && decide (x.s ≤ nth D x.f.toNat)) && (decide (1 ≤ x.r) && decide (x.r ≤ nth D x.t.toNat)))))
theorem noteIn_iff {x : Note} : noteIn D x = true ↔ NoteIn D x := by
  simp only [noteIn, Bool.and_eq_true, decide_eq_true_eq, Bool.not_eq_true', decide_eq_false_iff_not]
  constructor
  · rintro ⟨⟨a, b⟩, ⟨c, d⟩, e, ⟨f, g⟩, h, i⟩
    exact ⟨a, by omega, c, by omega, e, f, g, h, i⟩
  · rintro ⟨a, b, c, d, e, f, g, h, i⟩
    exact ⟨⟨a, by omega⟩, ⟨c, by omega⟩, e, ⟨f, g⟩, h, i⟩
theorem valid_notes (hD : IsInts vD D) (hN : IsSl noteC vN N) (hl : D.length < 1000000) (hn : N.length < 1000000) {R : Option Res} (T : N.all (noteIn D) = true → ∀ t m, AM.get t 1 = .fptr [vD, vN] → den prog ann 19 [.code r09_Valid.r14, .code r09_Valid.r15, .code r09_Valid.k4, .code r09_Valid.r24, .code .ret] ⟨t, 132, m⟩ = R) :
    ∀ (n i : Nat) (m : Mem), N.length - i ≤ n → i ≤ N.length → (N.take i).all (noteIn D) = true →
    r09_Valid.L2 (.fptr [vD, vN]) (.int .i64 i) m [.code r09_Valid.r14, .code r09_Valid.r15, .code r09_Valid.k4, .code r09_Valid.r24, .code .ret] =
      if (N.drop i).all (noteIn D) then R else some (.bool false, Mem.empty) := by
  intro n
  induction n with
  | zero =>
    intro i m h1 h2 hp
    have e : i = N.length := by omega
    subst e
    rw [List.take_length] at hp
    rw [r09_Valid.L2_eq]
    simp [hN.len, -r09_Valid.r14_eq, T hp]
  | succ n ih =>
    intro i m h1 h2 hp
    by_cases h3 : i < N.length
    · have hw : IntKind.wrap .i64 ((i : Int) + 1) = (i : Int) + 1 := wrap_id (by omega) (by omega)
      have hw2 : IntKind.wrap .i64 ((D.length : Int) - 1) = (D.length : Int) - 1 := wrap_id (by omega) (by omega)
      rw [r09_Valid.L2_eq, drop_nt h3]
      by_cases q1 : (decide (0 ≤ (nt N i).f) && decide ((nt N i).f ≤ (D.length : Int) - 1)) = true
      · have ⟨f0, f1⟩ : 0 ≤ (nt N i).f ∧ (nt N i).f < D.length := by simp at q1; omega
        by_cases q2 : (decide (0 ≤ (nt N i).t) && decide ((nt N i).t ≤ (D.length : Int) - 1)) = true
        · have ⟨t0, t1⟩ : 0 ≤ (nt N i).t ∧ (nt N i).t < D.length := by simp at q2; omega
          by_cases q3 : (nt N i).f = (nt N i).t
          · simp [noteIn, hN.len, h3, hN.idx (noteC_len N) h3, load_note h3, noteC, hD.len, in_spec, hw2, q1, q2, q3, hw]
          · by_cases q4 : (decide (1 ≤ (nt N i).s) && decide ((nt N i).s ≤ nth D (nt N i).f.toNat)) = true
            · by_cases q5 : (decide (1 ≤ (nt N i).r) && decide ((nt N i).r ≤ nth D (nt N i).t.toNat)) = true
              · have hni : noteIn D (nt N i) = true := by simp only [noteIn, q1, q2, q3, q4, q5]; rfl
                have hi := fun m => ih (i + 1) m (by omega) (by omega) (by
                  rw [List.take_succ, nt_eq h3, List.all_append, hp]; simp [hni])
                simp only [Int.natCast_add, Int.cast_ofNat_Int] at hi
                simp [noteIn, hN.len, h3, hN.idx (noteC_len N) h3, load_note h3, noteC, hD.len, in_spec, hw2, q1, q2, q3, q4, q5, hw, hi, hD.idxI f0 f1, ints_headI f0 f1, hD.idxI t0 t1, ints_headI t0 t1]
              · have q5' : (decide (1 ≤ (nt N i).r) && decide ((nt N i).r ≤ nth D (nt N i).t.toNat)) = false := by simpa using q5
                simp [noteIn, hN.len, h3, hN.idx (noteC_len N) h3, load_note h3, noteC, hD.len, in_spec, hw2, q1, q2, q3, q4, q5', hw, hD.idxI f0 f1, ints_headI f0 f1, hD.idxI t0 t1, ints_headI t0 t1]
            · have q4' : (decide (1 ≤ (nt N i).s) && decide ((nt N i).s ≤ nth D (nt N i).f.toNat)) = false := by simpa using q4
              simp [noteIn, hN.len, h3, hN.idx (noteC_len N) h3, load_note h3, noteC, hD.len, in_spec, hw2, q1, q2, q3, q4', hw, hD.idxI f0 f1, ints_headI f0 f1]
        · have q2' : (decide (0 ≤ (nt N i).t) && decide ((nt N i).t ≤ (D.length : Int) - 1)) = false := by simpa using q2
          simp [noteIn, hN.len, h3, hN.idx (noteC_len N) h3, load_note h3, noteC, hD.len, in_spec, hw2, q1, q2', hw]
      · have q1' : (decide (0 ≤ (nt N i).f) && decide ((nt N i).f ≤ (D.length : Int) - 1)) = false := by simpa using q1
        simp [noteIn, hN.len, h3, hN.idx (noteC_len N) h3, load_note h3, noteC, hD.len, in_spec, hw2, q1', hw]
    · have e : i = N.length := by omega
      subst e
      rw [List.take_length] at hp
      rw [r09_Valid.L2_eq]
      simp [hN.len, -r09_Valid.r14_eq, T hp]
end
theorem all_nth {p : Int → Bool} {D : List Int} : D.all p = true ↔ ∀ i, i < D.length → p (nth D i) = true := by
  rw [List.all_eq_true]
  constructor
  · intro h i hi; rw [← nth_get hi]; exact h _ (List.getElem_mem hi)
  · intro h d hd
    obtain ⟨i, hi, rfl⟩ := List.mem_iff_getElem.1 hd
    rw [nth_get hi]; exact h i hi
theorem valid_spec {v : AV} {D : List Int} {N : List Note} (hs : IsTale v D N) (hl : D.length < 1000000) (hn : N.length < 1000000) : ∃ b : Bool, (b = true ↔ ValidS D N) ∧ ∀ m, denC prog ann 19 [v] m = some (.bool b, m) := by
  obtain ⟨vD, vN, rfl, hD, hN⟩ := hs.ex
  have T14 : ∀ b : Bool, Lims D N → (b = true ↔ Reach D N D) → ∀ t m, AM.get t 1 = .fptr [vD, vN] → den prog ann 19 [.code r09_Valid.r14, .code r09_Valid.r15, .code r09_Valid.k4, .code r09_Valid.r24, .code .ret] ⟨t, 132, m⟩ = some (.bool b, Mem.empty) := by
    intro b L hb t m ht
    have hn4 := L.n4
    have hone : oneL (List.replicate D.length (AV.int .i64 0)) = true := by
      have := ints_oneL (List.replicate D.length 0)
      simpa [ints] using this
    obtain ⟨fin, f1, f2, f3⟩ := sim_loop hD hN L (id := m.nx) _ (List.replicate D.length 0) true ⟨upd m.h m.nx (some (.cells (List.replicate D.length (.int .i64 0)))), m.nx + 1⟩ (Nat.le_refl _) Reach.zero (by simp [ints]) (fun h => by cases h)
    have e : decide (fin = D) = b := by
      have := fin_iff L.lo f1 f2
      cases b with
      | true => exact decide_eq_true (this.2 (hb.1 rfl))
      | false => exact decide_eq_false fun h => by have := hb.2 (this.1 h); cases this
    rw [e] at f3
    simp [ht, hD.len, hone, show D.length ≤ 4611686018427387904 by omega, show D.length * 8 ≤ 70368744177664 by omega, f3]
  have T6 : ∀ b : Bool, (∀ i, 0 ≤ nth D i ∧ nth D i ≤ 6) → (b = true ↔ ValidS D N) → ∀ t m, AM.get t 1 = .fptr [vD, vN] → den prog ann 19 [.code r09_Valid.r6, .code r09_Valid.i2, .code r09_Valid.r8, .code r09_Valid.k2, .code r09_Valid.r14, .code r09_Valid.r15, .code r09_Valid.k4, .code r09_Valid.r24, .code .ret] ⟨t, 132, m⟩ = some (.bool b, Mem.empty) := by
    intro b hD6 hb t m ht
    have no : ¬ ValidS D N → b = false := fun h => by cases b with | false => rfl | true => exact absurd (hb.1 rfl) h
    by_cases q1 : (decide (1 ≤ (D.length : Int)) && decide ((D.length : Int) ≤ 4)) = true
    · have ⟨n1, n4⟩ : 1 ≤ D.length ∧ D.length ≤ 4 := by simp only [Bool.and_eq_true, decide_eq_true_eq] at q1; omega
      by_cases q2 : (24 : Int) < N.length
      · have := no (fun v => by have := v.N24; omega)
        subst this
        simp [ht, hD.len, hN.len, in_spec, q1, q2]
      · by_cases q3 : N.all (noteIn D) = true
        · have hno : ∀ x ∈ N, NoteIn D x := fun x hx => noteIn_iff.1 (List.all_eq_true.1 q3 x hx)
          have L : Lims D N := ⟨n1, n4, fun i => (hD6 i).1, fun i => (hD6 i).2, by omega, fun x hx => ⟨(hno x hx).f0, (hno x hx).f1, (hno x hx).t0, (hno x hx).t1⟩⟩
          have hb' : b = true ↔ Reach D N D := hb.trans ⟨fun v => v.all, fun r => ⟨n1, n4, L.lo, L.hi, L.N24, hno, r⟩⟩
          have h2 := fun m => valid_notes hD hN hl hn (fun _ => T14 b L hb') _ 0 m (Nat.le_refl _) (by omega) rfl
          simp only [List.drop_zero, q3, if_true] at h2
          simp at h2
          simp [ht, hD.len, hN.len, in_spec, q1, q2, h2]
        · have := no (fun v => q3 (List.all_eq_true.2 fun x hx => noteIn_iff.2 (v.notes x hx)))
          subst this
          have h2 := fun m => valid_notes (R := none) hD hN hl hn (fun h => absurd h q3) _ 0 m (Nat.le_refl _) (by omega) rfl
          simp only [List.drop_zero, q3] at h2
          simp at h2
          simp [ht, hD.len, hN.len, in_spec, q1, q2, h2]
    · have := no (fun v => q1 (by have := v.n1; have := v.n4; simp; omega))
      subst this
      have q1' : (decide (1 ≤ (D.length : Int)) && decide ((D.length : Int) ≤ 4)) = false := by simpa using q1
      simp [ht, hD.len, hN.len, in_spec, q1']
  have hcl : closedL [AV.agg [vD, vN]] = true := by simp [hD.closed, hN.closed]
  obtain ⟨b, hb⟩ : ∃ b : Bool, b = true ↔ ValidS D N := by
    rcases Classical.em (ValidS D N) with h | h
    · exact ⟨true, by simp [h]⟩
    · exact ⟨false, by simp [h]⟩
  refine ⟨b, hb, fun m => ?_⟩
  rw [r09_Valid.call_eq _ _ hcl]
  by_cases q : D.all (fun d => decide (0 ≤ d) && decide (d ≤ 6)) = true
  · have hD6 : ∀ i, 0 ≤ nth D i ∧ nth D i ≤ 6 := by
      intro i
      rcases Nat.lt_or_ge i D.length with h | h
      · have := all_nth.1 q i h; simpa using this
      · rw [nth_out h]; omega
    have h0 := valid_deeds (vN := vN) hD hl (fun _ => T6 b hD6 hb) _ 0 Mem.empty (Nat.le_refl _) (by omega) rfl
    simp only [List.drop_zero, q, if_true] at h0
    simp at h0
    simp [hD.one, hN.one, hD.closed, hN.closed, h0]
  · have : b = false := by
      cases b with
      | false => rfl
      | true =>
        have v := hb.1 rfl
        exact absurd (all_nth.2 fun i hi => by simp [v.lo i, v.hi i]) q
    subst this
    have h0 := valid_deeds (vN := vN) (R := none) hD hl (fun h => absurd h q) _ 0 Mem.empty (Nat.le_refl _) (by omega) rfl
    simp only [List.drop_zero, q] at h0
    simp at h0
    simp [hD.one, hN.one, hD.closed, hN.closed, h0]
end Go.Proofs.Ytdkmepjedjclkaa

/-
  WHAT THE LAWS' ARGUMENTS ARE: numbers, lists of numbers, stories. Conditions: none.
-/
namespace Go.Proofs.Ytdkmepjedjclkaa
open Go.AM
open Go.Proofs.Try (prog)
set_option linter.all false
set_option maxRecDepth 10000
theorem u3 : prog.underlying 3 = some (.int .i64) := by kernel_rfl
theorem u22 : prog.underlying 22 = some (.slice 3) := by kernel_rfl
theorem u23 : prog.underlying 23 = some (.slice 57) := by kernel_rfl
theorem u57 : prog.underlying 57 = some (.struct #[⟨ "From", 3, 0, false, "", "", 0⟩, ⟨ "Sent", 3, 1, false, "", "", 8⟩, ⟨ "To", 3, 2, false, "", "", 16⟩, ⟨ "Received", 3, 3, false, "", "", 24⟩]) := by kernel_rfl
theorem u25 : prog.underlying 25 = some (.struct #[⟨ "Deeds", 22, 0, false, "", "", 0⟩, ⟨ "Notes", 23, 1, false, "", "", 24⟩]) := by kernel_rfl
def I64 (n : Int) : Prop := -9223372036854775808 ≤ n ∧ n ≤ 9223372036854775807
theorem dat3 {d : Nat} {cs : List AV} (h : Dat prog (d + 1) 3 cs) : ∃ n, cs = [.int .i64 n] ∧ I64 n := by
  simp only [Dat, u3] at h
  obtain ⟨n, rfl, hw⟩ := h
  refine ⟨n, rfl, ?_⟩
  simp only [Lit.wf, Bool.and_eq_true, decide_eq_true_eq] at hw
  have e1 : IntKind.min .i64 = -9223372036854775808 := by decide
  have e2 : IntKind.max .i64 = 9223372036854775807 := by decide
  rw [e1, e2] at hw
  exact hw
theorem parts_list {α : Type} (f : α → List AV) (R : List AV → Prop) (hR : ∀ p, R p → ∃ a, p = f a) : ∀ (parts : List (List AV)), (∀ p ∈ parts, R p) → ∃ l : List α, l.length = parts.length ∧ parts.flatten = flatC f l
  | [], _ => ⟨[], rfl, rfl⟩
  | p :: ps, h => by
    obtain ⟨a, e⟩ := hR p (h p (by simp))
    obtain ⟨l, h1, h2⟩ := parts_list f R hR ps (fun q hq => h q (by simp [hq]))
    exact ⟨a :: l, by simp [h1], by rw [List.flatten_cons, flatC_cons, e, h2]⟩
theorem flatC_ints : ∀ l : List Int, flatC (fun n => [AV.int .i64 n]) l = ints l
  | [] => rfl
  | a :: l => by rw [flatC_cons, flatC_ints l]; rfl
theorem dat22 {d : Nat} {cs : List AV} (h : Dat prog (d + 2) 22 cs) : ∃ v l, cs = [v] ∧ IsInts v l ∧ (l.length : Int) ≤ 9223372036854775807 := by
  rw [Dat] at h
  simp only [u22] at h
  rcases h with rfl | ⟨parts, rfl, hl, hp⟩
  · exact ⟨.nils, [], rfl, .inl ⟨rfl, rfl⟩, by simp⟩
  · obtain ⟨l, h1, h2⟩ := parts_list (fun n : Int => [AV.int .i64 n]) (fun p => ∃ n, p = [.int .i64 n]) (fun p h => h) parts (fun p hq => by obtain ⟨n, e, _⟩ := dat3 (hp p hq).2; exact ⟨n, e⟩)
    rw [flatC_ints] at h2
    refine ⟨_, l, rfl, .inr ⟨false, by rw [h1, h2]⟩, ?_⟩
    have : maxLen = 9223372036854775807 := by decide
    omega
theorem dat57 {d : Nat} {cs : List AV} (h : Dat prog (d + 2) 57 cs) : ∃ x : Note, cs = noteC x := by
  rw [Dat] at h
  simp only [u57] at h
  obtain ⟨parts, rfl, hl, hp⟩ := h
  match parts, hl with
  | [a, b, c, e], _ =>
    obtain ⟨n0, rfl, _⟩ := dat3 (hp 0 _ _ rfl rfl).2
    obtain ⟨n1, rfl, _⟩ := dat3 (hp 1 _ _ rfl rfl).2
    obtain ⟨n2, rfl, _⟩ := dat3 (hp 2 _ _ rfl rfl).2
    obtain ⟨n3, rfl, _⟩ := dat3 (hp 3 _ _ rfl rfl).2
    exact ⟨⟨n0, n1, n2, n3⟩, rfl⟩
theorem dat23 {d : Nat} {cs : List AV} (h : Dat prog (d + 3) 23 cs) : ∃ v l, cs = [v] ∧ IsSl noteC v l ∧ (l.length : Int) ≤ 9223372036854775807 := by
  rw [Dat] at h
  simp only [u23] at h
  rcases h with rfl | ⟨parts, rfl, hl, hp⟩
  · exact ⟨.nils, [], rfl, .inl ⟨rfl, rfl⟩, by simp⟩
  · obtain ⟨l, h1, h2⟩ := parts_list noteC (fun p => ∃ x, p = noteC x) (fun p h => h) parts (fun p hq => dat57 (hp p hq).2)
    refine ⟨_, l, rfl, .inr ⟨false, by rw [h1, h2]⟩, ?_⟩
    have : maxLen = 9223372036854775807 := by decide
    omega
theorem dat25 {d : Nat} {a : AV} (h : DatV prog (d + 4) 25 a) : ∃ D N, IsTale a D N ∧ (D.length : Int) ≤ 9223372036854775807 ∧ (N.length : Int) ≤ 9223372036854775807 := by
  simp only [DatV, u25] at h
  obtain ⟨cs, rfl, h⟩ := h
  rw [Dat] at h
  simp only [u25] at h
  obtain ⟨parts, rfl, hl, hp⟩ := h
  match parts, hl with
  | [a, b], _ =>
    obtain ⟨v0, D, rfl, h0, k0⟩ := dat22 (d := d + 1) (hp 0 _ _ rfl rfl).2
    obtain ⟨v1, N, rfl, h1, k1⟩ := dat23 (d := d) (hp 1 _ _ rfl rfl).2
    exact ⟨D, N, ⟨v0, v1, rfl, h0, h1⟩, k0, k1⟩
end Go.Proofs.Ytdkmepjedjclkaa

/-
  BODIES OF FUNCTIONS OF THE PROGRAM AS SMALL OPERATIONS (written by gen.py; checked by the kernel against the program). Conditions: none.
-/
namespace Go.Proofs.Ytdkmepjedjclkaa
open Go.AM
open Go.Proofs.Try (prog)
set_option maxRecDepth 100000
set_option linter.all false
end Go.Proofs.Ytdkmepjedjclkaa

/-
  A STORY MADE OF ARBITRARY NUMBERS (1): the deeds. Conditions: none.
-/
namespace Go.Proofs.Ytdkmepjedjclkaa
open Go.AM
open Go.Proofs.Try (prog)
set_option linter.all false
set_option maxRecDepth 100000
def u8s (l : List Int) : List AV := l.map (.int .u8)
@[simp] theorem u8s_len (l : List Int) : (u8s l).length = l.length := by simp [u8s]
@[simp] theorem u8s_nil : u8s [] = [] := rfl
@[simp] theorem u8s_cons (a : Int) (l : List Int) : u8s (a :: l) = .int .u8 a :: u8s l := rfl
@[simp] theorem u8s_oneL (l : List Int) : oneL (u8s l) = true := by induction l <;> simp_all
@[simp] theorem u8s_closedL (l : List Int) : closedL (u8s l) = true := by induction l <;> simp_all
def Byte (n : Int) : Prop := 0 ≤ n ∧ n ≤ 255
structure IsTaleN (a : AV) (hh : Int) (ds : List Int) (vT : AV) (T : List (List Int)) : Prop where
  eq : a = .agg (.int .u8 hh :: (u8s ds ++ [vT]))
  hB : Byte hh
  d4 : ds.length = 4
  dB : ∀ i, Byte (nth ds i)
  vT : IsSl u8s vT T
  t4 : ∀ x ∈ T, x.length = 4
  tB : ∀ x ∈ T, ∀ i, Byte (nth x i)
  tl : (T.length : Int) ≤ 9223372036854775807
structure SM (m : Mem) (D : List Int) (vN : AV) : Prop where
  r : m.h 0 = some (.cells [.nils, .nils])
  nx : 2 ≤ m.nx
  s : (D = [] ∧ m.h 1 = some (.cells [.nils, vN])) ∨ ∃ id, D ≠ [] ∧ m.h 1 = some (.cells [.sl id 1 0 D.length D.length, vN]) ∧ m.h id = some (.cells (ints D)) ∧ 2 ≤ id ∧ id < m.nx
end Go.Proofs.Ytdkmepjedjclkaa
