/-
  ALIKE STATES: those from which the same words lead to good ones; what marking unlike ones again and again ends in. Conditions: none.
-/
import Derived.Test.YthnpflkpjimkfaaK00
set_option linter.all false
namespace Go.Proofs.Ythnpflkpjimkfaa
open Go.AM
open Go.Proofs.Try (prog)
set_option linter.all false
set_option maxRecDepth 100000
set_option maxHeartbeats 4000000
def gow (rows : List (List Int)) (s : Nat) (w : List Nat) : Nat := w.foldl (nx rows) s
def alk (rows : List (List Int)) (good : List Bool) (k i j : Nat) : Prop := ∀ w : List Nat, (∀ a ∈ w, a < k) → bnth good (gow rows i w) = bnth good (gow rows j w)
open Classical in
noncomputable def alB (rows : List (List Int)) (good : List Bool) (k i j : Nat) : Bool := decide (alk rows good k i j)
section
variable {rows : List (List Int)} {good : List Bool} {k : Nat}
theorem alk_refl (i : Nat) : alk rows good k i i := fun _ _ => rfl
theorem alk_symm {i j : Nat} (h : alk rows good k i j) : alk rows good k j i := fun w hw => (h w hw).symm
theorem alk_trans {i j l : Nat} (h : alk rows good k i j) (g : alk rows good k j l) : alk rows good k i l := fun w hw => (h w hw).trans (g w hw)
theorem alk_step {i j a : Nat} (h : alk rows good k i j) (ha : a < k) : alk rows good k (nx rows i a) (nx rows j a) := fun w hw => h (a :: w) (by
  intro b hb
  rcases List.mem_cons.1 hb with rfl | hb
  · exact ha
  · exact hw b hb)
theorem alk_good {i j : Nat} (h : alk rows good k i j) : bnth good i = bnth good j := h [] (by simp)
theorem alB_iff {i j : Nat} : alB rows good k i j = true ↔ alk rows good k i j := by simp [alB]
theorem alB_refl (i : Nat) : alB rows good k i i = true := alB_iff.2 (alk_refl i)
end
abbrev MB := List (List Bool)
def brw (D : MB) (i : Nat) : List Bool := D.getD i []
def mth (D : MB) (i j : Nat) : Bool := bnth (brw D i) j
def setM (D : MB) (i j : Nat) (b : Bool) : MB := D.set i ((brw D i).set j b)
structure Wf (n : Nat) (D : MB) : Prop where
  l : D.length = n
  r : ∀ i, i < n → (brw D i).length = n
theorem brw_set {D : MB} {i i' : Nat} {r : List Bool} (h : i < D.length) : brw (D.set i r) i' = if i = i' then r else brw D i' := by
  simp only [brw, List.getD_eq_getElem?_getD, List.getElem?_set]
  by_cases e : i = i'
  · subst e; simp [h]
  · simp [e]
theorem bnth_set {l : List Bool} {j j' : Nat} {b : Bool} (h : j < l.length) : bnth (l.set j b) j' = if j = j' then b else bnth l j' := by
  simp only [bnth, List.getD_eq_getElem?_getD, List.getElem?_set]
  by_cases e : j = j'
  · subst e; simp [h]
  · simp [e]
theorem Wf.set {n : Nat} {D : MB} (h : Wf n D) {i j : Nat} (b : Bool) (hi : i < n) : Wf n (setM D i j b) := by
  refine ⟨by simp [setM, h.l], fun i' hi' => ?_⟩
  rw [setM, brw_set (by rw [h.l]; exact hi)]
  split
  · rw [List.length_set]; exact h.r i hi
  · exact h.r i' hi'
theorem Wf.get {n : Nat} {D : MB} (h : Wf n D) {i j i' j' : Nat} {b : Bool} (hi : i < n) (hj : j < n) : mth (setM D i j b) i' j' = if i = i' ∧ j = j' then b else mth D i' j' := by
  rw [mth, setM, brw_set (by rw [h.l]; exact hi)]
  by_cases e : i = i'
  · subst e
    rw [if_pos rfl, bnth_set (by rw [h.r i hi]; exact hj)]
    by_cases e' : j = j'
    · simp [e']
    · simp [e', mth]
  · simp [e, mth]
theorem setM_same {n : Nat} {D : MB} (h : Wf n D) {i j : Nat} (hi : i < n) (hj : j < n) {b : Bool} (hb : mth D i j = b) : setM D i j b = D := by
  have h1 : i < D.length := by rw [h.l]; exact hi
  have h2 : j < (brw D i).length := by rw [h.r i hi]; exact hj
  have e1 : (brw D i).set j b = brw D i := by
    rw [← hb, mth, bnth]
    simp [List.getD_eq_getElem?_getD, h2]
  rw [setM, e1, brw]
  simp [List.getD_eq_getElem?_getD, h1]
def cnt (n : Nat) (p : Nat → Nat → Bool) : Nat := ((List.range n).flatMap fun i => (List.range n).map fun j => (i, j)).countP fun x => p x.1 x.2
theorem pairs_len (n : Nat) : ((List.range n).flatMap fun i => (List.range n).map fun j => (i, j)).length = n * n := by
  have : ∀ m : Nat, ((List.range m).map fun _ => n).sum = m * n := by
    intro m
    induction m with
    | zero => simp
    | succ m ih => rw [List.range_succ, List.map_append, List.sum_append, ih]; simp [Nat.succ_mul]
  simp [List.length_flatMap, this]
theorem pairs_mem {n i j : Nat} : (i, j) ∈ ((List.range n).flatMap fun i => (List.range n).map fun j => (i, j)) ↔ i < n ∧ j < n := by
  simp
theorem countP_lt {α : Type} {p q : α → Bool} : ∀ {l : List α}, (∀ x ∈ l, p x = true → q x = true) → (∃ x ∈ l, q x = true ∧ p x = false) → l.countP p < l.countP q
  | [], _, ⟨_, h, _⟩ => by simp at h
  | a :: l, h, ⟨x, hx, h1, h2⟩ => by
    have mono : l.countP p ≤ l.countP q := List.countP_mono_left fun y hy => h y (by simp [hy])
    rcases List.mem_cons.1 hx with rfl | hx
    · simp [h1, h2]; omega
    · have ih := countP_lt (l := l) (fun y hy => h y (by simp [hy])) ⟨x, hx, h1, h2⟩
      rw [List.countP_cons, List.countP_cons]
      have := h a (by simp)
      by_cases e : p a = true
      · simp [e, this e]; omega
      · simp [e]; split <;> omega
theorem cnt_le (n : Nat) (p : Nat → Nat → Bool) : cnt n p ≤ n * n := by
  rw [← pairs_len n]; exact List.countP_le_length
theorem cnt_lt {n : Nat} {p q : Nat → Nat → Bool} (h : ∀ i j, i < n → j < n → p i j = true → q i j = true) {i j : Nat} (hi : i < n) (hj : j < n) (h1 : q i j = true) (h2 : p i j = false) : cnt n p < cnt n q :=
  countP_lt (fun x hx => by obtain ⟨i, j⟩ := x; obtain ⟨h1, h2⟩ := pairs_mem.1 hx; exact h i j h1 h2) ⟨(i, j), pairs_mem.2 ⟨hi, hj⟩, h1, h2⟩
theorem cnt_full {n : Nat} {p : Nat → Nat → Bool} (h : n * n ≤ cnt n p) {i j : Nat} (hi : i < n) (hj : j < n) : p i j = true := by
  rcases hp : p i j with _ | _
  · have := cnt_lt (n := n) (p := p) (q := fun _ _ => true) (fun _ _ _ _ _ => rfl) hi hj rfl hp
    have := cnt_le n (fun _ _ => true)
    omega
  · rfl
section
variable {S α : Type} (I : S → Prop) (μ : S → Nat) (Q : α → S → Prop) (step : S → α → S)
def Ups (x : α) : Prop := ∀ s, I s → I (step s x) ∧ μ s ≤ μ (step s x) ∧ (μ (step s x) = μ s → step s x = s ∧ Q x s)
theorem ups_fold : ∀ (l : List α) (s : S), (∀ x ∈ l, Ups I μ Q step x) → I s → I (l.foldl step s) ∧ μ s ≤ μ (l.foldl step s) ∧ (μ (l.foldl step s) = μ s → l.foldl step s = s ∧ ∀ x ∈ l, Q x s)
  | [], s, _, h => ⟨h, Nat.le_refl _, fun _ => ⟨rfl, by simp⟩⟩
  | x :: l, s, hs, h => by
    obtain ⟨h1, h2, h3⟩ := hs x (by simp) s h
    obtain ⟨g1, g2, g3⟩ := ups_fold l (step s x) (fun y hy => hs y (by simp [hy])) h1
    refine ⟨g1, by simp only [List.foldl_cons]; omega, fun e => ?_⟩
    simp only [List.foldl_cons] at e ⊢
    obtain ⟨e1, e2⟩ := g3 (by omega)
    obtain ⟨e3, e4⟩ := h3 (by omega)
    rw [e1, e3]
    rw [e3] at e2
    exact ⟨rfl, fun y hy => by
      rcases List.mem_cons.1 hy with rfl | hy
      · exact e4
      · exact e2 y hy⟩
end
end Go.Proofs.Ythnpflkpjimkfaa

/-
  MARKING UNLIKE STATES: the program's way and the specification's end in the same. Conditions: none.
-/
namespace Go.Proofs.Ythnpflkpjimkfaa
open Go.AM
open Go.Proofs.Try (prog)
set_option linter.all false
set_option maxRecDepth 100000
set_option maxHeartbeats 4000000
abbrev PB := MB × Bool
def mk1 (rows : List (List Int)) (i j : Nat) (P : PB) (a : Nat) : PB := if mth P.1 i j = false ∧ mth P.1 (nx rows i a) (nx rows j a) = true then (setM P.1 i j true, true) else P
def mkA (rows : List (List Int)) (i j c a : Nat) (P : PB) : PB := (List.range' a c).foldl (mk1 rows i j) P
def mkJ (rows : List (List Int)) (k i c j : Nat) (P : PB) : PB := (List.range' j c).foldl (fun P j => mkA rows i j k 0 P) P
def mkI (rows : List (List Int)) (k n c i : Nat) (P : PB) : PB := (List.range' i c).foldl (fun P i => mkJ rows k i n 0 P) P
def fixD (rows : List (List Int)) (k n : Nat) : Nat → MB → MB
  | 0, D => D
  | f + 1, D => if (mkI rows k n n 0 (D, false)).2 = true then fixD rows k n f (mkI rows k n n 0 (D, false)).1 else (mkI rows k n n 0 (D, false)).1
section
variable {rows : List (List Int)} {good : List Bool} {k : Nat}
structure Mkd (rows : List (List Int)) (good : List Bool) (k : Nat) (D : MB) : Prop where
  wf : Wf rows.length D
  snd : ∀ i j, i < rows.length → j < rows.length → mth D i j = true → ¬ alk rows good k i j
  bas : ∀ i j, i < rows.length → j < rows.length → bnth good i ≠ bnth good j → mth D i j = true
def Cld (rows : List (List Int)) (k : Nat) (D : MB) : Prop := ∀ i j a, i < rows.length → j < rows.length → a < k → mth D i j = false → mth D (nx rows i a) (nx rows j a) = false
theorem Mkd.end_ {D : MB} (v : VB rows good k) (h : Mkd rows good k D) (c : Cld rows k D) {i j : Nat} (hi : i < rows.length) (hj : j < rows.length) : mth D i j = !alB rows good k i j := by
  have key : ∀ (w : List Nat) (i j : Nat), i < rows.length → j < rows.length → (∀ a ∈ w, a < k) → mth D i j = false → bnth good (gow rows i w) = bnth good (gow rows j w) := by
    intro w
    induction w with
    | nil =>
      intro i j hi hj _ e
      apply Classical.byContradiction
      intro q
      have := h.bas i j hi hj q
      rw [e] at this
      cases this
    | cons a w ih =>
      intro i j hi hj hw e
      have ha := hw a (by simp)
      exact ih _ _ (nx_lt v hi ha).1 (nx_lt v hj ha).1 (fun b hb => hw b (by simp [hb])) (c i j a hi hj ha e)
  rcases hm : mth D i j with _ | _
  · have : alk rows good k i j := fun w hw => key w i j hi hj hw hm
    rw [alB_iff.2 this]; rfl
  · have h1 := h.snd i j hi hj hm
    have : alB rows good k i j = false := by rw [Bool.eq_false_iff]; exact fun q => h1 (alB_iff.1 q)
    rw [this]; rfl
def IP (rows : List (List Int)) (good : List Bool) (k m0 : Nat) (P : PB) : Prop := Mkd rows good k P.1 ∧ m0 ≤ cnt rows.length (mth P.1) ∧ (P.2 = true ↔ m0 < cnt rows.length (mth P.1))
def μP (n : Nat) (P : PB) : Nat := cnt n (mth P.1)
theorem mk1_ups (v : VB rows good k) (m0 : Nat) {i j a : Nat} (hi : i < rows.length) (hj : j < rows.length) (ha : a < k) : Ups (IP rows good k m0) (μP rows.length) (fun a P => mth P.1 i j = false → mth P.1 (nx rows i a) (nx rows j a) = false) (mk1 rows i j) a := by
  intro P hP
  obtain ⟨hM, h0, hf⟩ := hP
  have ni := (nx_lt v hi ha).1
  have nj := (nx_lt v hj ha).1
  by_cases c : mth P.1 i j = false ∧ mth P.1 (nx rows i a) (nx rows j a) = true
  · have e : mk1 rows i j P a = (setM P.1 i j true, true) := by rw [mk1, if_pos c]
    rw [e]
    have g := fun i' j' => hM.wf.get (i := i) (j := j) (i' := i') (j' := j') (b := true) hi hj
    have lt : cnt rows.length (mth P.1) < cnt rows.length (mth (setM P.1 i j true)) := cnt_lt (fun i' j' _ _ h => by rw [g]; split; rfl; exact h) hi hj (by rw [g]; simp) c.1
    refine ⟨⟨⟨hM.wf.set true hi, fun i' j' h1 h2 h => ?_, fun i' j' h1 h2 h => ?_⟩, Nat.le_of_lt (Nat.lt_of_le_of_lt h0 lt), ⟨fun _ => Nat.lt_of_le_of_lt h0 lt, fun _ => rfl⟩⟩, Nat.le_of_lt lt, fun q => absurd q (Nat.ne_of_gt lt)⟩
    · rw [g] at h
      by_cases q : i = i' ∧ j = j'
      · obtain ⟨rfl, rfl⟩ := q
        intro hk
        exact hM.snd _ _ ni nj c.2 (alk_step hk ha)
      · rw [if_neg q] at h
        exact hM.snd i' j' h1 h2 h
    · rw [g]; split; rfl; exact hM.bas i' j' h1 h2 h
  · have e : mk1 rows i j P a = P := by rw [mk1, if_neg c]
    rw [e]
    refine ⟨⟨hM, h0, hf⟩, Nat.le_refl _, fun _ => ⟨rfl, fun q => ?_⟩⟩
    rcases hm : mth P.1 (nx rows i a) (nx rows j a) with _ | _
    · rfl
    · exact absurd ⟨q, hm⟩ c
theorem mkA_ups (v : VB rows good k) (m0 : Nat) {i j : Nat} (hi : i < rows.length) (hj : j < rows.length) : Ups (IP rows good k m0) (μP rows.length) (fun j P => ∀ a ∈ List.range' 0 k, mth P.1 i j = false → mth P.1 (nx rows i a) (nx rows j a) = false) (fun P j => mkA rows i j k 0 P) j := fun P hP => by
  obtain ⟨h1, h2, h3⟩ := ups_fold _ _ _ _ (List.range' 0 k) P (fun a ha => mk1_ups v m0 (i := i) (j := j) hi hj (by simp [List.mem_range'_1] at ha; exact ha)) hP
  exact ⟨h1, h2, fun e => h3 e⟩
theorem mkJ_ups (v : VB rows good k) (m0 : Nat) {i : Nat} (hi : i < rows.length) : Ups (IP rows good k m0) (μP rows.length) (fun i P => ∀ j ∈ List.range' 0 rows.length, ∀ a ∈ List.range' 0 k, mth P.1 i j = false → mth P.1 (nx rows i a) (nx rows j a) = false) (fun P i => mkJ rows k i rows.length 0 P) i := fun P hP => by
  obtain ⟨h1, h2, h3⟩ := ups_fold _ _ _ _ (List.range' 0 rows.length) P (fun j hj => mkA_ups v m0 (i := i) (j := j) hi (by simp [List.mem_range'_1] at hj; exact hj)) hP
  exact ⟨h1, h2, fun e => h3 e⟩
theorem mkI_law (v : VB rows good k) {D : MB} (h : Mkd rows good k D) : Mkd rows good k (mkI rows k rows.length rows.length 0 (D, false)).1 ∧ ((mkI rows k rows.length rows.length 0 (D, false)).2 = true → cnt rows.length (mth D) < cnt rows.length (mth (mkI rows k rows.length rows.length 0 (D, false)).1)) ∧ ((mkI rows k rows.length rows.length 0 (D, false)).2 = false → Cld rows k (mkI rows k rows.length rows.length 0 (D, false)).1) := by
  obtain ⟨h1, h2, h3⟩ := ups_fold _ _ _ _ (List.range' 0 rows.length) (D, false) (fun i hi => mkJ_ups v (cnt rows.length (mth D)) (i := i) (by simp [List.mem_range'_1] at hi; exact hi)) ⟨h, Nat.le_refl _, by simp⟩
  refine ⟨h1.1, fun e => h1.2.2.1 e, fun e => ?_⟩
  have e2 : ¬ cnt rows.length (mth D) < cnt rows.length (mth (mkI rows k rows.length rows.length 0 (D, false)).1) := fun q => by
    have := h1.2.2.2 q
    simp only [mkI] at e
    rw [e] at this
    cases this
  simp only [μP] at h2 h3
  obtain ⟨e3, e4⟩ := h3 (by have h2' := h2; simp only [mkI] at e2; omega)
  have e5 : mkI rows k rows.length rows.length 0 (D, false) = (D, false) := e3
  rw [e5]
  intro i j a hi hj ha
  exact e4 i (by simp [List.mem_range'_1, hi]) j (by simp [List.mem_range'_1, hj]) a (by simp [List.mem_range'_1, ha])
theorem fixD_law (v : VB rows good k) : ∀ (f : Nat) (D : MB), Mkd rows good k D → rows.length * rows.length < f + cnt rows.length (mth D) → Mkd rows good k (fixD rows k rows.length f D) ∧ Cld rows k (fixD rows k rows.length f D)
  | 0, D, h, hf => by
    have := cnt_le rows.length (mth D)
    omega
  | f + 1, D, h, hf => by
    obtain ⟨h1, h2, h3⟩ := mkI_law v h
    rw [fixD]
    by_cases c : (mkI rows k rows.length rows.length 0 (D, false)).2 = true
    · rw [if_pos c]
      exact fixD_law v f _ h1 (by have := h2 c; omega)
    · rw [if_neg c]
      exact ⟨h1, h3 (by simpa using c)⟩
def D0 (good : List Bool) (n : Nat) : MB := (List.range n).map fun i => (List.range n).map fun j => !(bnth good i == bnth good j)
theorem D0_get {n i j : Nat} (hi : i < n) (hj : j < n) : mth (D0 good n) i j = !(bnth good i == bnth good j) := by
  simp [mth, brw, D0, bnth, hi, hj]
theorem D0_wf (n : Nat) : Wf n (D0 good n) := ⟨by simp [D0], fun i hi => by simp [brw, D0, hi]⟩
theorem D0_mkd : Mkd rows good k (D0 good rows.length) := by
  refine ⟨D0_wf _, fun i j hi hj h q => ?_, fun i j hi hj h => ?_⟩
  · rw [D0_get hi hj, alk_good q] at h
    simp at h
  · rw [D0_get hi hj]
    simpa using h
theorem fixD_end (v : VB rows good k) {f : Nat} (hf : rows.length * rows.length < f) : Wf rows.length (fixD rows k rows.length f (D0 good rows.length)) ∧ ∀ i j, i < rows.length → j < rows.length → mth (fixD rows k rows.length f (D0 good rows.length)) i j = !alB rows good k i j := by
  obtain ⟨h1, h2⟩ := fixD_law v f (D0 good rows.length) D0_mkd (by omega)
  exact ⟨h1.wf, fun i j hi hj => h1.end_ v h2 hi hj⟩
def mkL (rows : List (List Int)) (s t : Nat) (L : MB) (a : Nat) : MB := setM L s t (mth L s t && mth L (nx rows s a) (nx rows t a))
def lkA (rows : List (List Int)) (s t c a : Nat) (L : MB) : MB := (List.range' a c).foldl (mkL rows s t) L
def lkJ (rows : List (List Int)) (k s c t : Nat) (L : MB) : MB := (List.range' t c).foldl (fun L t => lkA rows s t k 0 L) L
def lkI (rows : List (List Int)) (k n c s : Nat) (L : MB) : MB := (List.range' s c).foldl (fun L s => lkJ rows k s n 0 L) L
def lkR (rows : List (List Int)) (k n c r : Nat) (L : MB) : MB := (List.range' r c).foldl (fun L _ => lkI rows k n n 0 L) L
structure Lkd (rows : List (List Int)) (good : List Bool) (k : Nat) (L : MB) : Prop where
  wf : Wf rows.length L
  snd : ∀ i j, i < rows.length → j < rows.length → mth L i j = false → ¬ alk rows good k i j
  bas : ∀ i j, i < rows.length → j < rows.length → bnth good i ≠ bnth good j → mth L i j = false
def CldL (rows : List (List Int)) (k : Nat) (L : MB) : Prop := ∀ i j a, i < rows.length → j < rows.length → a < k → mth L i j = true → mth L (nx rows i a) (nx rows j a) = true
theorem Lkd.end_ {L : MB} (v : VB rows good k) (h : Lkd rows good k L) (c : CldL rows k L) {i j : Nat} (hi : i < rows.length) (hj : j < rows.length) : mth L i j = alB rows good k i j := by
  have key : ∀ (w : List Nat) (i j : Nat), i < rows.length → j < rows.length → (∀ a ∈ w, a < k) → mth L i j = true → bnth good (gow rows i w) = bnth good (gow rows j w) := by
    intro w
    induction w with
    | nil =>
      intro i j hi hj _ e
      apply Classical.byContradiction
      intro q
      have := h.bas i j hi hj q
      rw [e] at this
      cases this
    | cons a w ih =>
      intro i j hi hj hw e
      have ha := hw a (by simp)
      exact ih _ _ (nx_lt v hi ha).1 (nx_lt v hj ha).1 (fun b hb => hw b (by simp [hb])) (c i j a hi hj ha e)
  rcases hm : mth L i j with _ | _
  · have h1 := h.snd i j hi hj hm
    have : alB rows good k i j = false := by rw [Bool.eq_false_iff]; exact fun q => h1 (alB_iff.1 q)
    rw [this]
  · have : alk rows good k i j := fun w hw => key w i j hi hj hw hm
    rw [alB_iff.2 this]
def μL (n : Nat) (L : MB) : Nat := cnt n fun i j => !mth L i j
theorem mkL_ups (v : VB rows good k) {i j a : Nat} (hi : i < rows.length) (hj : j < rows.length) (ha : a < k) : Ups (Lkd rows good k) (μL rows.length) (fun a L => mth L i j = true → mth L (nx rows i a) (nx rows j a) = true) (mkL rows i j) a := by
  intro L hM
  have ni := (nx_lt v hi ha).1
  have nj := (nx_lt v hj ha).1
  have g := fun b i' j' => hM.wf.get (i := i) (j := j) (i' := i') (j' := j') (b := b) hi hj
  by_cases c : mth L i j = true ∧ mth L (nx rows i a) (nx rows j a) = false
  · have e : mkL rows i j L a = setM L i j false := by rw [mkL, c.1, c.2]; rfl
    rw [e]
    have lt : μL rows.length L < μL rows.length (setM L i j false) := cnt_lt (fun i' j' _ _ h => by rw [g]; split; rfl; exact h) hi hj (by rw [g]; simp) (by rw [c.1]; rfl)
    refine ⟨⟨hM.wf.set false hi, fun i' j' h1 h2 h => ?_, fun i' j' h1 h2 h => ?_⟩, by omega, fun q => by omega⟩
    · rw [g] at h
      by_cases q : i = i' ∧ j = j'
      · obtain ⟨rfl, rfl⟩ := q
        intro hk
        exact hM.snd _ _ ni nj c.2 (alk_step hk ha)
      · rw [if_neg q] at h
        exact hM.snd i' j' h1 h2 h
    · rw [g]; split; rfl; exact hM.bas i' j' h1 h2 h
  · have e : mkL rows i j L a = L := by
      rw [mkL]
      refine setM_same hM.wf hi hj ?_
      rcases h1 : mth L i j with _ | _
      · rfl
      · rcases h2 : mth L (nx rows i a) (nx rows j a) with _ | _
        · exact absurd ⟨h1, h2⟩ c
        · rfl
    rw [e]
    refine ⟨hM, Nat.le_refl _, fun _ => ⟨rfl, fun q => ?_⟩⟩
    rcases hm : mth L (nx rows i a) (nx rows j a) with _ | _
    · exact absurd ⟨q, hm⟩ c
    · rfl
theorem lkI_ups (v : VB rows good k) (r : Nat) : Ups (Lkd rows good k) (μL rows.length) (fun _ L => CldL rows k L) (fun L (_ : Nat) => lkI rows k rows.length rows.length 0 L) r := fun L hL => by
  have hA : ∀ i j, i < rows.length → j < rows.length → Ups (Lkd rows good k) (μL rows.length) (fun j L => ∀ a ∈ List.range' 0 k, mth L i j = true → mth L (nx rows i a) (nx rows j a) = true) (fun L j => lkA rows i j k 0 L) j := fun i j hi hj L hL =>
    ups_fold _ _ _ _ (List.range' 0 k) L (fun a ha => mkL_ups v (i := i) (j := j) hi hj (by simp [List.mem_range'_1] at ha; exact ha)) hL
  have hJ : ∀ i, i < rows.length → Ups (Lkd rows good k) (μL rows.length) (fun i L => ∀ j ∈ List.range' 0 rows.length, ∀ a ∈ List.range' 0 k, mth L i j = true → mth L (nx rows i a) (nx rows j a) = true) (fun L i => lkJ rows k i rows.length 0 L) i := fun i hi L hL =>
    ups_fold _ _ _ _ (List.range' 0 rows.length) L (fun j hj => hA i j hi (by simp [List.mem_range'_1] at hj; exact hj)) hL
  obtain ⟨h1, h2, h3⟩ := ups_fold _ _ _ _ (List.range' 0 rows.length) L (fun i hi => hJ i (by simp [List.mem_range'_1] at hi; exact hi)) hL
  exact ⟨h1, h2, fun e => ⟨(h3 e).1, fun i j a hi hj ha => (h3 e).2 i (by simp [List.mem_range'_1, hi]) j (by simp [List.mem_range'_1, hj]) a (by simp [List.mem_range'_1, ha])⟩⟩
theorem CldL_same (v : VB rows good k) {L : MB} (hL : Wf rows.length L) (c : CldL rows k L) : lkI rows k rows.length rows.length 0 L = L := by
  have fx : ∀ {α : Type} (st : MB → α → MB) (l : List α), (∀ x ∈ l, st L x = L) → l.foldl st L = L := by
    intro α st l
    induction l with
    | nil => intro _; rfl
    | cons x l ih => intro h; rw [List.foldl_cons, h x (by simp)]; exact ih fun y hy => h y (by simp [hy])
  refine fx _ _ fun i hi => fx _ _ fun j hj => fx _ _ fun a ha => ?_
  simp [List.mem_range'_1] at hi hj ha
  refine setM_same hL hi hj ?_
  rcases h1 : mth L i j with _ | _
  · rfl
  · rw [c i j a hi hj ha h1]; rfl
theorem lkR_law (v : VB rows good k) : ∀ (c r : Nat) (L : MB), Lkd rows good k L → (CldL rows k L ∨ r ≤ μL rows.length L) → Lkd rows good k (lkR rows k rows.length c r L) ∧ (CldL rows k (lkR rows k rows.length c r L) ∨ r + c ≤ μL rows.length (lkR rows k rows.length c r L))
  | 0, r, L, h, hc => ⟨h, hc⟩
  | c + 1, r, L, h, hc => by
    rw [lkR, List.range'_succ, List.foldl_cons]
    obtain ⟨h1, h2, h3⟩ := lkI_ups v r L h
    have := lkR_law v c (r + 1) (lkI rows k rows.length rows.length 0 L) h1 (by
      rcases hc with hc | hc
      · rw [CldL_same v h.wf hc]; exact .inl hc
      · by_cases e : μL rows.length (lkI rows k rows.length rows.length 0 L) = μL rows.length L
        · have := h3 e
          left
          have e1 : lkI rows k rows.length rows.length 0 L = L := this.1
          rw [e1]; exact this.2
        · right; have h2 : μL rows.length L ≤ μL rows.length (lkI rows k rows.length rows.length 0 L) := h2; omega)
    refine ⟨this.1, ?_⟩
    rw [show r + (c + 1) = r + 1 + c by omega]
    exact this.2
def L0m (good : List Bool) (n : Nat) : MB := (List.range n).map fun i => (List.range n).map fun j => (bnth good i == bnth good j)
theorem L0m_get {n i j : Nat} (hi : i < n) (hj : j < n) : mth (L0m good n) i j = (bnth good i == bnth good j) := by
  simp [mth, brw, L0m, bnth, hi, hj]
theorem L0m_lkd : Lkd rows good k (L0m good rows.length) := by
  refine ⟨⟨by simp [L0m], fun i hi => by simp [brw, L0m, hi]⟩, fun i j hi hj h q => ?_, fun i j hi hj h => ?_⟩
  · rw [L0m_get hi hj, alk_good q] at h
    simp at h
  · rw [L0m_get hi hj]
    simpa using h
theorem lkR_end (v : VB rows good k) : Wf rows.length (lkR rows k rows.length (rows.length * rows.length) 0 (L0m good rows.length)) ∧ ∀ i j, i < rows.length → j < rows.length → mth (lkR rows k rows.length (rows.length * rows.length) 0 (L0m good rows.length)) i j = alB rows good k i j := by
  obtain ⟨h1, h2⟩ := lkR_law v (rows.length * rows.length) 0 (L0m good rows.length) L0m_lkd (.inr (Nat.zero_le _))
  refine ⟨h1.wf, fun i j hi hj => h1.end_ v ?_ hi hj⟩
  rcases h2 with h2 | h2
  · exact h2
  · exfalso
    have h0 : 0 < rows.length := v.n1
    have := cnt_full (n := rows.length) (p := fun i j => !mth (lkR rows k rows.length (rows.length * rows.length) 0 (L0m good rows.length)) i j) (by simpa [μL] using h2) h0 h0
    simp only [Bool.not_eq_true'] at this
    exact h1.snd 0 0 h0 h0 this (alk_refl 0)
end
end Go.Proofs.Ythnpflkpjimkfaa

/-
  MATRICES IN MEMORY: a list of rows, each one an object. Conditions: none.
-/
namespace Go.Proofs.Ythnpflkpjimkfaa
open Go.AM
open Go.Proofs.Try (prog)
set_option linter.all false
set_option maxRecDepth 100000
set_option maxHeartbeats 4000000
def rid (ids : List Nat) (i : Nat) : Nat := ids.getD i 0
structure Bt (h : Nat → Option AObj) (d : Nat) (ids : List Nat) (D : MB) (n e : Nat) : Prop where
  o : h d = some (.cells (ids.map (fun r => AV.sl r 1 0 n n) ++ List.replicate e .nils))
  l : ids.length = D.length
  nd : ids.Nodup
  nd' : d ∉ ids
  r : ∀ i, i < D.length → h (rid ids i) = some (.cells (bls (brw D i)))
  rl : ∀ i, i < D.length → (brw D i).length = n
section
variable {h h' : Nat → Option AObj} {d : Nat} {ids : List Nat} {D : MB} {n e : Nat}
theorem rid_mem {i : Nat} (hi : i < ids.length) : rid ids i ∈ ids := by
  simp [rid, List.getD_eq_getElem?_getD, hi]
theorem Bt.rm (b : Bt h d ids D n e) {i : Nat} (hi : i < D.length) : rid ids i ∈ ids := rid_mem (by rw [b.l]; exact hi)
theorem Bt.fr (b : Bt h d ids D n e) (e1 : h' d = h d) (e2 : ∀ x ∈ ids, h' x = h x) : Bt h' d ids D n e :=
  ⟨by rw [e1, b.o], b.l, b.nd, b.nd', fun i hi => by rw [e2 _ (b.rm hi), b.r i hi], b.rl⟩
theorem Bt.ld (b : Bt h d ids D n e) {i : Nat} (hi : i < D.length) (nx : Nat) : loadA false 1 ⟨h, nx⟩ (.ptr d i (D.length + e)) = some (.sl (rid ids i) 1 0 n n) := by
  have hi' : i < ids.length := by rw [b.l]; exact hi
  rw [loadA_ptr]
  show loadO false 1 i (D.length + e) (h d) = _
  rw [b.o, loadO_cells]
  have e1 : (ids.map (fun r => AV.sl r 1 0 n n) ++ List.replicate e AV.nils).length == D.length + e := by simp [b.l]
  rw [e1]
  simp [rid, hi', List.getElem?_append_left]
theorem Bt.ld0 (b : Bt h d ids D n 0) {i : Nat} (hi : i < D.length) (nx : Nat) : loadA false 1 ⟨h, nx⟩ (.ptr d i D.length) = some (.sl (rid ids i) 1 0 n n) := b.ld hi nx
theorem Bt.get (b : Bt h d ids D n e) {i j : Nat} (hi : i < D.length) (hj : j < n) (nx : Nat) : loadA false 1 ⟨h, nx⟩ (.ptr (rid ids i) j n) = some (.bool (mth D i j)) := by
  have hl := b.rl i hi
  rw [loadA_ptr]
  show loadO false 1 j n (h (rid ids i)) = _
  rw [b.r i hi, loadO_cells]
  have e1 : (bls (brw D i)).length == n := by simp [hl]
  rw [e1]
  have hj' : j < (brw D i).length := by omega
  simp [bls, mth, bnth, List.getD_eq_getElem?_getD, hj']
theorem rid_inj (b : Bt h d ids D n e) {i i' : Nat} (hi : i < D.length) (hi' : i' < D.length) (q : rid ids i = rid ids i') : i = i' := by
  have h1 : i < ids.length := by rw [b.l]; exact hi
  have h2 : i' < ids.length := by rw [b.l]; exact hi'
  simp only [rid, List.getD_eq_getElem?_getD, List.getElem?_eq_getElem h1, List.getElem?_eq_getElem h2, Option.getD_some] at q
  have pw := List.pairwise_iff_getElem.1 b.nd
  rcases Nat.lt_trichotomy i i' with c | c | c
  · exact absurd q (pw i i' h1 h2 c)
  · exact c
  · exact absurd q.symm (pw i' i h2 h1 c)
theorem bls_set (l : List Bool) (j : Nat) (x : Bool) : (bls l).set j (.bool x) = bls (l.set j x) := by simp [bls, List.map_set]
theorem Bt.put (b : Bt h d ids D n e) {i j : Nat} (hi : i < D.length) (hj : j < n) (x : Bool) (nx : Nat) :
    stA false 1 ⟨h, nx⟩ (.ptr (rid ids i) j n) (.bool x) = some (.tup [], ⟨upd h (rid ids i) (some (.cells (bls ((brw D i).set j x)))), nx⟩) ∧ Bt (upd h (rid ids i) (some (.cells (bls ((brw D i).set j x))))) d ids (setM D i j x) n e := by
  have hl := b.rl i hi
  have hm := b.rm hi
  refine ⟨?_, ?_, ?_, b.nd, b.nd', ?_, ?_⟩
  · rw [stA_ptr]
    show stO false 1 ⟨h, nx⟩ (rid ids i) j n (.bool x) (h (rid ids i)) = _
    rw [b.r i hi, stO_cells0]
    have e1 : (bls (brw D i)).length == n := by simp [hl]
    rw [e1, bls_set]
    have : Nat.blt j n = true := by simpa [Nat.blt_eq] using hj
    simp [hj, AV.one, Mem.set]
  · rw [updNe (fun q => b.nd' (by rw [q]; exact hm)), b.o]
  · simp [setM, b.l]
  · intro i' hi'
    have hi' : i' < D.length := by simpa [setM] using hi'
    rw [setM, brw_set hi]
    by_cases q : i = i'
    · subst q; simp
    · rw [if_neg q, updNe (fun q' => q (rid_inj b hi hi' q'.symm)), b.r i' hi']
  · intro i' hi'
    have hi' : i' < D.length := by simpa [setM] using hi'
    rw [setM, brw_set hi]
    split
    · rw [List.length_set]; exact hl
    · exact b.rl i' hi'
theorem Bt.add (b : Bt h d ids D n (e + 1)) {x : Nat} {row : List Bool} (hx : x ≠ d) (hx' : x ∉ ids) (hr : row.length = n) (e1 : h' d = some (.cells ((ids.map (fun r => AV.sl r 1 0 n n) ++ List.replicate (e + 1) AV.nils).set D.length (.sl x 1 0 n n)))) (e2 : h' x = some (.cells (bls row))) (e3 : ∀ y ∈ ids, h' y = h y) : Bt h' d (ids ++ [x]) (D ++ [row]) n e := by
  have hl := b.l
  refine ⟨?_, by simp [hl], ?_, ?_, ?_, ?_⟩
  · rw [e1]
    have : (ids.map (fun r => AV.sl r 1 0 n n)).length = D.length := by simp [hl]
    rw [List.set_append_right _ _ (by omega), this, Nat.sub_self, List.replicate_succ]
    simp
  · rw [List.nodup_append]
    refine ⟨b.nd, by simp, ?_⟩
    intro a ha c hc
    simp at hc
    subst hc
    exact fun q => hx' (q ▸ ha)
  · intro q
    rcases List.mem_append.1 q with q | q
    · exact b.nd' q
    · simp at q; exact hx q.symm
  · intro i hi
    simp at hi
    by_cases q : i < D.length
    · have q1 : rid (ids ++ [x]) i = rid ids i := by simp [rid, List.getD_eq_getElem?_getD, List.getElem?_append_left (show i < ids.length by omega)]
      have q2 : brw (D ++ [row]) i = brw D i := by simp [brw, List.getD_eq_getElem?_getD, List.getElem?_append_left q]
      rw [q1, q2, e3 _ (b.rm q), b.r i q]
    · have : i = D.length := by omega
      subst this
      have q1 : rid (ids ++ [x]) D.length = x := by simp [rid, List.getD_eq_getElem?_getD, ← hl]
      have q2 : brw (D ++ [row]) D.length = row := by simp [brw, List.getD_eq_getElem?_getD]
      rw [q1, q2, e2]
  · intro i hi
    simp at hi
    by_cases q : i < D.length
    · have q2 : brw (D ++ [row]) i = brw D i := by simp [brw, List.getD_eq_getElem?_getD, List.getElem?_append_left q]
      rw [q2]; exact b.rl i q
    · have : i = D.length := by omega
      subst this
      have q2 : brw (D ++ [row]) D.length = row := by simp [brw, List.getD_eq_getElem?_getD]
      rw [q2]; exact hr
end
end Go.Proofs.Ythnpflkpjimkfaa
