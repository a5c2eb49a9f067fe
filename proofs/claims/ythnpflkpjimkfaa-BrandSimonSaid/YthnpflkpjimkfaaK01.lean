/-
  ALIKE STATES: those from which the same words lead to good ones; what marking unlike ones again and again ends in. Conditions: none.
-/
import Derived.Test.YthnpflkpjimkfaaK00
import Derived.Test.YthnpflkpjimkfaaKAmH
set_option linter.all false
namespace Go.Proofs.Ythnpflkpjimkfaa
open Go.AM
open Go.Proofs.Try (prog)
set_option linter.all false
set_option maxRecDepth 100000
set_option maxHeartbeats 4000000
def gow (rows : List (List Int)) (s : Nat) (w : List Nat) : Nat := w.foldl (nx rows) s
def alk (rows : List (List Int)) (good : List Bool) (k i j : Nat) : Prop := ∀ w : List Nat, (∀ a ∈ w, a < k) → bnth good (gow rows i w) = bnth good (gow rows j w)
open Classical in
noncomputable def alB (rows : List (List Int)) (good : List Bool) (k i j : Nat) : Bool := decide (alk rows good k i j)
section
variable {rows : List (List Int)} {good : List Bool} {k : Nat}
theorem alk_refl (i : Nat) : alk rows good k i i := fun _ _ => rfl
theorem alk_symm {i j : Nat} (h : alk rows good k i j) : alk rows good k j i := fun w hw => (h w hw).symm
theorem alk_trans {i j l : Nat} (h : alk rows good k i j) (g : alk rows good k j l) : alk rows good k i l := fun w hw => (h w hw).trans (g w hw)
theorem alk_step {i j a : Nat} (h : alk rows good k i j) (ha : a < k) : alk rows good k (nx rows i a) (nx rows j a) := fun w hw => h (a :: w) (by
  intro b hb
  rcases List.mem_cons.1 hb with rfl | hb
  · exact ha
  · exact hw b hb)
theorem alk_good {i j : Nat} (h : alk rows good k i j) : bnth good i = bnth good j := h [] (by simp)
theorem alB_iff {i j : Nat} : alB rows good k i j = true ↔ alk rows good k i j := by simp [alB]
theorem alB_refl (i : Nat) : alB rows good k i i = true := alB_iff.2 (alk_refl i)
end
abbrev MB := List (List Bool)
def brw (D : MB) (i : Nat) : List Bool := D.getD i []
def mth (D : MB) (i j : Nat) : Bool := bnth (brw D i) j
def setM (D : MB) (i j : Nat) (b : Bool) : MB := D.set i ((brw D i).set j b)
structure Wf (n : Nat) (D : MB) : Prop where
  l : D.length = n
  r : ∀ i, i < n → (brw D i).length = n
theorem brw_set {D : MB} {i i' : Nat} {r : List Bool} (h : i < D.length) : brw (D.set i r) i' = if i = i' then r else brw D i' := by
  simp only [brw, List.getD_eq_getElem?_getD, List.getElem?_set]
  by_cases e : i = i'
  · subst e; simp [h]
  · simp [e]
theorem bnth_set {l : List Bool} {j j' : Nat} {b : Bool} (h : j < l.length) : bnth (l.set j b) j' = if j = j' then b else bnth l j' := by
  simp only [bnth, List.getD_eq_getElem?_getD, List.getElem?_set]
  by_cases e : j = j'
  · subst e; simp [h]
  · simp [e]
theorem Wf.set {n : Nat} {D : MB} (h : Wf n D) {i j : Nat} (b : Bool) (hi : i < n) : Wf n (setM D i j b) := by
  refine ⟨by simp [setM, h.l], fun i' hi' => ?_⟩
  rw [setM, brw_set (by rw [h.l]; exact hi)]
  split
  · rw [List.length_set]; exact h.r i hi
  · exact h.r i' hi'
theorem Wf.get {n : Nat} {D : MB} (h : Wf n D) {i j i' j' : Nat} {b : Bool} (hi : i < n) (hj : j < n) : mth (setM D i j b) i' j' = if i = i' ∧ j = j' then b else mth D i' j' := by
  rw [mth, setM, brw_set (by rw [h.l]; exact hi)]
  by_cases e : i = i'
  · subst e
    rw [if_pos rfl, bnth_set (by rw [h.r i hi]; exact hj)]
    by_cases e' : j = j'
    · simp [e']
    · simp [e', mth]
  · simp [e, mth]
def cnt (n : Nat) (p : Nat → Nat → Bool) : Nat := ((List.range n).flatMap fun i => (List.range n).map fun j => (i, j)).countP fun x => p x.1 x.2
theorem pairs_len (n : Nat) : ((List.range n).flatMap fun i => (List.range n).map fun j => (i, j)).length = n * n := by
  have : ∀ m : Nat, ((List.range m).map fun _ => n).sum = m * n := by
    intro m
    induction m with
    | zero => simp
    | succ m ih => rw [List.range_succ, List.map_append, List.sum_append, ih]; simp [Nat.succ_mul]
  simp [List.length_flatMap, this]
theorem pairs_mem {n i j : Nat} : (i, j) ∈ ((List.range n).flatMap fun i => (List.range n).map fun j => (i, j)) ↔ i < n ∧ j < n := by
  simp
theorem countP_lt {α : Type} {p q : α → Bool} : ∀ {l : List α}, (∀ x ∈ l, p x = true → q x = true) → (∃ x ∈ l, q x = true ∧ p x = false) → l.countP p < l.countP q
  | [], _, ⟨_, h, _⟩ => by simp at h
  | a :: l, h, ⟨x, hx, h1, h2⟩ => by
    have mono : l.countP p ≤ l.countP q := List.countP_mono_left fun y hy => h y (by simp [hy])
    rcases List.mem_cons.1 hx with rfl | hx
    · simp [h1, h2]; omega
    · have ih := countP_lt (l := l) (fun y hy => h y (by simp [hy])) ⟨x, hx, h1, h2⟩
      rw [List.countP_cons, List.countP_cons]
      have := h a (by simp)
      by_cases e : p a = true
      · simp [e, this e]; omega
      · simp [e]; split <;> omega
theorem cnt_le (n : Nat) (p : Nat → Nat → Bool) : cnt n p ≤ n * n := by
  rw [← pairs_len n]; exact List.countP_le_length
theorem cnt_lt {n : Nat} {p q : Nat → Nat → Bool} (h : ∀ i j, i < n → j < n → p i j = true → q i j = true) {i j : Nat} (hi : i < n) (hj : j < n) (h1 : q i j = true) (h2 : p i j = false) : cnt n p < cnt n q :=
  countP_lt (fun x hx => by obtain ⟨i, j⟩ := x; obtain ⟨h1, h2⟩ := pairs_mem.1 hx; exact h i j h1 h2) ⟨(i, j), pairs_mem.2 ⟨hi, hj⟩, h1, h2⟩
section
variable {S α : Type} (I : S → Prop) (μ : S → Nat) (Q : α → S → Prop) (step : S → α → S)
def Ups (x : α) : Prop := ∀ s, I s → I (step s x) ∧ μ s ≤ μ (step s x) ∧ (μ (step s x) = μ s → step s x = s ∧ Q x s)
theorem ups_fold : ∀ (l : List α) (s : S), (∀ x ∈ l, Ups I μ Q step x) → I s → I (l.foldl step s) ∧ μ s ≤ μ (l.foldl step s) ∧ (μ (l.foldl step s) = μ s → l.foldl step s = s ∧ ∀ x ∈ l, Q x s)
  | [], s, _, h => ⟨h, Nat.le_refl _, fun _ => ⟨rfl, by simp⟩⟩
  | x :: l, s, hs, h => by
    obtain ⟨h1, h2, h3⟩ := hs x (by simp) s h
    obtain ⟨g1, g2, g3⟩ := ups_fold l (step s x) (fun y hy => hs y (by simp [hy])) h1
    refine ⟨g1, by simp only [List.foldl_cons]; omega, fun e => ?_⟩
    simp only [List.foldl_cons] at e ⊢
    obtain ⟨e1, e2⟩ := g3 (by omega)
    obtain ⟨e3, e4⟩ := h3 (by omega)
    rw [e1, e3]
    rw [e3] at e2
    exact ⟨rfl, fun y hy => by
      rcases List.mem_cons.1 hy with rfl | hy
      · exact e4
      · exact e2 y hy⟩
end
end Go.Proofs.Ythnpflkpjimkfaa

/-
  MARKING UNLIKE STATES: the program's way and the specification's end in the same. Conditions: none.
-/
namespace Go.Proofs.Ythnpflkpjimkfaa
open Go.AM
open Go.Proofs.Try (prog)
set_option linter.all false
set_option maxRecDepth 100000
set_option maxHeartbeats 4000000
abbrev PB := MB × Bool
def mk1 (rows : List (List Int)) (i j : Nat) (P : PB) (a : Nat) : PB := if mth P.1 i j = false ∧ mth P.1 (nx rows i a) (nx rows j a) = true then (setM P.1 i j true, true) else P
def mkA (rows : List (List Int)) (i j c a : Nat) (P : PB) : PB := (List.range' a c).foldl (mk1 rows i j) P
def mkJ (rows : List (List Int)) (k i c j : Nat) (P : PB) : PB := (List.range' j c).foldl (fun P j => mkA rows i j k 0 P) P
def mkI (rows : List (List Int)) (k n c i : Nat) (P : PB) : PB := (List.range' i c).foldl (fun P i => mkJ rows k i n 0 P) P
def fixD (rows : List (List Int)) (k n : Nat) : Nat → MB → MB
  | 0, D => D
  | f + 1, D => if (mkI rows k n n 0 (D, false)).2 = true then fixD rows k n f (mkI rows k n n 0 (D, false)).1 else (mkI rows k n n 0 (D, false)).1
section
variable {rows : List (List Int)} {good : List Bool} {k : Nat}
structure Mkd (rows : List (List Int)) (good : List Bool) (k : Nat) (D : MB) : Prop where
  wf : Wf rows.length D
  snd : ∀ i j, i < rows.length → j < rows.length → mth D i j = true → ¬ alk rows good k i j
  bas : ∀ i j, i < rows.length → j < rows.length → bnth good i ≠ bnth good j → mth D i j = true
def Cld (rows : List (List Int)) (k : Nat) (D : MB) : Prop := ∀ i j a, i < rows.length → j < rows.length → a < k → mth D i j = false → mth D (nx rows i a) (nx rows j a) = false
theorem Mkd.end_ {D : MB} (v : VB rows good k) (h : Mkd rows good k D) (c : Cld rows k D) {i j : Nat} (hi : i < rows.length) (hj : j < rows.length) : mth D i j = !alB rows good k i j := by
  have key : ∀ (w : List Nat) (i j : Nat), i < rows.length → j < rows.length → (∀ a ∈ w, a < k) → mth D i j = false → bnth good (gow rows i w) = bnth good (gow rows j w) := by
    intro w
    induction w with
    | nil =>
      intro i j hi hj _ e
      apply Classical.byContradiction
      intro q
      have := h.bas i j hi hj q
      rw [e] at this
      cases this
    | cons a w ih =>
      intro i j hi hj hw e
      have ha := hw a (by simp)
      exact ih _ _ (nx_lt v hi ha).1 (nx_lt v hj ha).1 (fun b hb => hw b (by simp [hb])) (c i j a hi hj ha e)
  rcases hm : mth D i j with _ | _
  · have : alk rows good k i j := fun w hw => key w i j hi hj hw hm
    rw [alB_iff.2 this]; rfl
  · have h1 := h.snd i j hi hj hm
    have : alB rows good k i j = false := by rw [Bool.eq_false_iff]; exact fun q => h1 (alB_iff.1 q)
    rw [this]; rfl
def IP (rows : List (List Int)) (good : List Bool) (k m0 : Nat) (P : PB) : Prop := Mkd rows good k P.1 ∧ m0 ≤ cnt rows.length (mth P.1) ∧ (P.2 = true ↔ m0 < cnt rows.length (mth P.1))
def μP (n : Nat) (P : PB) : Nat := cnt n (mth P.1)
theorem mk1_ups (v : VB rows good k) (m0 : Nat) {i j a : Nat} (hi : i < rows.length) (hj : j < rows.length) (ha : a < k) : Ups (IP rows good k m0) (μP rows.length) (fun a P => mth P.1 i j = false → mth P.1 (nx rows i a) (nx rows j a) = false) (mk1 rows i j) a := by
  intro P hP
  obtain ⟨hM, h0, hf⟩ := hP
  have ni := (nx_lt v hi ha).1
  have nj := (nx_lt v hj ha).1
  by_cases c : mth P.1 i j = false ∧ mth P.1 (nx rows i a) (nx rows j a) = true
  · have e : mk1 rows i j P a = (setM P.1 i j true, true) := by rw [mk1, if_pos c]
    rw [e]
    have g := fun i' j' => hM.wf.get (i := i) (j := j) (i' := i') (j' := j') (b := true) hi hj
    have lt : cnt rows.length (mth P.1) < cnt rows.length (mth (setM P.1 i j true)) := cnt_lt (fun i' j' _ _ h => by rw [g]; split; rfl; exact h) hi hj (by rw [g]; simp) c.1
    refine ⟨⟨⟨hM.wf.set true hi, fun i' j' h1 h2 h => ?_, fun i' j' h1 h2 h => ?_⟩, Nat.le_of_lt (Nat.lt_of_le_of_lt h0 lt), ⟨fun _ => Nat.lt_of_le_of_lt h0 lt, fun _ => rfl⟩⟩, Nat.le_of_lt lt, fun q => absurd q (Nat.ne_of_gt lt)⟩
    · rw [g] at h
      by_cases q : i = i' ∧ j = j'
      · obtain ⟨rfl, rfl⟩ := q
        intro hk
        exact hM.snd _ _ ni nj c.2 (alk_step hk ha)
      · rw [if_neg q] at h
        exact hM.snd i' j' h1 h2 h
    · rw [g]; split; rfl; exact hM.bas i' j' h1 h2 h
  · have e : mk1 rows i j P a = P := by rw [mk1, if_neg c]
    rw [e]
    refine ⟨⟨hM, h0, hf⟩, Nat.le_refl _, fun _ => ⟨rfl, fun q => ?_⟩⟩
    rcases hm : mth P.1 (nx rows i a) (nx rows j a) with _ | _
    · rfl
    · exact absurd ⟨q, hm⟩ c
theorem mkA_ups (v : VB rows good k) (m0 : Nat) {i j : Nat} (hi : i < rows.length) (hj : j < rows.length) : Ups (IP rows good k m0) (μP rows.length) (fun j P => ∀ a ∈ List.range' 0 k, mth P.1 i j = false → mth P.1 (nx rows i a) (nx rows j a) = false) (fun P j => mkA rows i j k 0 P) j := fun P hP => by
  obtain ⟨h1, h2, h3⟩ := ups_fold _ _ _ _ (List.range' 0 k) P (fun a ha => mk1_ups v m0 (i := i) (j := j) hi hj (by simp [List.mem_range'_1] at ha; exact ha)) hP
  exact ⟨h1, h2, fun e => h3 e⟩
theorem mkJ_ups (v : VB rows good k) (m0 : Nat) {i : Nat} (hi : i < rows.length) : Ups (IP rows good k m0) (μP rows.length) (fun i P => ∀ j ∈ List.range' 0 rows.length, ∀ a ∈ List.range' 0 k, mth P.1 i j = false → mth P.1 (nx rows i a) (nx rows j a) = false) (fun P i => mkJ rows k i rows.length 0 P) i := fun P hP => by
  obtain ⟨h1, h2, h3⟩ := ups_fold _ _ _ _ (List.range' 0 rows.length) P (fun j hj => mkA_ups v m0 (i := i) (j := j) hi (by simp [List.mem_range'_1] at hj; exact hj)) hP
  exact ⟨h1, h2, fun e => h3 e⟩
theorem mkI_law (v : VB rows good k) {D : MB} (h : Mkd rows good k D) : Mkd rows good k (mkI rows k rows.length rows.length 0 (D, false)).1 ∧ ((mkI rows k rows.length rows.length 0 (D, false)).2 = true → cnt rows.length (mth D) < cnt rows.length (mth (mkI rows k rows.length rows.length 0 (D, false)).1)) ∧ ((mkI rows k rows.length rows.length 0 (D, false)).2 = false → Cld rows k (mkI rows k rows.length rows.length 0 (D, false)).1) := by
  obtain ⟨h1, h2, h3⟩ := ups_fold _ _ _ _ (List.range' 0 rows.length) (D, false) (fun i hi => mkJ_ups v (cnt rows.length (mth D)) (i := i) (by simp [List.mem_range'_1] at hi; exact hi)) ⟨h, Nat.le_refl _, by simp⟩
  refine ⟨h1.1, fun e => h1.2.2.1 e, fun e => ?_⟩
  have e2 : ¬ cnt rows.length (mth D) < cnt rows.length (mth (mkI rows k rows.length rows.length 0 (D, false)).1) := fun q => by
    have := h1.2.2.2 q
    simp only [mkI] at e
    rw [e] at this
    cases this
  simp only [μP] at h2 h3
  obtain ⟨e3, e4⟩ := h3 (by have h2' := h2; simp only [mkI] at e2; omega)
  have e5 : mkI rows k rows.length rows.length 0 (D, false) = (D, false) := e3
  rw [e5]
  intro i j a hi hj ha
  exact e4 i (by simp [List.mem_range'_1, hi]) j (by simp [List.mem_range'_1, hj]) a (by simp [List.mem_range'_1, ha])
theorem fixD_law (v : VB rows good k) : ∀ (f : Nat) (D : MB), Mkd rows good k D → rows.length * rows.length < f + cnt rows.length (mth D) → Mkd rows good k (fixD rows k rows.length f D) ∧ Cld rows k (fixD rows k rows.length f D)
  | 0, D, h, hf => by
    have := cnt_le rows.length (mth D)
    omega
  | f + 1, D, h, hf => by
    obtain ⟨h1, h2, h3⟩ := mkI_law v h
    rw [fixD]
    by_cases c : (mkI rows k rows.length rows.length 0 (D, false)).2 = true
    · rw [if_pos c]
      exact fixD_law v f _ h1 (by have := h2 c; omega)
    · rw [if_neg c]
      exact ⟨h1, h3 (by simpa using c)⟩
def D0 (good : List Bool) (n : Nat) : MB := (List.range n).map fun i => (List.range n).map fun j => !(bnth good i == bnth good j)
theorem D0_get {n i j : Nat} (hi : i < n) (hj : j < n) : mth (D0 good n) i j = !(bnth good i == bnth good j) := by
  simp [mth, brw, D0, bnth, hi, hj]
theorem D0_wf (n : Nat) : Wf n (D0 good n) := ⟨by simp [D0], fun i hi => by simp [brw, D0, hi]⟩
theorem D0_mkd : Mkd rows good k (D0 good rows.length) := by
  refine ⟨D0_wf _, fun i j hi hj h q => ?_, fun i j hi hj h => ?_⟩
  · rw [D0_get hi hj, alk_good q] at h
    simp at h
  · rw [D0_get hi hj]
    simpa using h
theorem fixD_end (v : VB rows good k) {f : Nat} (hf : rows.length * rows.length < f) : Wf rows.length (fixD rows k rows.length f (D0 good rows.length)) ∧ ∀ i j, i < rows.length → j < rows.length → mth (fixD rows k rows.length f (D0 good rows.length)) i j = !alB rows good k i j := by
  obtain ⟨h1, h2⟩ := fixD_law v f (D0 good rows.length) D0_mkd (by omega)
  exact ⟨h1.wf, fun i j hi hj => h1.end_ v h2 hi hj⟩
structure Lkd (rows : List (List Int)) (good : List Bool) (k : Nat) (L : MB) : Prop where
  wf : Wf rows.length L
  snd : ∀ i j, i < rows.length → j < rows.length → mth L i j = false → ¬ alk rows good k i j
  bas : ∀ i j, i < rows.length → j < rows.length → bnth good i ≠ bnth good j → mth L i j = false
def CldL (rows : List (List Int)) (k : Nat) (L : MB) : Prop := ∀ i j a, i < rows.length → j < rows.length → a < k → mth L i j = true → mth L (nx rows i a) (nx rows j a) = true
theorem Lkd.end_ {L : MB} (v : VB rows good k) (h : Lkd rows good k L) (c : CldL rows k L) {i j : Nat} (hi : i < rows.length) (hj : j < rows.length) : mth L i j = alB rows good k i j := by
  have key : ∀ (w : List Nat) (i j : Nat), i < rows.length → j < rows.length → (∀ a ∈ w, a < k) → mth L i j = true → bnth good (gow rows i w) = bnth good (gow rows j w) := by
    intro w
    induction w with
    | nil =>
      intro i j hi hj _ e
      apply Classical.byContradiction
      intro q
      have := h.bas i j hi hj q
      rw [e] at this
      cases this
    | cons a w ih =>
      intro i j hi hj hw e
      have ha := hw a (by simp)
      exact ih _ _ (nx_lt v hi ha).1 (nx_lt v hj ha).1 (fun b hb => hw b (by simp [hb])) (c i j a hi hj ha e)
  rcases hm : mth L i j with _ | _
  · have h1 := h.snd i j hi hj hm
    have : alB rows good k i j = false := by rw [Bool.eq_false_iff]; exact fun q => h1 (alB_iff.1 q)
    rw [this]
  · have : alk rows good k i j := fun w hw => key w i j hi hj hw hm
    rw [alB_iff.2 this]
end
end Go.Proofs.Ythnpflkpjimkfaa

/-
  MATRICES IN MEMORY: a list of rows, each one an object. Conditions: none.
-/
namespace Go.Proofs.Ythnpflkpjimkfaa
open Go.AM
open Go.Proofs.Try (prog)
set_option linter.all false
set_option maxRecDepth 100000
set_option maxHeartbeats 4000000
def rid (ids : List Nat) (i : Nat) : Nat := ids.getD i 0
structure Bt (h : Nat → Option AObj) (d : Nat) (ids : List Nat) (D : MB) (n e : Nat) : Prop where
  o : h d = some (.cells (ids.map (fun r => AV.sl r 1 0 n n) ++ List.replicate e .nils))
  l : ids.length = D.length
  nd : ids.Nodup
  nd' : d ∉ ids
  r : ∀ i, i < D.length → h (rid ids i) = some (.cells (bls (brw D i)))
  rl : ∀ i, i < D.length → (brw D i).length = n
section
variable {h h' : Nat → Option AObj} {d : Nat} {ids : List Nat} {D : MB} {n e : Nat}
theorem rid_mem {i : Nat} (hi : i < ids.length) : rid ids i ∈ ids := by
  simp [rid, List.getD_eq_getElem?_getD, hi]
theorem Bt.rm (b : Bt h d ids D n e) {i : Nat} (hi : i < D.length) : rid ids i ∈ ids := rid_mem (by rw [b.l]; exact hi)
theorem Bt.fr (b : Bt h d ids D n e) (e1 : h' d = h d) (e2 : ∀ x ∈ ids, h' x = h x) : Bt h' d ids D n e :=
  ⟨by rw [e1, b.o], b.l, b.nd, b.nd', fun i hi => by rw [e2 _ (b.rm hi), b.r i hi], b.rl⟩
theorem Bt.ld (b : Bt h d ids D n e) {i : Nat} (hi : i < D.length) (nx : Nat) : loadA false 1 ⟨h, nx⟩ (.ptr d i (D.length + e)) = some (.sl (rid ids i) 1 0 n n) := by
  have hi' : i < ids.length := by rw [b.l]; exact hi
  rw [loadA_ptr]
  show loadO false 1 i (D.length + e) (h d) = _
  rw [b.o, loadO_cells]
  have e1 : (ids.map (fun r => AV.sl r 1 0 n n) ++ List.replicate e AV.nils).length == D.length + e := by simp [b.l]
  rw [e1]
  simp [rid, hi', List.getElem?_append_left]
theorem Bt.ld0 (b : Bt h d ids D n 0) {i : Nat} (hi : i < D.length) (nx : Nat) : loadA false 1 ⟨h, nx⟩ (.ptr d i D.length) = some (.sl (rid ids i) 1 0 n n) := b.ld hi nx
theorem Bt.get (b : Bt h d ids D n e) {i j : Nat} (hi : i < D.length) (hj : j < n) (nx : Nat) : loadA false 1 ⟨h, nx⟩ (.ptr (rid ids i) j n) = some (.bool (mth D i j)) := by
  have hl := b.rl i hi
  rw [loadA_ptr]
  show loadO false 1 j n (h (rid ids i)) = _
  rw [b.r i hi, loadO_cells]
  have e1 : (bls (brw D i)).length == n := by simp [hl]
  rw [e1]
  have hj' : j < (brw D i).length := by omega
  simp [bls, mth, bnth, List.getD_eq_getElem?_getD, hj']
theorem rid_inj (b : Bt h d ids D n e) {i i' : Nat} (hi : i < D.length) (hi' : i' < D.length) (q : rid ids i = rid ids i') : i = i' := by
  have h1 : i < ids.length := by rw [b.l]; exact hi
  have h2 : i' < ids.length := by rw [b.l]; exact hi'
  simp only [rid, List.getD_eq_getElem?_getD, List.getElem?_eq_getElem h1, List.getElem?_eq_getElem h2, Option.getD_some] at q
  have pw := List.pairwise_iff_getElem.1 b.nd
  rcases Nat.lt_trichotomy i i' with c | c | c
  · exact absurd q (pw i i' h1 h2 c)
  · exact c
  · exact absurd q.symm (pw i' i h2 h1 c)
theorem bls_set (l : List Bool) (j : Nat) (x : Bool) : (bls l).set j (.bool x) = bls (l.set j x) := by simp [bls, List.map_set]
theorem Bt.put (b : Bt h d ids D n e) {i j : Nat} (hi : i < D.length) (hj : j < n) (x : Bool) (nx : Nat) :
    stA false 1 ⟨h, nx⟩ (.ptr (rid ids i) j n) (.bool x) = some (.tup [], ⟨upd h (rid ids i) (some (.cells (bls ((brw D i).set j x)))), nx⟩) ∧ Bt (upd h (rid ids i) (some (.cells (bls ((brw D i).set j x))))) d ids (setM D i j x) n e := by
  have hl := b.rl i hi
  have hm := b.rm hi
  refine ⟨?_, ?_, ?_, b.nd, b.nd', ?_, ?_⟩
  · rw [stA_ptr]
    show stO false 1 ⟨h, nx⟩ (rid ids i) j n (.bool x) (h (rid ids i)) = _
    rw [b.r i hi, stO_cells0]
    have e1 : (bls (brw D i)).length == n := by simp [hl]
    rw [e1, bls_set]
    have : Nat.blt j n = true := by simpa [Nat.blt_eq] using hj
    simp [hj, AV.one, Mem.set]
  · rw [updNe (fun q => b.nd' (by rw [q]; exact hm)), b.o]
  · simp [setM, b.l]
  · intro i' hi'
    have hi' : i' < D.length := by simpa [setM] using hi'
    rw [setM, brw_set hi]
    by_cases q : i = i'
    · subst q; simp
    · rw [if_neg q, updNe (fun q' => q (rid_inj b hi hi' q'.symm)), b.r i' hi']
  · intro i' hi'
    have hi' : i' < D.length := by simpa [setM] using hi'
    rw [setM, brw_set hi]
    split
    · rw [List.length_set]; exact hl
    · exact b.rl i' hi'
theorem Bt.add (b : Bt h d ids D n (e + 1)) {x : Nat} {row : List Bool} (hx : x ≠ d) (hx' : x ∉ ids) (hr : row.length = n) (e1 : h' d = some (.cells ((ids.map (fun r => AV.sl r 1 0 n n) ++ List.replicate (e + 1) AV.nils).set D.length (.sl x 1 0 n n)))) (e2 : h' x = some (.cells (bls row))) (e3 : ∀ y ∈ ids, h' y = h y) : Bt h' d (ids ++ [x]) (D ++ [row]) n e := by
  have hl := b.l
  refine ⟨?_, by simp [hl], ?_, ?_, ?_, ?_⟩
  · rw [e1]
    have : (ids.map (fun r => AV.sl r 1 0 n n)).length = D.length := by simp [hl]
    rw [List.set_append_right _ _ (by omega), this, Nat.sub_self, List.replicate_succ]
    simp
  · rw [List.nodup_append]
    refine ⟨b.nd, by simp, ?_⟩
    intro a ha c hc
    simp at hc
    subst hc
    exact fun q => hx' (q ▸ ha)
  · intro q
    rcases List.mem_append.1 q with q | q
    · exact b.nd' q
    · simp at q; exact hx q.symm
  · intro i hi
    simp at hi
    by_cases q : i < D.length
    · have q1 : rid (ids ++ [x]) i = rid ids i := by simp [rid, List.getD_eq_getElem?_getD, List.getElem?_append_left (show i < ids.length by omega)]
      have q2 : brw (D ++ [row]) i = brw D i := by simp [brw, List.getD_eq_getElem?_getD, List.getElem?_append_left q]
      rw [q1, q2, e3 _ (b.rm q), b.r i q]
    · have : i = D.length := by omega
      subst this
      have q1 : rid (ids ++ [x]) D.length = x := by simp [rid, List.getD_eq_getElem?_getD, ← hl]
      have q2 : brw (D ++ [row]) D.length = row := by simp [brw, List.getD_eq_getElem?_getD]
      rw [q1, q2, e2]
  · intro i hi
    simp at hi
    by_cases q : i < D.length
    · have q2 : brw (D ++ [row]) i = brw D i := by simp [brw, List.getD_eq_getElem?_getD, List.getElem?_append_left q]
      rw [q2]; exact b.rl i q
    · have : i = D.length := by omega
      subst this
      have q2 : brw (D ++ [row]) D.length = row := by simp [brw, List.getD_eq_getElem?_getD]
      rw [q2]; exact hr
end
end Go.Proofs.Ythnpflkpjimkfaa

/-
  BODIES OF FUNCTIONS OF THE PROGRAM AS SMALL OPERATIONS (written by gen.py; checked by the kernel against the program). Conditions: none.
-/
namespace Go.Proofs.Ythnpflkpjimkfaa
open Go.AM
open Go.Proofs.Try (prog)
set_option maxRecDepth 100000
set_option linter.all false
namespace brand_smallest
noncomputable section
variable (K : List Item) (s : St)
def b : Code := (Try.f56.body).getD .skip
theorem hf : prog.funcs[56]? = some Try.f56 := by kernel_rfl
def r0 := findReg b 0
def r1 := findReg b 1
def r2 := findReg b 2
def r3 := findReg b 3
def k0 := findBlk b 0
def l0 := loopOf k0
def L0 (x1 x2 x3 x4 x23 x24 : AV) (m : Mem) (K : List Item) : Option Res := den prog ann 56 (.code l0 :: .inLoop l0 :: .inBlock 0 :: K) ⟨[(1, x1), (2, x2), (3, x3), (4, x4), (23, x23), (24, x24)], 161, m⟩
def r4 := findReg b 4
def i0 := findCond b 0
def i0t := thenOf i0
def i0e := elseOf i0
def k1 := findBlk b 1
def r5 := findReg b 5
def r6 := findReg b 6
def r7 := findReg b 7
def k2 := findBlk b 2
def l2 := loopOf k2
def L2 (x1 x2 x3 x4 x5 x23 x24 x32 x33 : AV) (m : Mem) (K : List Item) : Option Res := den prog ann 56 (.code l2 :: .inLoop l2 :: .inBlock 2 :: K) ⟨[(1, x1), (2, x2), (3, x3), (4, x4), (5, x5), (23, x23), (24, x24), (32, x32), (33, x33)], 161, m⟩
def r8 := findReg b 8
def i1 := findCond b 1
def i1t := thenOf i1
def i1e := elseOf i1
def k3 := findBlk b 3
def r9 := findReg b 9
def r10 := findReg b 10
def r11 := findReg b 11
def r12 := findReg b 12
def r13 := findReg b 13
def k4 := findBlk b 4
def l4 := loopOf k4
def L4 (x1 x2 x3 x4 x7 : AV) (m : Mem) (K : List Item) : Option Res := den prog ann 56 (.code l4 :: .inLoop l4 :: .inBlock 4 :: K) ⟨[(1, x1), (2, x2), (3, x3), (4, x4), (7, x7)], 161, m⟩
def r14 := findReg b 14
def i2 := findCond b 2
def i2t := thenOf i2
def i2e := elseOf i2
def k5 := findBlk b 5
def r15 := findReg b 15
def r16 := findReg b 16
def k6 := findBlk b 6
def l6 := loopOf k6
def L6 (x1 x2 x3 x4 x7 x56 x57 : AV) (m : Mem) (K : List Item) : Option Res := den prog ann 56 (.code l6 :: .inLoop l6 :: .inBlock 6 :: K) ⟨[(1, x1), (2, x2), (3, x3), (4, x4), (7, x7), (56, x56), (57, x57)], 161, m⟩
def r17 := findReg b 17
def i3 := findCond b 3
def i3t := thenOf i3
def i3e := elseOf i3
def k7 := findBlk b 7
def r18 := findReg b 18
def r19 := findReg b 19
def k8 := findBlk b 8
def l8 := loopOf k8
def L8 (x1 x2 x3 x4 x7 x8 x56 x57 x60 x61 : AV) (m : Mem) (K : List Item) : Option Res := den prog ann 56 (.code l8 :: .inLoop l8 :: .inBlock 8 :: K) ⟨[(1, x1), (2, x2), (3, x3), (4, x4), (7, x7), (8, x8), (56, x56), (57, x57), (60, x60), (61, x61)], 161, m⟩
def r20 := findReg b 20
def i4 := findCond b 4
def i4t := thenOf i4
def i4e := elseOf i4
def k9 := findBlk b 9
def r21 := findReg b 21
def r22 := findReg b 22
def k10 := findBlk b 10
def l10 := loopOf k10
def L10 (x1 x2 x3 x4 x7 x8 x9 x56 x57 x60 x61 x69 x70 : AV) (m : Mem) (K : List Item) : Option Res := den prog ann 56 (.code l10 :: .inLoop l10 :: .inBlock 10 :: K) ⟨[(1, x1), (2, x2), (3, x3), (4, x4), (7, x7), (8, x8), (9, x9), (56, x56), (57, x57), (60, x60), (61, x61), (69, x69), (70, x70)], 161, m⟩
def r23 := findReg b 23
def i5 := findCond b 5
def i5t := thenOf i5
def i5e := elseOf i5
def k11 := findBlk b 11
def r24 := findReg b 24
def r25 := findReg b 25
def i6 := findCond b 6
def i6t := thenOf i6
def i6e := elseOf i6
def r26 := findReg b 26
def r27 := findReg b 27
def r28 := findReg b 28
def r29 := findReg b 29
def r30 := findReg b 30
def r31 := findReg b 31
def r32 := findReg b 32
def r33 := findReg b 33
def k12 := findBlk b 12
def l12 := loopOf k12
def L12 (x1 x2 x11 x12 x13 x14 : AV) (m : Mem) (K : List Item) : Option Res := den prog ann 56 (.code l12 :: .inLoop l12 :: .inBlock 12 :: K) ⟨[(1, x1), (2, x2), (11, x11), (12, x12), (13, x13), (14, x14)], 161, m⟩
def r34 := findReg b 34
def i7 := findCond b 7
def i7t := thenOf i7
def i7e := elseOf i7
def k13 := findBlk b 13
def r36 := findReg b 36
def r37 := findReg b 37
def k14 := findBlk b 14
def l14 := loopOf k14
def L14 (x1 x2 x11 x12 x13 x14 x15 x128 x129 x130 : AV) (m : Mem) (K : List Item) : Option Res := den prog ann 56 (.code l14 :: .inLoop l14 :: .inBlock 14 :: K) ⟨[(1, x1), (2, x2), (11, x11), (12, x12), (13, x13), (14, x14), (15, x15), (128, x128), (129, x129), (130, x130)], 161, m⟩
def r38 := findReg b 38
def i8 := findCond b 8
def i8t := thenOf i8
def i8e := elseOf i8
def k15 := findBlk b 15
def r39 := findReg b 39
def r40 := findReg b 40
def r41 := findReg b 41
def r42 := findReg b 42
def r35 := findReg b 35
def r43 := findReg b 43
theorem b_eq : den prog ann 56 (.code b :: K) s = den prog ann 56 (.code r0 :: .code r1 :: .code r2 :: .code r3 :: .code k0 :: .code r13 :: .code k4 :: .code r30 :: .code r31 :: .code r32 :: .code r33 :: .code k12 :: .code r43 :: .code .ret :: K) s := den_flat hf (l := [r0, r1, r2, r3, k0, r13, k4, r30, r31, r32, r33, k12, r43, .ret]) (by kernel_rfl) K s
theorem r0_eq : den prog ann 56 (.code r0 :: K) s = mreg prog ann 56 none [] none [] [qA 1 frozenPtr 0,⟨some 2, none, .w false none fun s => newPtr s.m [.nils, .nils]⟩] K s := (den_reg hf _ K s).trans (by kernel_rfl)
theorem r1_eq : den prog ann 56 (.code r1 :: K) s = mreg prog ann 56 none [] none [] [qA 18 (fieldA 0) 1,qA 19 (loadF false 1) 18,qA 20 lenSl 19,qC 3 20] K s := (den_reg hf _ K s).trans (by kernel_rfl)
theorem r2_eq : den prog ann 56 (.code r2 :: K) s = mreg prog ann 56 none [] none [4] [qC 21 3,⟨some 22, none, .w false none fun s => makeA 1 24 (.nils) s.m (s.get 21) (s.get 21)⟩,⟨some 4, none, .w false none fun s => newPtr s.m [.nils]⟩,⟨none, none, .w false none fun s => stA false 1 s.m (s.get 4) (s.get 22)⟩] K s := (den_reg hf _ K s).trans (by kernel_rfl)
theorem r3_eq : den prog ann 56 (.code r3 :: K) s = mreg prog ann 56 none [] none [] [qC 23 3,qF 24 fun s => some (.int .i64 0)] K s := (den_reg hf _ K s).trans (by kernel_rfl)
theorem k0_eq (K : List Item) (t : List (Nat × AV)) (m : Mem) : den prog ann 56 (.code k0 :: K) ⟨t, 161, m⟩ = L0 (get t 1) (get t 2) (get t 3) (get t 4) (get t 23) (get t 24) m K := den_loop_enter hf (b := l0) (id := 4) (l := [1, 2, 3, 4, 23, 24]) (by kernel_rfl) (by kernel_rfl) (by kernel_rfl) K _
theorem l0_eq (K : List Item) (t : List (Nat × AV)) (m : Mem) : den prog ann 56 (.inLoop l0 :: .inBlock 0 :: K) ⟨t, 161, m⟩ = L0 (get t 1) (get t 2) (get t 3) (get t 4) (get t 23) (get t 24) m K := den_loop_again hf (id := 4) (l := [1, 2, 3, 4, 23, 24]) (by kernel_rfl) (by kernel_rfl) (.inBlock 0 :: K) _
theorem L0_eq (x1 x2 x3 x4 x23 x24 : AV) (m : Mem) (K : List Item) : L0 x1 x2 x3 x4 x23 x24 m K = den prog ann 56 (.code r4 :: .code i0 :: .code k1 :: .code r12 :: .inLoop l0 :: .inBlock 0 :: K) ⟨[(1, x1), (2, x2), (3, x3), (4, x4), (23, x23), (24, x24)], 161, m⟩ := den_flat hf (l := [r4, i0, k1, r12]) (by kernel_rfl) _ _
theorem r4_eq : den prog ann 56 (.code r4 :: K) s = mreg prog ann 56 (some [1, 2, 3, 4, 23, 24]) [] none [] [qB 25 (binA prog .lss 3) 24 23] K s := (den_reg hf _ K s).trans (by kernel_rfl)
theorem i0_eq : den prog ann 56 (.code i0 :: K) s = ifV prog ann 56 25 i0t i0e K s (s.get 25) := den_if hf (by kernel_rfl) K s
theorem i0t_eq : den prog ann 56 (.code i0t :: K) s = den prog ann 56 (K) s := den_flat hf (l := []) (by kernel_rfl) K s
theorem i0e_eq : den prog ann 56 (.code i0e :: K) s = den prog ann 56 (.code (.exit 0) :: K) s := den_flat hf (l := [(.exit 0)]) (by kernel_rfl) K s
theorem k1_eq : den prog ann 56 (.code k1 :: K) s = den prog ann 56 (.code r5 :: .code r6 :: .code r7 :: .code k2 :: .inBlock 1 :: K) s := den_blk hf (b := blkOf k1) (l := [r5, r6, r7, k2]) (by kernel_rfl) (by kernel_rfl) K s
theorem r5_eq : den prog ann 56 (.code r5 :: K) s = mreg prog ann 56 none [] none [] [qC 26 24,qC 5 26] K s := (den_reg hf _ K s).trans (by kernel_rfl)
theorem r6_draw : drawOk (fun g => (ann g).pure) (modeOf (ann 56) (idOf r6)) (frzOf (ann 56) (idOf r6)) (opsOf r6) = true := drawOk_of (an := [0, 0, 0, 4, 15, 31]) (by kernel_rfl) (by kernel_rfl)
theorem r6_eq : den prog ann 56 (.code r6 :: K) s = mreg prog ann 56 none [] (some 6) [] [qA 27 (loadF false 1) 4,qC 28 5,qC 29 3,⟨some 30, none, .w false (some 3) fun s => makeA 1 1 (.bool false) s.m (s.get 29) (s.get 29)⟩,qB 31 (idxSl 1) 27 28,⟨none, none, .w false (some 5) fun s => stA false 1 s.m (s.get 31) (s.get 30)⟩] K s := (den_regD hf r6_draw K s).trans (by kernel_rfl)
theorem r7_eq : den prog ann 56 (.code r7 :: K) s = mreg prog ann 56 none [] none [] [qC 32 3,qF 33 fun s => some (.int .i64 0)] K s := (den_reg hf _ K s).trans (by kernel_rfl)
theorem k2_eq (K : List Item) (t : List (Nat × AV)) (m : Mem) : den prog ann 56 (.code k2 :: K) ⟨t, 161, m⟩ = L2 (get t 1) (get t 2) (get t 3) (get t 4) (get t 5) (get t 23) (get t 24) (get t 32) (get t 33) m K := den_loop_enter hf (b := l2) (id := 8) (l := [1, 2, 3, 4, 5, 23, 24, 32, 33]) (by kernel_rfl) (by kernel_rfl) (by kernel_rfl) K _
theorem l2_eq (K : List Item) (t : List (Nat × AV)) (m : Mem) : den prog ann 56 (.inLoop l2 :: .inBlock 2 :: K) ⟨t, 161, m⟩ = L2 (get t 1) (get t 2) (get t 3) (get t 4) (get t 5) (get t 23) (get t 24) (get t 32) (get t 33) m K := den_loop_again hf (id := 8) (l := [1, 2, 3, 4, 5, 23, 24, 32, 33]) (by kernel_rfl) (by kernel_rfl) (.inBlock 2 :: K) _
theorem L2_eq (x1 x2 x3 x4 x5 x23 x24 x32 x33 : AV) (m : Mem) (K : List Item) : L2 x1 x2 x3 x4 x5 x23 x24 x32 x33 m K = den prog ann 56 (.code r8 :: .code i1 :: .code k3 :: .code r11 :: .inLoop l2 :: .inBlock 2 :: K) ⟨[(1, x1), (2, x2), (3, x3), (4, x4), (5, x5), (23, x23), (24, x24), (32, x32), (33, x33)], 161, m⟩ := den_flat hf (l := [r8, i1, k3, r11]) (by kernel_rfl) _ _
theorem r8_eq : den prog ann 56 (.code r8 :: K) s = mreg prog ann 56 (some [1, 2, 3, 4, 5, 23, 24, 32, 33]) [] none [] [qB 34 (binA prog .lss 3) 33 32] K s := (den_reg hf _ K s).trans (by kernel_rfl)
theorem i1_eq : den prog ann 56 (.code i1 :: K) s = ifV prog ann 56 34 i1t i1e K s (s.get 34) := den_if hf (by kernel_rfl) K s
theorem i1t_eq : den prog ann 56 (.code i1t :: K) s = den prog ann 56 (K) s := den_flat hf (l := []) (by kernel_rfl) K s
theorem i1e_eq : den prog ann 56 (.code i1e :: K) s = den prog ann 56 (.code (.exit 2) :: K) s := den_flat hf (l := [(.exit 2)]) (by kernel_rfl) K s
theorem k3_eq : den prog ann 56 (.code k3 :: K) s = den prog ann 56 (.code r9 :: .code r10 :: .inBlock 3 :: K) s := den_blk hf (b := blkOf k3) (l := [r9, r10]) (by kernel_rfl) (by kernel_rfl) K s
theorem r9_eq : den prog ann 56 (.code r9 :: K) s = mreg prog ann 56 none [] none [] [qC 35 33,qC 6 35] K s := (den_reg hf _ K s).trans (by kernel_rfl)
theorem r10_draw : drawOk (fun g => (ann g).pure) (modeOf (ann 56) (idOf r10)) (frzOf (ann 56) (idOf r10)) (opsOf r10) = true := drawOk_of (an := [0, 0, 3, 7, 0, 0, 32, 0, 224, 480, 0, 1024, 0, 7168, 15360, 32736, 65535, 131071]) (by kernel_rfl) (by kernel_rfl)
theorem r10_eq : den prog ann 56 (.code r10 :: K) s = mreg prog ann 56 none [] (some 18) [] [qA 36 (loadF false 1) 4,qC 37 5,qB 38 (idxSl 1) 36 37,qF 39 fun s => loadA false 1 s.m (s.get 38),qC 40 6,qA 41 (fieldA 1) 1,qA 42 (loadF false 1) 41,qC 43 5,qB 44 (idxSl 1) 42 43,qA 45 (loadF false 1) 44,qA 46 (fieldA 1) 1,qA 47 (loadF false 1) 46,qC 48 6,qB 49 (idxSl 1) 47 48,qA 50 (loadF false 1) 49,qB 51 (binA prog .neq 4) 45 50,qB 52 (idxSl 1) 39 40,⟨none, none, .w false (some 17) fun s => stA false 1 s.m (s.get 52) (s.get 51)⟩] K s := (den_regD hf r10_draw K s).trans (by kernel_rfl)
theorem r11_eq : den prog ann 56 (.code r11 :: K) s = mreg prog ann 56 (some [1, 2, 3, 4, 5, 23, 24, 32, 33]) [] none [] [qF 53 fun s => binA prog .add 3 (s.get 33) (.int .i64 1),qC 33 53] K s := (den_reg hf _ K s).trans (by kernel_rfl)
theorem r12_eq : den prog ann 56 (.code r12 :: K) s = mreg prog ann 56 (some [1, 2, 3, 4, 23, 24]) [] none [] [qF 54 fun s => binA prog .add 3 (s.get 24) (.int .i64 1),qC 24 54] K s := (den_reg hf _ K s).trans (by kernel_rfl)
theorem r13_eq : den prog ann 56 (.code r13 :: K) s = mreg prog ann 56 (some [1, 2, 3, 4]) [] none [] [qF 7 fun s => some (.bool true)] K s := (den_reg hf _ K s).trans (by kernel_rfl)
theorem k4_eq (K : List Item) (t : List (Nat × AV)) (m : Mem) : den prog ann 56 (.code k4 :: K) ⟨t, 161, m⟩ = L4 (get t 1) (get t 2) (get t 3) (get t 4) (get t 7) m K := den_loop_enter hf (b := l4) (id := 14) (l := [1, 2, 3, 4, 7]) (by kernel_rfl) (by kernel_rfl) (by kernel_rfl) K _
theorem l4_eq (K : List Item) (t : List (Nat × AV)) (m : Mem) : den prog ann 56 (.inLoop l4 :: .inBlock 4 :: K) ⟨t, 161, m⟩ = L4 (get t 1) (get t 2) (get t 3) (get t 4) (get t 7) m K := den_loop_again hf (id := 14) (l := [1, 2, 3, 4, 7]) (by kernel_rfl) (by kernel_rfl) (.inBlock 4 :: K) _
theorem L4_eq (x1 x2 x3 x4 x7 : AV) (m : Mem) (K : List Item) : L4 x1 x2 x3 x4 x7 m K = den prog ann 56 (.code r14 :: .code i2 :: .code k5 :: .inLoop l4 :: .inBlock 4 :: K) ⟨[(1, x1), (2, x2), (3, x3), (4, x4), (7, x7)], 161, m⟩ := den_flat hf (l := [r14, i2, k5]) (by kernel_rfl) _ _
theorem r14_eq : den prog ann 56 (.code r14 :: K) s = mreg prog ann 56 (some [1, 2, 3, 4, 7]) [] none [] [qC 55 7] K s := (den_reg hf _ K s).trans (by kernel_rfl)
theorem i2_eq : den prog ann 56 (.code i2 :: K) s = ifV prog ann 56 55 i2t i2e K s (s.get 55) := den_if hf (by kernel_rfl) K s
theorem i2t_eq : den prog ann 56 (.code i2t :: K) s = den prog ann 56 (K) s := den_flat hf (l := []) (by kernel_rfl) K s
theorem i2e_eq : den prog ann 56 (.code i2e :: K) s = den prog ann 56 (.code (.exit 4) :: K) s := den_flat hf (l := [(.exit 4)]) (by kernel_rfl) K s
theorem k5_eq : den prog ann 56 (.code k5 :: K) s = den prog ann 56 (.code r15 :: .code r16 :: .code k6 :: .inBlock 5 :: K) s := den_blk hf (b := blkOf k5) (l := [r15, r16, k6]) (by kernel_rfl) (by kernel_rfl) K s
theorem r15_eq : den prog ann 56 (.code r15 :: K) s = mreg prog ann 56 none [] none [] [qF 7 fun s => some (.bool false)] K s := (den_reg hf _ K s).trans (by kernel_rfl)
theorem r16_eq : den prog ann 56 (.code r16 :: K) s = mreg prog ann 56 none [] none [] [qC 56 3,qF 57 fun s => some (.int .i64 0)] K s := (den_reg hf _ K s).trans (by kernel_rfl)
theorem k6_eq (K : List Item) (t : List (Nat × AV)) (m : Mem) : den prog ann 56 (.code k6 :: K) ⟨t, 161, m⟩ = L6 (get t 1) (get t 2) (get t 3) (get t 4) (get t 7) (get t 56) (get t 57) m K := den_loop_enter hf (b := l6) (id := 17) (l := [1, 2, 3, 4, 7, 56, 57]) (by kernel_rfl) (by kernel_rfl) (by kernel_rfl) K _
theorem l6_eq (K : List Item) (t : List (Nat × AV)) (m : Mem) : den prog ann 56 (.inLoop l6 :: .inBlock 6 :: K) ⟨t, 161, m⟩ = L6 (get t 1) (get t 2) (get t 3) (get t 4) (get t 7) (get t 56) (get t 57) m K := den_loop_again hf (id := 17) (l := [1, 2, 3, 4, 7, 56, 57]) (by kernel_rfl) (by kernel_rfl) (.inBlock 6 :: K) _
theorem L6_eq (x1 x2 x3 x4 x7 x56 x57 : AV) (m : Mem) (K : List Item) : L6 x1 x2 x3 x4 x7 x56 x57 m K = den prog ann 56 (.code r17 :: .code i3 :: .code k7 :: .code r29 :: .inLoop l6 :: .inBlock 6 :: K) ⟨[(1, x1), (2, x2), (3, x3), (4, x4), (7, x7), (56, x56), (57, x57)], 161, m⟩ := den_flat hf (l := [r17, i3, k7, r29]) (by kernel_rfl) _ _
theorem r17_eq : den prog ann 56 (.code r17 :: K) s = mreg prog ann 56 (some [1, 2, 3, 4, 7, 56, 57]) [] none [] [qB 58 (binA prog .lss 3) 57 56] K s := (den_reg hf _ K s).trans (by kernel_rfl)
theorem i3_eq : den prog ann 56 (.code i3 :: K) s = ifV prog ann 56 58 i3t i3e K s (s.get 58) := den_if hf (by kernel_rfl) K s
theorem i3t_eq : den prog ann 56 (.code i3t :: K) s = den prog ann 56 (K) s := den_flat hf (l := []) (by kernel_rfl) K s
theorem i3e_eq : den prog ann 56 (.code i3e :: K) s = den prog ann 56 (.code (.exit 6) :: K) s := den_flat hf (l := [(.exit 6)]) (by kernel_rfl) K s
theorem k7_eq : den prog ann 56 (.code k7 :: K) s = den prog ann 56 (.code r18 :: .code r19 :: .code k8 :: .inBlock 7 :: K) s := den_blk hf (b := blkOf k7) (l := [r18, r19, k8]) (by kernel_rfl) (by kernel_rfl) K s
theorem r18_eq : den prog ann 56 (.code r18 :: K) s = mreg prog ann 56 none [] none [] [qC 59 57,qC 8 59] K s := (den_reg hf _ K s).trans (by kernel_rfl)
theorem r19_eq : den prog ann 56 (.code r19 :: K) s = mreg prog ann 56 none [] none [] [qC 60 3,qF 61 fun s => some (.int .i64 0)] K s := (den_reg hf _ K s).trans (by kernel_rfl)
theorem k8_eq (K : List Item) (t : List (Nat × AV)) (m : Mem) : den prog ann 56 (.code k8 :: K) ⟨t, 161, m⟩ = L8 (get t 1) (get t 2) (get t 3) (get t 4) (get t 7) (get t 8) (get t 56) (get t 57) (get t 60) (get t 61) m K := den_loop_enter hf (b := l8) (id := 20) (l := [1, 2, 3, 4, 7, 8, 56, 57, 60, 61]) (by kernel_rfl) (by kernel_rfl) (by kernel_rfl) K _
theorem l8_eq (K : List Item) (t : List (Nat × AV)) (m : Mem) : den prog ann 56 (.inLoop l8 :: .inBlock 8 :: K) ⟨t, 161, m⟩ = L8 (get t 1) (get t 2) (get t 3) (get t 4) (get t 7) (get t 8) (get t 56) (get t 57) (get t 60) (get t 61) m K := den_loop_again hf (id := 20) (l := [1, 2, 3, 4, 7, 8, 56, 57, 60, 61]) (by kernel_rfl) (by kernel_rfl) (.inBlock 8 :: K) _
theorem L8_eq (x1 x2 x3 x4 x7 x8 x56 x57 x60 x61 : AV) (m : Mem) (K : List Item) : L8 x1 x2 x3 x4 x7 x8 x56 x57 x60 x61 m K = den prog ann 56 (.code r20 :: .code i4 :: .code k9 :: .code r28 :: .inLoop l8 :: .inBlock 8 :: K) ⟨[(1, x1), (2, x2), (3, x3), (4, x4), (7, x7), (8, x8), (56, x56), (57, x57), (60, x60), (61, x61)], 161, m⟩ := den_flat hf (l := [r20, i4, k9, r28]) (by kernel_rfl) _ _
theorem r20_eq : den prog ann 56 (.code r20 :: K) s = mreg prog ann 56 (some [1, 2, 3, 4, 7, 8, 56, 57, 60, 61]) [] none [] [qB 62 (binA prog .lss 3) 61 60] K s := (den_reg hf _ K s).trans (by kernel_rfl)
theorem i4_eq : den prog ann 56 (.code i4 :: K) s = ifV prog ann 56 62 i4t i4e K s (s.get 62) := den_if hf (by kernel_rfl) K s
theorem i4t_eq : den prog ann 56 (.code i4t :: K) s = den prog ann 56 (K) s := den_flat hf (l := []) (by kernel_rfl) K s
theorem i4e_eq : den prog ann 56 (.code i4e :: K) s = den prog ann 56 (.code (.exit 8) :: K) s := den_flat hf (l := [(.exit 8)]) (by kernel_rfl) K s
theorem k9_eq : den prog ann 56 (.code k9 :: K) s = den prog ann 56 (.code r21 :: .code r22 :: .code k10 :: .inBlock 9 :: K) s := den_blk hf (b := blkOf k9) (l := [r21, r22, k10]) (by kernel_rfl) (by kernel_rfl) K s
theorem r21_eq : den prog ann 56 (.code r21 :: K) s = mreg prog ann 56 none [] none [] [qC 63 61,qC 9 63] K s := (den_reg hf _ K s).trans (by kernel_rfl)
theorem r22_eq : den prog ann 56 (.code r22 :: K) s = mreg prog ann 56 none [] none [] [qA 64 (fieldA 0) 1,qA 65 (loadF false 1) 64,qC 66 8,qB 67 (idxSl 1) 65 66,qA 68 (loadF false 1) 67,qA 69 lenSl 68,qF 70 fun s => some (.int .i64 0)] K s := (den_reg hf _ K s).trans (by kernel_rfl)
theorem k10_eq (K : List Item) (t : List (Nat × AV)) (m : Mem) : den prog ann 56 (.code k10 :: K) ⟨t, 161, m⟩ = L10 (get t 1) (get t 2) (get t 3) (get t 4) (get t 7) (get t 8) (get t 9) (get t 56) (get t 57) (get t 60) (get t 61) (get t 69) (get t 70) m K := den_loop_enter hf (b := l10) (id := 23) (l := [1, 2, 3, 4, 7, 8, 9, 56, 57, 60, 61, 69, 70]) (by kernel_rfl) (by kernel_rfl) (by kernel_rfl) K _
theorem l10_eq (K : List Item) (t : List (Nat × AV)) (m : Mem) : den prog ann 56 (.inLoop l10 :: .inBlock 10 :: K) ⟨t, 161, m⟩ = L10 (get t 1) (get t 2) (get t 3) (get t 4) (get t 7) (get t 8) (get t 9) (get t 56) (get t 57) (get t 60) (get t 61) (get t 69) (get t 70) m K := den_loop_again hf (id := 23) (l := [1, 2, 3, 4, 7, 8, 9, 56, 57, 60, 61, 69, 70]) (by kernel_rfl) (by kernel_rfl) (.inBlock 10 :: K) _
theorem L10_eq (x1 x2 x3 x4 x7 x8 x9 x56 x57 x60 x61 x69 x70 : AV) (m : Mem) (K : List Item) : L10 x1 x2 x3 x4 x7 x8 x9 x56 x57 x60 x61 x69 x70 m K = den prog ann 56 (.code r23 :: .code i5 :: .code k11 :: .code r27 :: .inLoop l10 :: .inBlock 10 :: K) ⟨[(1, x1), (2, x2), (3, x3), (4, x4), (7, x7), (8, x8), (9, x9), (56, x56), (57, x57), (60, x60), (61, x61), (69, x69), (70, x70)], 161, m⟩ := den_flat hf (l := [r23, i5, k11, r27]) (by kernel_rfl) _ _
theorem r23_eq : den prog ann 56 (.code r23 :: K) s = mreg prog ann 56 (some [1, 2, 3, 4, 7, 8, 9, 56, 57, 60, 61, 69, 70]) [] none [] [qB 71 (binA prog .lss 3) 70 69] K s := (den_reg hf _ K s).trans (by kernel_rfl)
theorem i5_eq : den prog ann 56 (.code i5 :: K) s = ifV prog ann 56 71 i5t i5e K s (s.get 71) := den_if hf (by kernel_rfl) K s
theorem i5t_eq : den prog ann 56 (.code i5t :: K) s = den prog ann 56 (K) s := den_flat hf (l := []) (by kernel_rfl) K s
theorem i5e_eq : den prog ann 56 (.code i5e :: K) s = den prog ann 56 (.code (.exit 10) :: K) s := den_flat hf (l := [(.exit 10)]) (by kernel_rfl) K s
theorem k11_eq : den prog ann 56 (.code k11 :: K) s = den prog ann 56 (.code r24 :: .code r25 :: .code i6 :: .inBlock 11 :: K) s := den_blk hf (b := blkOf k11) (l := [r24, r25, i6]) (by kernel_rfl) (by kernel_rfl) K s
theorem r24_eq : den prog ann 56 (.code r24 :: K) s = mreg prog ann 56 none [] none [] [qC 72 70,qC 10 72] K s := (den_reg hf _ K s).trans (by kernel_rfl)
theorem r25_draw : drawOk (fun g => (ann g).pure) (modeOf (ann 56) (idOf r25)) (frzOf (ann 56) (idOf r25)) (opsOf r25) = true := drawOk_of (an := [0, 0, 3, 7, 0, 31, 63, 127, 255, 511, 511, 1535, 511, 7679, 15871, 511, 65023, 130559, 262143, 524287, 511, 1049087, 511, 7340543, 15729151, 511, 66060799, 133169663, 268435455, 536870911, 1073741823]) (by kernel_rfl) (by kernel_rfl)
theorem r25_eq : den prog ann 56 (.code r25 :: K) s = mreg prog ann 56 none [] (some 31) [] [qA 73 (loadF false 1) 4,qC 74 8,qB 75 (idxSl 1) 73 74,qF 76 fun s => loadA false 1 s.m (s.get 75),qC 77 9,qB 78 (idxSl 1) 76 77,qF 79 fun s => loadA false 1 s.m (s.get 78),qA 80 (unA .not) 79,qC 81 80,⟨some 82, some (81, true), .v fun s => loadF false 1 (s.get 4)⟩,⟨some 83, some (81, true), .v fun s => fieldA 0 (s.get 1)⟩,⟨some 84, some (81, true), .v fun s => loadF false 1 (s.get 83)⟩,⟨some 85, some (81, true), .v fun s => some (s.get 8)⟩,⟨some 86, some (81, true), .v fun s => idxSl 1 (s.get 84) (s.get 85)⟩,⟨some 87, some (81, true), .v fun s => loadF false 1 (s.get 86)⟩,⟨some 88, some (81, true), .v fun s => some (s.get 10)⟩,⟨some 89, some (81, true), .v fun s => idxSl 1 (s.get 87) (s.get 88)⟩,⟨some 90, some (81, true), .v fun s => loadF false 1 (s.get 89)⟩,⟨some 91, some (81, true), .v fun s => idxSl 1 (s.get 82) (s.get 90)⟩,⟨some 92, some (81, true), .v fun s => loadA false 1 s.m (s.get 91)⟩,⟨some 93, some (81, true), .v fun s => fieldA 0 (s.get 1)⟩,⟨some 94, some (81, true), .v fun s => loadF false 1 (s.get 93)⟩,⟨some 95, some (81, true), .v fun s => some (s.get 9)⟩,⟨some 96, some (81, true), .v fun s => idxSl 1 (s.get 94) (s.get 95)⟩,⟨some 97, some (81, true), .v fun s => loadF false 1 (s.get 96)⟩,⟨some 98, some (81, true), .v fun s => some (s.get 10)⟩,⟨some 99, some (81, true), .v fun s => idxSl 1 (s.get 97) (s.get 98)⟩,⟨some 100, some (81, true), .v fun s => loadF false 1 (s.get 99)⟩,⟨some 101, some (81, true), .v fun s => idxSl 1 (s.get 92) (s.get 100)⟩,⟨some 102, some (81, true), .v fun s => loadA false 1 s.m (s.get 101)⟩,qF 103 fun s => pickA (s.get 81) (s.get 102) (.bool false)] K s := (den_regD hf r25_draw K s).trans (by kernel_rfl)
theorem i6_eq : den prog ann 56 (.code i6 :: K) s = ifV prog ann 56 103 i6t i6e K s (s.get 103) := den_if hf (by kernel_rfl) K s
theorem i6t_eq : den prog ann 56 (.code i6t :: K) s = den prog ann 56 (.code r26 :: K) s := den_flat hf (l := [r26]) (by kernel_rfl) K s
theorem r26_eq : den prog ann 56 (.code r26 :: K) s = mreg prog ann 56 none [] none [] [qA 104 (loadF false 1) 4,qC 105 8,qB 106 (idxSl 1) 104 105,qF 107 fun s => loadA false 1 s.m (s.get 106),qC 108 9,qB 109 (idxSl 1) 107 108,⟨none, none, .w false none fun s => stA false 1 s.m (s.get 109) (.bool true)⟩,qF 7 fun s => some (.bool true)] K s := (den_reg hf _ K s).trans (by kernel_rfl)
theorem i6e_eq : den prog ann 56 (.code i6e :: K) s = den prog ann 56 (K) s := den_flat hf (l := []) (by kernel_rfl) K s
theorem r27_eq : den prog ann 56 (.code r27 :: K) s = mreg prog ann 56 (some [1, 2, 3, 4, 7, 8, 9, 56, 57, 60, 61, 69, 70]) [] none [] [qF 110 fun s => binA prog .add 3 (s.get 70) (.int .i64 1),qC 70 110] K s := (den_reg hf _ K s).trans (by kernel_rfl)
theorem r28_eq : den prog ann 56 (.code r28 :: K) s = mreg prog ann 56 (some [1, 2, 3, 4, 7, 8, 56, 57, 60, 61]) [] none [] [qF 111 fun s => binA prog .add 3 (s.get 61) (.int .i64 1),qC 61 111] K s := (den_reg hf _ K s).trans (by kernel_rfl)
theorem r29_eq : den prog ann 56 (.code r29 :: K) s = mreg prog ann 56 (some [1, 2, 3, 4, 7, 56, 57]) [] none [] [qF 112 fun s => binA prog .add 3 (s.get 57) (.int .i64 1),qC 57 112] K s := (den_reg hf _ K s).trans (by kernel_rfl)
theorem r30_eq : den prog ann 56 (.code r30 :: K) s = mreg prog ann 56 (some [1, 2, 4]) [] none [] [⟨some 11, none, .w false none fun s => newPtr s.m [.nils, .nils]⟩] K s := (den_reg hf _ K s).trans (by kernel_rfl)
theorem r31_eq : den prog ann 56 (.code r31 :: K) s = mreg prog ann 56 none [] none [] [⟨some 113, none, .w false none fun s => bslM s.m 1 (bslA 1 1 [.int .i64 0] [(0, (.int .i64 0))])⟩,⟨some 12, none, .w false none fun s => newPtr s.m [.nils]⟩,⟨none, none, .w false none fun s => stA false 1 s.m (s.get 12) (s.get 113)⟩] K s := (den_reg hf _ K s).trans (by kernel_rfl)
theorem r32_eq : den prog ann 56 (.code r32 :: K) s = mreg prog ann 56 none [] none [] [qF 114 fun s => some (.fn 80 [] [(s.get 12), (s.get 4)]),qC 13 114] K s := (den_reg hf _ K s).trans (by kernel_rfl)
theorem r33_eq : den prog ann 56 (.code r33 :: K) s = mreg prog ann 56 none [] none [] [qF 14 fun s => some (.int .i64 0)] K s := (den_reg hf _ K s).trans (by kernel_rfl)
theorem k12_eq (K : List Item) (t : List (Nat × AV)) (m : Mem) : den prog ann 56 (.code k12 :: K) ⟨t, 161, m⟩ = L12 (get t 1) (get t 2) (get t 11) (get t 12) (get t 13) (get t 14) m K := den_loop_enter hf (b := l12) (id := 34) (l := [1, 2, 11, 12, 13, 14]) (by kernel_rfl) (by kernel_rfl) (by kernel_rfl) K _
theorem l12_eq (K : List Item) (t : List (Nat × AV)) (m : Mem) : den prog ann 56 (.inLoop l12 :: .inBlock 12 :: K) ⟨t, 161, m⟩ = L12 (get t 1) (get t 2) (get t 11) (get t 12) (get t 13) (get t 14) m K := den_loop_again hf (id := 34) (l := [1, 2, 11, 12, 13, 14]) (by kernel_rfl) (by kernel_rfl) (.inBlock 12 :: K) _
theorem L12_eq (x1 x2 x11 x12 x13 x14 : AV) (m : Mem) (K : List Item) : L12 x1 x2 x11 x12 x13 x14 m K = den prog ann 56 (.code r34 :: .code i7 :: .code k13 :: .code r35 :: .inLoop l12 :: .inBlock 12 :: K) ⟨[(1, x1), (2, x2), (11, x11), (12, x12), (13, x13), (14, x14)], 161, m⟩ := den_flat hf (l := [r34, i7, k13, r35]) (by kernel_rfl) _ _
theorem r34_eq : den prog ann 56 (.code r34 :: K) s = mreg prog ann 56 (some [1, 2, 11, 12, 13, 14]) [] none [] [qC 115 14,qF 116 fun s => loadA false 1 s.m (s.get 12),qA 117 lenSl 116,qB 118 (binA prog .lss 3) 115 117] K s := (den_reg hf _ K s).trans (by kernel_rfl)
theorem i7_eq : den prog ann 56 (.code i7 :: K) s = ifV prog ann 56 118 i7t i7e K s (s.get 118) := den_if hf (by kernel_rfl) K s
theorem i7t_eq : den prog ann 56 (.code i7t :: K) s = den prog ann 56 (K) s := den_flat hf (l := []) (by kernel_rfl) K s
theorem i7e_eq : den prog ann 56 (.code i7e :: K) s = den prog ann 56 (.code (.exit 12) :: K) s := den_flat hf (l := [(.exit 12)]) (by kernel_rfl) K s
theorem k13_eq : den prog ann 56 (.code k13 :: K) s = den prog ann 56 (.code r36 :: .code r37 :: .code k14 :: .code r42 :: .inBlock 13 :: K) s := den_blk hf (b := blkOf k13) (l := [r36, r37, k14, r42]) (by kernel_rfl) (by kernel_rfl) K s
theorem r36_eq : den prog ann 56 (.code r36 :: K) s = mreg prog ann 56 none [] none [] [qF 15 fun s => some (.nils)] K s := (den_reg hf _ K s).trans (by kernel_rfl)
theorem r37_draw : drawOk (fun g => (ann g).pure) (modeOf (ann 56) (idOf r37)) (frzOf (ann 56) (idOf r37)) (opsOf r37) = true := drawOk_of (an := [0, 1, 0, 0, 12, 28, 63, 127, 255, 0]) (by kernel_rfl) (by kernel_rfl)
theorem r37_eq : den prog ann 56 (.code r37 :: K) s = mreg prog ann 56 none [] (some 10) [] [qA 121 (fieldA 0) 1,qA 122 (loadF false 1) 121,qF 123 fun s => loadA false 1 s.m (s.get 12),qC 124 14,qB 125 (idxSl 1) 123 124,qF 126 fun s => loadA false 1 s.m (s.get 125),qB 127 (idxSl 1) 122 126,qA 128 (loadF false 1) 127,qA 129 lenSl 128,qF 130 fun s => some (.int .i64 0)] K s := (den_regD hf r37_draw K s).trans (by kernel_rfl)
theorem k14_eq (K : List Item) (t : List (Nat × AV)) (m : Mem) : den prog ann 56 (.code k14 :: K) ⟨t, 161, m⟩ = L14 (get t 1) (get t 2) (get t 11) (get t 12) (get t 13) (get t 14) (get t 15) (get t 128) (get t 129) (get t 130) m K := den_loop_enter hf (b := l14) (id := 38) (l := [1, 2, 11, 12, 13, 14, 15, 128, 129, 130]) (by kernel_rfl) (by kernel_rfl) (by kernel_rfl) K _
theorem l14_eq (K : List Item) (t : List (Nat × AV)) (m : Mem) : den prog ann 56 (.inLoop l14 :: .inBlock 14 :: K) ⟨t, 161, m⟩ = L14 (get t 1) (get t 2) (get t 11) (get t 12) (get t 13) (get t 14) (get t 15) (get t 128) (get t 129) (get t 130) m K := den_loop_again hf (id := 38) (l := [1, 2, 11, 12, 13, 14, 15, 128, 129, 130]) (by kernel_rfl) (by kernel_rfl) (.inBlock 14 :: K) _
theorem L14_eq (x1 x2 x11 x12 x13 x14 x15 x128 x129 x130 : AV) (m : Mem) (K : List Item) : L14 x1 x2 x11 x12 x13 x14 x15 x128 x129 x130 m K = den prog ann 56 (.code r38 :: .code i8 :: .code k15 :: .code r41 :: .inLoop l14 :: .inBlock 14 :: K) ⟨[(1, x1), (2, x2), (11, x11), (12, x12), (13, x13), (14, x14), (15, x15), (128, x128), (129, x129), (130, x130)], 161, m⟩ := den_flat hf (l := [r38, i8, k15, r41]) (by kernel_rfl) _ _
theorem r38_eq : den prog ann 56 (.code r38 :: K) s = mreg prog ann 56 (some [1, 2, 11, 12, 13, 14, 15, 128, 129, 130]) [] none [] [qB 131 (binA prog .lss 3) 130 129] K s := (den_reg hf _ K s).trans (by kernel_rfl)
theorem i8_eq : den prog ann 56 (.code i8 :: K) s = ifV prog ann 56 131 i8t i8e K s (s.get 131) := den_if hf (by kernel_rfl) K s
theorem i8t_eq : den prog ann 56 (.code i8t :: K) s = den prog ann 56 (K) s := den_flat hf (l := []) (by kernel_rfl) K s
theorem i8e_eq : den prog ann 56 (.code i8e :: K) s = den prog ann 56 (.code (.exit 14) :: K) s := den_flat hf (l := [(.exit 14)]) (by kernel_rfl) K s
theorem k15_eq : den prog ann 56 (.code k15 :: K) s = den prog ann 56 (.code r39 :: .code r40 :: .inBlock 15 :: K) s := den_blk hf (b := blkOf k15) (l := [r39, r40]) (by kernel_rfl) (by kernel_rfl) K s
theorem r39_eq : den prog ann 56 (.code r39 :: K) s = mreg prog ann 56 none [] none [] [qB 132 (idxSl 1) 128 130,qA 133 (loadF false 1) 132,qC 17 133] K s := (den_reg hf _ K s).trans (by kernel_rfl)
theorem r40_eq : den prog ann 56 (.code r40 :: K) s = mreg prog ann 56 none [] none [] [qC 134 15,qC 135 13,qC 136 17,⟨some 137, none, .c 0 (fun s => (s.get 135)) fun s => [(s.get 136)]⟩,qF 138 fun s => bslF 1 (bslA 1 1 [.int .i64 0] [(0, (s.get 137))]),⟨some 139, none, .w false none fun s => appendA 1 8 s.m (s.get 134) (s.get 138)⟩,qC 15 139] K s := (den_reg hf _ K s).trans (by kernel_rfl)
theorem r41_eq : den prog ann 56 (.code r41 :: K) s = mreg prog ann 56 (some [1, 2, 11, 12, 13, 14, 15, 128, 129, 130]) [] none [] [qF 140 fun s => binA prog .add 3 (s.get 130) (.int .i64 1),qC 130 140] K s := (den_reg hf _ K s).trans (by kernel_rfl)
theorem r42_draw : drawOk (fun g => (ann g).pure) (modeOf (ann 56) (idOf r42)) (frzOf (ann 56) (idOf r42)) (opsOf r42) = true := drawOk_of (an := [0, 1, 0, 4, 15, 0, 32, 0, 128, 0, 0, 1536, 3584, 8064, 16256, 32640, 65535, 127, 262143, 524287, 1048575]) (by kernel_rfl) (by kernel_rfl)
theorem r42_eq : den prog ann 56 (.code r42 :: K) s = mreg prog ann 56 (some [1, 2, 11, 12, 13, 14, 15]) [15] (some 21) [3142146, 2000144, 3142012, 3142152] [qA 141 (fieldA 0) 11,qF 142 fun s => loadA false 1 s.m (s.get 141),qC 143 15,qF 144 fun s => bslF 1 (bslA 1 1 [.nils] [(0, (s.get 143))]),⟨some 145, none, .w false (some 4) fun s => appendA 1 24 s.m (s.get 142) (s.get 144)⟩,qA 146 (fieldA 1) 11,qF 147 fun s => loadA false 1 s.m (s.get 146),qA 148 (fieldA 1) 1,qA 149 (loadF false 1) 148,qF 150 fun s => loadA false 1 s.m (s.get 12),qC 151 14,qB 152 (idxSl 1) 150 151,qF 153 fun s => loadA false 1 s.m (s.get 152),qB 154 (idxSl 1) 149 153,qA 155 (loadF false 1) 154,qF 156 fun s => bslF 1 (bslA 1 1 [.bool false] [(0, (s.get 155))]),⟨some 157, none, .w false (some 16) fun s => appendA 1 1 s.m (s.get 147) (s.get 156)⟩,qA 158 (fieldA 0) 11,⟨none, none, .w false (some 18) fun s => stA false 1 s.m (s.get 158) (s.get 145)⟩,qA 159 (fieldA 1) 11,⟨none, none, .w false (some 20) fun s => stA false 1 s.m (s.get 159) (s.get 157)⟩] K s := (den_regD hf r42_draw K s).trans (by kernel_rfl)
theorem r35_eq : den prog ann 56 (.code r35 :: K) s = mreg prog ann 56 (some [1, 2, 11, 12, 13, 14]) [] none [] [qC 119 14,qF 120 fun s => binA prog .add 3 (s.get 119) (.int .i64 1),qC 14 120] K s := (den_reg hf _ K s).trans (by kernel_rfl)
theorem r43_eq : den prog ann 56 (.code r43 :: K) s = mreg prog ann 56 (some [2, 11]) [] none [] [qF 160 fun s => loadA true 2 s.m (s.get 11),⟨none, none, .w false none fun s => stA true 2 s.m (s.get 2) (s.get 160)⟩] K s := (den_reg hf _ K s).trans (by kernel_rfl)
theorem ret_eq : den prog ann 56 (.code .ret :: K) s = finM true [fun s => loadA true 2 s.m (s.get 2)] s := (den_ret hf K s).trans (by kernel_rfl)
theorem nil_eq (s : St) : den prog ann 56 [] s = finM true [fun s => loadA true 2 s.m (s.get 2)] s := (den_nil hf s).trans (by kernel_rfl)
theorem inBlock_eq (id : Nat) (K : List Item) (s : St) : den prog ann 56 (.inBlock id :: K) s = den prog ann 56 K s := den_inBlock hf id K s
theorem exit_eq (id : Nat) (K : List Item) (s : St) : den prog ann 56 (.code (.exit id) :: K) s = exitV prog ann 56 (exitTo id K) s := den_exitV hf id K s
theorem call_eq (v0 : AV) (m : Mem) (h : closedL [v0] = true) : denC prog ann 56 [v0] m = (den prog ann 56 [.code b] ⟨[(0, v0)], 161, Mem.empty⟩).bind fun r => some (r.1, m) := (denC_pure hf (b := b) (by kernel_rfl) (by kernel_rfl) (by kernel_rfl) h m).trans (by kernel_rfl)
theorem pure_eq : (ann 56).pure = true := by kernel_rfl
attribute [simp] b_eq r0_eq r1_eq r2_eq r3_eq k0_eq l0_eq r4_eq i0_eq i0t_eq i0e_eq k1_eq r5_eq r6_eq r7_eq k2_eq l2_eq r8_eq i1_eq i1t_eq i1e_eq k3_eq r9_eq r10_eq r11_eq r12_eq r13_eq k4_eq l4_eq r14_eq i2_eq i2t_eq i2e_eq k5_eq r15_eq r16_eq k6_eq l6_eq r17_eq i3_eq i3t_eq i3e_eq k7_eq r18_eq r19_eq k8_eq l8_eq r20_eq i4_eq i4t_eq i4e_eq k9_eq r21_eq r22_eq k10_eq l10_eq r23_eq i5_eq i5t_eq i5e_eq k11_eq r24_eq r25_eq i6_eq i6t_eq r26_eq i6e_eq r27_eq r28_eq r29_eq r30_eq r31_eq r32_eq r33_eq k12_eq l12_eq r34_eq i7_eq i7t_eq i7e_eq k13_eq r36_eq r37_eq k14_eq l14_eq r38_eq i8_eq i8t_eq i8e_eq k15_eq r39_eq r40_eq r41_eq r42_eq r35_eq r43_eq ret_eq nil_eq inBlock_eq exit_eq pure_eq
end
end brand_smallest
namespace brand_smallest_1
noncomputable section
variable (K : List Item) (s : St)
def b : Code := (Try.f80.body).getD .skip
theorem hf : prog.funcs[80]? = some Try.f80 := by kernel_rfl
def r0 := findReg b 0
def r1 := findReg b 1
def r2 := findReg b 2
def i0 := findCond b 0
def i0t := thenOf i0
def i0e := elseOf i0
def r3 := findReg b 3
def r4 := findReg b 4
def r5 := findReg b 5
theorem b_eq : den prog ann 80 (.code b :: K) s = den prog ann 80 (.code r0 :: .code r1 :: .code r2 :: .code i0 :: .code r5 :: .code .ret :: K) s := den_flat hf (l := [r0, r1, r2, i0, r5, .ret]) (by kernel_rfl) K s
theorem r0_eq : den prog ann 80 (.code r0 :: K) s = mreg prog ann 80 none [] none [] [qA 3 frozenPtr 0,qF 4 fun s => some (.int .i64 0)] K s := (den_reg hf _ K s).trans (by kernel_rfl)
theorem r1_eq : den prog ann 80 (.code r1 :: K) s = mreg prog ann 80 none [] none [] [qF 6 fun s => loadA false 1 s.m (s.get 1),qF 7 fun s => some (.fn 82 [] [(s.get 2), (s.get 3)]),⟨some 8, none, .c 0 (fun s => (.fn 81 [] [])) fun s => [(s.get 6), (s.get 7)]⟩,qC 5 8] K s := (den_reg hf _ K s).trans (by kernel_rfl)
theorem r2_eq : den prog ann 80 (.code r2 :: K) s = mreg prog ann 80 none [] none [] [qC 9 5,qF 10 fun s => binA prog .lss 3 (s.get 9) (.int .i64 0)] K s := (den_reg hf _ K s).trans (by kernel_rfl)
theorem i0_eq : den prog ann 80 (.code i0 :: K) s = ifV prog ann 80 10 i0t i0e K s (s.get 10) := den_if hf (by kernel_rfl) K s
theorem i0t_eq : den prog ann 80 (.code i0t :: K) s = den prog ann 80 (.code r3 :: .code r4 :: K) s := den_flat hf (l := [r3, r4]) (by kernel_rfl) K s
theorem r3_eq : den prog ann 80 (.code r3 :: K) s = mreg prog ann 80 none [] none [] [qF 11 fun s => loadA false 1 s.m (s.get 1),qA 12 lenSl 11,qC 5 12] K s := (den_reg hf _ K s).trans (by kernel_rfl)
theorem r4_eq : den prog ann 80 (.code r4 :: K) s = mreg prog ann 80 none [] none [] [qF 13 fun s => loadA false 1 s.m (s.get 1),qA 14 (loadF false 1) 3,qF 15 fun s => bslF 1 (bslA 1 1 [.int .i64 0] [(0, (s.get 14))]),⟨some 16, none, .w false none fun s => appendA 1 8 s.m (s.get 13) (s.get 15)⟩,⟨none, none, .w false none fun s => stA false 1 s.m (s.get 1) (s.get 16)⟩] K s := (den_reg hf _ K s).trans (by kernel_rfl)
theorem i0e_eq : den prog ann 80 (.code i0e :: K) s = den prog ann 80 (K) s := den_flat hf (l := []) (by kernel_rfl) K s
theorem r5_eq : den prog ann 80 (.code r5 :: K) s = mreg prog ann 80 (some [5]) [] none [] [qC 17 5,qC 4 17] K s := (den_reg hf _ K s).trans (by kernel_rfl)
theorem ret_eq : den prog ann 80 (.code .ret :: K) s = finM false [fun s => some (s.get 4)] s := (den_ret hf K s).trans (by kernel_rfl)
theorem nil_eq (s : St) : den prog ann 80 [] s = finM false [fun s => some (s.get 4)] s := (den_nil hf s).trans (by kernel_rfl)
theorem inBlock_eq (id : Nat) (K : List Item) (s : St) : den prog ann 80 (.inBlock id :: K) s = den prog ann 80 K s := den_inBlock hf id K s
theorem exit_eq (id : Nat) (K : List Item) (s : St) : den prog ann 80 (.code (.exit id) :: K) s = exitV prog ann 80 (exitTo id K) s := den_exitV hf id K s
theorem call_eq (v0 v1 v2 : AV) (m : Mem) : denC prog ann 80 [v0, v1, v2] m = den prog ann 80 [.code b] ⟨[(0, v0), (1, v1), (2, v2)], 18, m⟩ := (denC_impure hf (b := b) (by kernel_rfl) (by kernel_rfl) (by kernel_rfl) m).trans (by kernel_rfl)
theorem pure_eq : (ann 80).pure = false := by kernel_rfl
attribute [simp] b_eq r0_eq r1_eq r2_eq i0_eq i0t_eq r3_eq r4_eq i0e_eq r5_eq ret_eq nil_eq inBlock_eq exit_eq pure_eq
end
end brand_smallest_1
namespace slices_IndexFunc_int
noncomputable section
variable (K : List Item) (s : St)
def b : Code := (Try.f81.body).getD .skip
theorem hf : prog.funcs[81]? = some Try.f81 := by kernel_rfl
def r0 := findReg b 0
def r1 := findReg b 1
def k0 := findBlk b 0
def l0 := loopOf k0
def L0 (x0 x1 x7 x8 : AV) (m : Mem) (K : List Item) : Option Res := den prog ann 81 (.code l0 :: .inLoop l0 :: .inBlock 0 :: K) ⟨[(0, x0), (1, x1), (7, x7), (8, x8)], 19, m⟩
def r2 := findReg b 2
def i0 := findCond b 0
def i0t := thenOf i0
def i0e := elseOf i0
def k1 := findBlk b 1
def r3 := findReg b 3
def r4 := findReg b 4
def i1 := findCond b 1
def i1t := thenOf i1
def i1e := elseOf i1
def r5 := findReg b 5
def r6 := findReg b 6
def r7 := findReg b 7
theorem b_eq : den prog ann 81 (.code b :: K) s = den prog ann 81 (.code r0 :: .code r1 :: .code k0 :: .code r7 :: .code .ret :: K) s := den_flat hf (l := [r0, r1, k0, r7, .ret]) (by kernel_rfl) K s
theorem r0_eq : den prog ann 81 (.code r0 :: K) s = mreg prog ann 81 none [] none [] [qF 4 fun s => some (.int .i64 0)] K s := (den_reg hf _ K s).trans (by kernel_rfl)
theorem r1_eq : den prog ann 81 (.code r1 :: K) s = mreg prog ann 81 none [] none [] [qC 6 0,qA 7 lenSl 6,qF 8 fun s => some (.int .i64 0)] K s := (den_reg hf _ K s).trans (by kernel_rfl)
theorem k0_eq (K : List Item) (t : List (Nat × AV)) (m : Mem) : den prog ann 81 (.code k0 :: K) ⟨t, 19, m⟩ = L0 (get t 0) (get t 1) (get t 7) (get t 8) m K := den_loop_enter hf (b := l0) (id := 2) (l := [0, 1, 7, 8]) (by kernel_rfl) (by kernel_rfl) (by kernel_rfl) K _
theorem l0_eq (K : List Item) (t : List (Nat × AV)) (m : Mem) : den prog ann 81 (.inLoop l0 :: .inBlock 0 :: K) ⟨t, 19, m⟩ = L0 (get t 0) (get t 1) (get t 7) (get t 8) m K := den_loop_again hf (id := 2) (l := [0, 1, 7, 8]) (by kernel_rfl) (by kernel_rfl) (.inBlock 0 :: K) _
theorem L0_eq (x0 x1 x7 x8 : AV) (m : Mem) (K : List Item) : L0 x0 x1 x7 x8 m K = den prog ann 81 (.code r2 :: .code i0 :: .code k1 :: .code r6 :: .inLoop l0 :: .inBlock 0 :: K) ⟨[(0, x0), (1, x1), (7, x7), (8, x8)], 19, m⟩ := den_flat hf (l := [r2, i0, k1, r6]) (by kernel_rfl) _ _
theorem r2_eq : den prog ann 81 (.code r2 :: K) s = mreg prog ann 81 (some [0, 1, 7, 8]) [] none [] [qB 9 (binA prog .lss 3) 8 7] K s := (den_reg hf _ K s).trans (by kernel_rfl)
theorem i0_eq : den prog ann 81 (.code i0 :: K) s = ifV prog ann 81 9 i0t i0e K s (s.get 9) := den_if hf (by kernel_rfl) K s
theorem i0t_eq : den prog ann 81 (.code i0t :: K) s = den prog ann 81 (K) s := den_flat hf (l := []) (by kernel_rfl) K s
theorem i0e_eq : den prog ann 81 (.code i0e :: K) s = den prog ann 81 (.code (.exit 0) :: K) s := den_flat hf (l := [(.exit 0)]) (by kernel_rfl) K s
theorem k1_eq : den prog ann 81 (.code k1 :: K) s = den prog ann 81 (.code r3 :: .code r4 :: .code i1 :: .inBlock 1 :: K) s := den_blk hf (b := blkOf k1) (l := [r3, r4, i1]) (by kernel_rfl) (by kernel_rfl) K s
theorem r3_eq : den prog ann 81 (.code r3 :: K) s = mreg prog ann 81 none [] none [] [qC 10 8,qC 5 10] K s := (den_reg hf _ K s).trans (by kernel_rfl)
theorem r4_eq : den prog ann 81 (.code r4 :: K) s = mreg prog ann 81 none [] none [] [qC 11 1,qC 12 0,qC 13 5,qB 14 (idxSl 1) 12 13,qF 15 fun s => loadA false 1 s.m (s.get 14),⟨some 16, none, .c 0 (fun s => (s.get 11)) fun s => [(s.get 15)]⟩] K s := (den_reg hf _ K s).trans (by kernel_rfl)
theorem i1_eq : den prog ann 81 (.code i1 :: K) s = ifV prog ann 81 16 i1t i1e K s (s.get 16) := den_if hf (by kernel_rfl) K s
theorem i1t_eq : den prog ann 81 (.code i1t :: K) s = den prog ann 81 (.code r5 :: .code .ret :: K) s := den_flat hf (l := [r5, .ret]) (by kernel_rfl) K s
theorem r5_eq : den prog ann 81 (.code r5 :: K) s = mreg prog ann 81 none [] none [] [qC 17 5,qC 4 17] K s := (den_reg hf _ K s).trans (by kernel_rfl)
theorem i1e_eq : den prog ann 81 (.code i1e :: K) s = den prog ann 81 (K) s := den_flat hf (l := []) (by kernel_rfl) K s
theorem r6_eq : den prog ann 81 (.code r6 :: K) s = mreg prog ann 81 (some [0, 1, 7, 8]) [] none [] [qF 18 fun s => binA prog .add 3 (s.get 8) (.int .i64 1),qC 8 18] K s := (den_reg hf _ K s).trans (by kernel_rfl)
theorem r7_eq : den prog ann 81 (.code r7 :: K) s = mreg prog ann 81 (some []) [] none [] [qF 4 fun s => some (.int .i64 (-1))] K s := (den_reg hf _ K s).trans (by kernel_rfl)
theorem ret_eq : den prog ann 81 (.code .ret :: K) s = finM false [fun s => some (s.get 4)] s := (den_ret hf K s).trans (by kernel_rfl)
theorem nil_eq (s : St) : den prog ann 81 [] s = finM false [fun s => some (s.get 4)] s := (den_nil hf s).trans (by kernel_rfl)
theorem inBlock_eq (id : Nat) (K : List Item) (s : St) : den prog ann 81 (.inBlock id :: K) s = den prog ann 81 K s := den_inBlock hf id K s
theorem exit_eq (id : Nat) (K : List Item) (s : St) : den prog ann 81 (.code (.exit id) :: K) s = exitV prog ann 81 (exitTo id K) s := den_exitV hf id K s
theorem call_eq (v0 v1 : AV) (m : Mem) : denC prog ann 81 [v0, v1] m = den prog ann 81 [.code b] ⟨[(0, v0), (1, v1)], 19, m⟩ := (denC_impure hf (b := b) (by kernel_rfl) (by kernel_rfl) (by kernel_rfl) m).trans (by kernel_rfl)
theorem pure_eq : (ann 81).pure = false := by kernel_rfl
attribute [simp] b_eq r0_eq r1_eq k0_eq l0_eq r2_eq i0_eq i0t_eq i0e_eq k1_eq r3_eq r4_eq i1_eq i1t_eq r5_eq i1e_eq r6_eq r7_eq ret_eq nil_eq inBlock_eq exit_eq pure_eq
end
end slices_IndexFunc_int
namespace brand_smallest_1_1
noncomputable section
variable (K : List Item) (s : St)
def b : Code := (Try.f82.body).getD .skip
theorem hf : prog.funcs[82]? = some Try.f82 := by kernel_rfl
def r0 := findReg b 0
def r1 := findReg b 1
theorem b_eq : den prog ann 82 (.code b :: K) s = den prog ann 82 (.code r0 :: .code r1 :: .code .ret :: K) s := den_flat hf (l := [r0, r1, .ret]) (by kernel_rfl) K s
theorem r0_eq : den prog ann 82 (.code r0 :: K) s = mreg prog ann 82 none [] none [] [qF 4 fun s => some (.bool false)] K s := (den_reg hf _ K s).trans (by kernel_rfl)
theorem r1_eq : den prog ann 82 (.code r1 :: K) s = mreg prog ann 82 none [] none [] [qF 5 fun s => loadA false 1 s.m (s.get 1),qF 6 fun s => loadA false 1 s.m (s.get 2),qB 7 (idxSl 1) 5 6,qF 8 fun s => loadA false 1 s.m (s.get 7),qC 9 0,qB 10 (idxSl 1) 8 9,qF 11 fun s => loadA false 1 s.m (s.get 10),qA 12 (unA .not) 11,qC 4 12] K s := (den_reg hf _ K s).trans (by kernel_rfl)
theorem ret_eq : den prog ann 82 (.code .ret :: K) s = finM false [fun s => some (s.get 4)] s := (den_ret hf K s).trans (by kernel_rfl)
theorem nil_eq (s : St) : den prog ann 82 [] s = finM false [fun s => some (s.get 4)] s := (den_nil hf s).trans (by kernel_rfl)
theorem inBlock_eq (id : Nat) (K : List Item) (s : St) : den prog ann 82 (.inBlock id :: K) s = den prog ann 82 K s := den_inBlock hf id K s
theorem exit_eq (id : Nat) (K : List Item) (s : St) : den prog ann 82 (.code (.exit id) :: K) s = exitV prog ann 82 (exitTo id K) s := den_exitV hf id K s
theorem call_eq (v0 v1 v2 : AV) (m : Mem) : denC prog ann 82 [v0, v1, v2] m = den prog ann 82 [.code b] ⟨[(0, v0), (1, v1), (2, v2)], 13, m⟩ := (denC_impure hf (b := b) (by kernel_rfl) (by kernel_rfl) (by kernel_rfl) m).trans (by kernel_rfl)
theorem pure_eq : (ann 82).pure = false := by kernel_rfl
attribute [simp] b_eq r0_eq r1_eq ret_eq nil_eq inBlock_eq exit_eq pure_eq
end
end brand_smallest_1_1
end Go.Proofs.Ythnpflkpjimkfaa

/-
  THE SMALLEST FORM: the program marks states that differ. Conditions: none.
-/
namespace Go.Proofs.Ythnpflkpjimkfaa
open Go.AM
open Go.Proofs.Try (prog)
set_option linter.all false
set_option maxRecDepth 100000
set_option maxHeartbeats 8000000
noncomputable def K4 : List Item := [.code brand_smallest.r30, .code brand_smallest.r31, .code brand_smallest.r32, .code brand_smallest.r33, .code brand_smallest.k12, .code brand_smallest.r43, .code .ret]
noncomputable def K6 : List Item := .inBlock 5 :: .inLoop brand_smallest.l4 :: .inBlock 4 :: K4
noncomputable def K8 : List Item := .inBlock 7 :: .code brand_smallest.r29 :: .inLoop brand_smallest.l6 :: .inBlock 6 :: K6
noncomputable def K10 : List Item := .inBlock 9 :: .code brand_smallest.r28 :: .inLoop brand_smallest.l8 :: .inBlock 8 :: K8
theorem sm_a {nv gv : AV} {ps : List AV} {rows : List (List Int)} {good : List Bool} {k : Nat} (hn : IsRows nv ps rows) (v : VB rows good k) {x2 : AV} {d : Nat} {ids : List Nat} {i j : Nat} (hi : i < rows.length) (hj : j < rows.length) {r : Res} :
    ∀ (c a : Nat) (h : Nat → Option AObj) (nx0 : Nat) (P : PB), a + c = k → Bt h d ids P.1 rows.length 0 → P.1.length = rows.length →
    (∀ h' nx', Bt h' d ids (mkA rows i j c a P).1 rows.length 0 → (mkA rows i j c a P).1.length = rows.length → nx0 ≤ nx' → (∀ y, y ∉ ids → h' y = h y) →
      brand_smallest.L8 (.fptr [nv, gv]) x2 (.int .i64 rows.length) (.sptr [.sl d 1 0 rows.length rows.length]) (.bool (mkA rows i j c a P).2) (.int .i64 i) (.int .i64 rows.length) (.int .i64 i) (.int .i64 rows.length) (.int .i64 ((j : Int) + 1)) ⟨h', nx'⟩ K8 = some r) →
    brand_smallest.L10 (.fptr [nv, gv]) x2 (.int .i64 rows.length) (.sptr [.sl d 1 0 rows.length rows.length]) (.bool P.2) (.int .i64 i) (.int .i64 j) (.int .i64 rows.length) (.int .i64 i) (.int .i64 rows.length) (.int .i64 j) (.int .i64 k) (.int .i64 a) ⟨h, nx0⟩ K10 = some r := by
  intro c
  have n6 := v.n6
  have k3 := v.k3
  induction c with
  | zero =>
    intro a h nx0 P h1 B hl hk
    have e : a = k := by omega
    subst e
    have hwj : IntKind.wrap .i64 ((j : Int) + 1) = (j : Int) + 1 := wrap_id (by omega) (by omega)
    have hk := hk h nx0 B hl (Nat.le_refl _) (fun _ _ => rfl)
    rw [brand_smallest.L10_eq]
    simp [K10, hwj]
    exact hk
  | succ c ih =>
    intro a h nx0 P h1 B hl hk
    have ha : a < k := by omega
    have hwa : IntKind.wrap .i64 ((a : Int) + 1) = (a : Int) + 1 := wrap_id (by omega) (by omega)
    obtain ⟨c1, c2⟩ := nx_lt v hi ha
    obtain ⟨c1', c2'⟩ := nx_lt v hj ha
    have b := v.rl i hi
    have b' := v.rl j hj
    have iw1 := hn.row i hi
    have iw2 := hn.row j hj
    have d1 := iw1.idx (i := a) (by omega) .i64
    have d2 := iw2.idx (i := a) (by omega) .i64
    have e1 := ints_head (l := cth rows i) (i := a) (by omega)
    have e2 := ints_head (l := cth rows j) (i := a) (by omega)
    rw [c2] at e1
    rw [c2'] at e2
    have l1 := fun n' => B.ld0 (i := i) (by omega) n'
    have l2 := fun n' => B.get (i := i) (j := j) (by omega) hj n'
    have l3 := fun n' => B.ld0 (i := nx rows i a) (by omega) n'
    have l4 := fun n' => B.get (i := nx rows i a) (j := nx rows j a) (by omega) c1' n'
    rw [hl] at l1 l3
    have es : mkA rows i j (c + 1) a P = mkA rows i j c (a + 1) (mk1 rows i j P a) := by rw [mkA, List.range'_succ, List.foldl_cons, mkA]
    rw [es] at hk
    rcases q : mth P.1 i j with _ | _
    · rcases q2 : mth P.1 (nx rows i a) (nx rows j a) with _ | _
      · have e3 : mk1 rows i j P a = P := by rw [mk1, q2]; simp
        rw [e3] at hk
        have st := ih (a + 1) h (nx0 + 31) P (by omega) B hl (fun h' nx' g1 g2 g3 g4 => hk h' nx' g1 g2 (by omega) g4)
        simp only [Int.natCast_add, Int.cast_ofNat_Int] at st
        rw [q] at l2
        rw [q2] at l4
        rw [brand_smallest.L10_eq]
        simp [ha, hi, hj, l1, l2, l3, l4, hn.idx hi, hn.head hi, hn.idx hj, hn.head hj, d1, d2, e1, e2, c1, c1', hwa, st]
        done
      · have e3 : mk1 rows i j P a = (setM P.1 i j true, true) := by rw [mk1, if_pos ⟨q, q2⟩]
        rw [e3] at hk
        have hm := B.rm (i := i) (by omega)
        obtain ⟨p1, p2⟩ := B.put (i := i) (j := j) (by omega) hj true (nx0 + 31)
        have st := ih (a + 1) _ (nx0 + 31) (setM P.1 i j true, true) (by omega) p2 (by simpa [setM] using hl) (fun h' nx' g1 g2 g3 g4 => hk h' nx' g1 g2 (by omega) (fun y hy => by rw [g4 y hy]; exact updNe (fun e => hy (e ▸ hm))))
        simp only [Int.natCast_add, Int.cast_ofNat_Int] at st
        rw [q] at l2
        rw [q2] at l4
        rw [brand_smallest.L10_eq]
        simp [ha, hi, hj, l1, l2, l3, l4, hn.idx hi, hn.head hi, hn.idx hj, hn.head hj, d1, d2, e1, e2, c1, c1', hwa, p1, -stA_ptr, st]
        done
    · have e3 : mk1 rows i j P a = P := by rw [mk1, q]; simp
      rw [e3] at hk
      have st := ih (a + 1) h (nx0 + 31) P (by omega) B hl (fun h' nx' g1 g2 g3 g4 => hk h' nx' g1 g2 (by omega) g4)
      simp only [Int.natCast_add, Int.cast_ofNat_Int] at st
      rw [q] at l2
      rw [brand_smallest.L10_eq]
      simp [ha, hi, hj, l1, l2, hwa, st]
      done
theorem mkJ_succ (rows : List (List Int)) (k i c j : Nat) (P : PB) : mkJ rows k i (c + 1) j P = mkJ rows k i c (j + 1) (mkA rows i j k 0 P) := by rw [mkJ, List.range'_succ, List.foldl_cons, mkJ]
theorem mkI_succ (rows : List (List Int)) (k n c i : Nat) (P : PB) : mkI rows k n (c + 1) i P = mkI rows k n c (i + 1) (mkJ rows k i n 0 P) := by rw [mkI, List.range'_succ, List.foldl_cons, mkI]
theorem sm_j {nv gv : AV} {ps : List AV} {rows : List (List Int)} {good : List Bool} {k : Nat} (hn : IsRows nv ps rows) (v : VB rows good k) {x2 : AV} {d : Nat} {ids : List Nat} {i : Nat} (hi : i < rows.length) {r : Res} :
    ∀ (c j : Nat) (h : Nat → Option AObj) (nx0 : Nat) (P : PB), j + c = rows.length → Bt h d ids P.1 rows.length 0 → P.1.length = rows.length →
    (∀ h' nx', Bt h' d ids (mkJ rows k i c j P).1 rows.length 0 → (mkJ rows k i c j P).1.length = rows.length → nx0 ≤ nx' → (∀ y, y ∉ ids → h' y = h y) →
      brand_smallest.L6 (.fptr [nv, gv]) x2 (.int .i64 rows.length) (.sptr [.sl d 1 0 rows.length rows.length]) (.bool (mkJ rows k i c j P).2) (.int .i64 rows.length) (.int .i64 ((i : Int) + 1)) ⟨h', nx'⟩ K6 = some r) →
    brand_smallest.L8 (.fptr [nv, gv]) x2 (.int .i64 rows.length) (.sptr [.sl d 1 0 rows.length rows.length]) (.bool P.2) (.int .i64 i) (.int .i64 rows.length) (.int .i64 i) (.int .i64 rows.length) (.int .i64 j) ⟨h, nx0⟩ K8 = some r := by
  intro c
  have n6 := v.n6
  induction c with
  | zero =>
    intro j h nx0 P h1 B hl hk
    have e : j = rows.length := by omega
    subst e
    have hwi : IntKind.wrap .i64 ((i : Int) + 1) = (i : Int) + 1 := wrap_id (by omega) (by omega)
    have hk := hk h nx0 B hl (Nat.le_refl _) (fun _ _ => rfl)
    rw [brand_smallest.L8_eq]
    simp [K8, hwi]
    exact hk
  | succ c ih =>
    intro j h nx0 P h1 B hl hk
    have hj : j < rows.length := by omega
    rw [mkJ_succ] at hk
    have iw1 := hn.row i hi
    have b := v.rl i hi
    have st := sm_a (gv := gv) (x2 := x2) hn v hi hj (r := r) k 0 h nx0 P (by omega) B hl (fun h' nx' g1 g2 g3 g4 => by
      have := ih (j + 1) h' nx' _ (by omega) g1 g2 (fun h'' nx'' f1 f2 f3 f4 => hk h'' nx'' f1 f2 (by omega) (fun y hy => by rw [f4 y hy, g4 y hy]))
      simp only [Int.natCast_add, Int.cast_ofNat_Int] at this
      exact this)
    simp only [Int.ofNat_zero, Int.cast_ofNat_Int] at st
    rw [brand_smallest.L8_eq]
    simp [hj, hn.idx hi, hn.head hi, iw1.len, b]
    exact st
theorem sm_i {nv gv : AV} {ps : List AV} {rows : List (List Int)} {good : List Bool} {k : Nat} (hn : IsRows nv ps rows) (v : VB rows good k) {x2 : AV} {d : Nat} {ids : List Nat} {r : Res} :
    ∀ (c i : Nat) (h : Nat → Option AObj) (nx0 : Nat) (P : PB), i + c = rows.length → Bt h d ids P.1 rows.length 0 → P.1.length = rows.length →
    (∀ h' nx', Bt h' d ids (mkI rows k rows.length c i P).1 rows.length 0 → (mkI rows k rows.length c i P).1.length = rows.length → nx0 ≤ nx' → (∀ y, y ∉ ids → h' y = h y) →
      brand_smallest.L4 (.fptr [nv, gv]) x2 (.int .i64 rows.length) (.sptr [.sl d 1 0 rows.length rows.length]) (.bool (mkI rows k rows.length c i P).2) ⟨h', nx'⟩ K4 = some r) →
    brand_smallest.L6 (.fptr [nv, gv]) x2 (.int .i64 rows.length) (.sptr [.sl d 1 0 rows.length rows.length]) (.bool P.2) (.int .i64 rows.length) (.int .i64 i) ⟨h, nx0⟩ K6 = some r := by
  intro c
  have n6 := v.n6
  induction c with
  | zero =>
    intro i h nx0 P h1 B hl hk
    have e : i = rows.length := by omega
    subst e
    have hk := hk h nx0 B hl (Nat.le_refl _) (fun _ _ => rfl)
    rw [brand_smallest.L6_eq]
    simp [K6]
    exact hk
  | succ c ih =>
    intro i h nx0 P h1 B hl hk
    have hi : i < rows.length := by omega
    rw [mkI_succ] at hk
    have st := sm_j (gv := gv) (x2 := x2) hn v hi (r := r) rows.length 0 h nx0 P (by omega) B hl (fun h' nx' g1 g2 g3 g4 => by
      have := ih (i + 1) h' nx' _ (by omega) g1 g2 (fun h'' nx'' f1 f2 f3 f4 => hk h'' nx'' f1 f2 (by omega) (fun y hy => by rw [f4 y hy, g4 y hy]))
      simp only [Int.natCast_add, Int.cast_ofNat_Int] at this
      exact this)
    simp only [Int.ofNat_zero, Int.cast_ofNat_Int] at st
    rw [brand_smallest.L6_eq]
    simp [hi]
    exact st
theorem sm_w {nv gv : AV} {ps : List AV} {rows : List (List Int)} {good : List Bool} {k : Nat} (hn : IsRows nv ps rows) (v : VB rows good k) {x2 : AV} {d : Nat} {ids : List Nat} {r : Res} :
    ∀ (f : Nat) (h : Nat → Option AObj) (nx0 : Nat) (D : MB), Mkd rows good k D → rows.length * rows.length < f + cnt rows.length (mth D) → Bt h d ids D rows.length 0 →
    (∀ h' nx', Bt h' d ids (fixD rows k rows.length f D) rows.length 0 → nx0 ≤ nx' → (∀ y, y ∉ ids → h' y = h y) →
      brand_smallest.L4 (.fptr [nv, gv]) x2 (.int .i64 rows.length) (.sptr [.sl d 1 0 rows.length rows.length]) (.bool false) ⟨h', nx'⟩ K4 = some r) →
    brand_smallest.L4 (.fptr [nv, gv]) x2 (.int .i64 rows.length) (.sptr [.sl d 1 0 rows.length rows.length]) (.bool true) ⟨h, nx0⟩ K4 = some r := by
  intro f
  induction f with
  | zero =>
    intro h nx0 D hM hf B hk
    have := cnt_le rows.length (mth D)
    omega
  | succ f ih =>
    intro h nx0 D hM hf B hk
    obtain ⟨m1, m2, m3⟩ := mkI_law v hM
    rw [fixD] at hk
    have st := sm_i (gv := gv) (x2 := x2) hn v (r := r) rows.length 0 h nx0 (D, false) (by omega) B hM.wf.l (fun h' nx' g1 g2 g3 g4 => by
      rcases q : (mkI rows k rows.length rows.length 0 (D, false)).2 with _ | _
      · rw [q] at hk
        exact hk h' nx' g1 g3 g4
      · rw [q, if_pos rfl] at hk
        exact ih h' nx' _ m1 (by have := m2 q; omega) g1 (fun h'' nx'' f1 f2 f3 => hk h'' nx'' f1 (by omega) (fun y hy => by rw [f3 y hy, g4 y hy])))
    simp only [Int.ofNat_zero, Int.cast_ofNat_Int] at st
    rw [brand_smallest.L4_eq]
    simp
    exact st
end Go.Proofs.Ythnpflkpjimkfaa

/-
  BODIES OF FUNCTIONS OF THE PROGRAM AS SMALL OPERATIONS (written by gen.py; checked by the kernel against the program). Conditions: none.
-/
namespace Go.Proofs.Ythnpflkpjimkfaa
open Go.AM
open Go.Proofs.Try (prog)
set_option maxRecDepth 100000
set_option linter.all false
namespace brand_letter
noncomputable section
variable (K : List Item) (s : St)
def b : Code := (Try.f59.body).getD .skip
theorem hf : prog.funcs[59]? = some Try.f59 := by kernel_rfl
def r0 := findReg b 0
def r1 := findReg b 1
theorem b_eq : den prog ann 59 (.code b :: K) s = den prog ann 59 (.code r0 :: .code r1 :: .code .ret :: K) s := den_flat hf (l := [r0, r1, .ret]) (by kernel_rfl) K s
theorem r0_eq : den prog ann 59 (.code r0 :: K) s = mreg prog ann 59 none [] none [] [qF 2 fun s => some (.str [])] K s := (den_reg hf _ K s).trans (by kernel_rfl)
theorem r1_eq : den prog ann 59 (.code r1 :: K) s = mreg prog ann 59 none [] none [] [qC 3 0,qA 4 (convInt .u8) 3,qA 5 (binA prog .add 5 (.int .u8 97)) 4,⟨some 6, none, .w false none fun s => bslM s.m 1 (bslA 1 1 [.int .u8 0] [(0, (s.get 5))])⟩,qF 7 fun s => convStr s.m (s.get 6),qC 2 7] K s := (den_reg hf _ K s).trans (by kernel_rfl)
theorem ret_eq : den prog ann 59 (.code .ret :: K) s = finM true [fun s => some (s.get 2)] s := (den_ret hf K s).trans (by kernel_rfl)
theorem nil_eq (s : St) : den prog ann 59 [] s = finM true [fun s => some (s.get 2)] s := (den_nil hf s).trans (by kernel_rfl)
theorem inBlock_eq (id : Nat) (K : List Item) (s : St) : den prog ann 59 (.inBlock id :: K) s = den prog ann 59 K s := den_inBlock hf id K s
theorem exit_eq (id : Nat) (K : List Item) (s : St) : den prog ann 59 (.code (.exit id) :: K) s = exitV prog ann 59 (exitTo id K) s := den_exitV hf id K s
theorem call_eq (v0 : AV) (m : Mem) (h : closedL [v0] = true) : denC prog ann 59 [v0] m = (den prog ann 59 [.code b] ⟨[(0, v0)], 8, Mem.empty⟩).bind fun r => some (r.1, m) := (denC_pure hf (b := b) (by kernel_rfl) (by kernel_rfl) (by kernel_rfl) h m).trans (by kernel_rfl)
theorem pure_eq : (ann 59).pure = true := by kernel_rfl
attribute [simp] b_eq r0_eq r1_eq ret_eq nil_eq inBlock_eq exit_eq pure_eq
end
end brand_letter
end Go.Proofs.Ythnpflkpjimkfaa

/-
  LETTERS AS STRINGS: the code's and the specification's. Conditions: none.
-/
namespace Go.Proofs.Ythnpflkpjimkfaa
open Go.AM
open Go.Proofs.Try (prog)
set_option linter.all false
set_option maxRecDepth 100000
set_option maxHeartbeats 4000000
def ltr (a : Nat) : List UInt8 := [UInt8.ofNat (97 + a)]
theorem letter_spec {a : Nat} (h : a < 3) (m : Mem) : denC prog ann 59 [.int .i64 a] m = some (.str (ltr a), m) := by
  rw [brand_letter.call_eq _ _ (by simp)]
  rcases (by omega : a = 0 ∨ a = 1 ∨ a = 2) with rfl | rfl | rfl
  · simp [ltr, convStr, bytesOf, sliceStr, bnds, bnd, IntKind.wrap, IntKind.min, IntKind.max, IntKind.signed, IntKind.bits]; done
  · simp [ltr, convStr, bytesOf, sliceStr, bnds, bnd, IntKind.wrap, IntKind.min, IntKind.max, IntKind.signed, IntKind.bits]; done
  · simp [ltr, convStr, bytesOf, sliceStr, bnds, bnd, IntKind.wrap, IntKind.min, IntKind.max, IntKind.signed, IntKind.bits]; done
end Go.Proofs.Ythnpflkpjimkfaa

/-
  PAIRS OF STATES AS CELLS AND AS KEYS. Conditions: none.
-/
namespace Go.Proofs.Ythnpflkpjimkfaa
open Go.AM
open Go.Proofs.Try (prog)
set_option linter.all false
set_option maxRecDepth 100000
set_option maxHeartbeats 4000000
@[simp] theorem neqB (a b : Bool) : binA prog .neq 4 (.bool a) (.bool b) = some (.bool (!(a == b))) := by simp [binA, eqT, eqA, u4']
abbrev PN := Nat × Nat
def cP (x : PN) : List AV := [.int .i64 ((x.1 : Nat) : Int), .int .i64 ((x.2 : Nat) : Int)]
def encP (x : PN) : AV := .agg (cP x)
def flP : List PN → List AV
  | [] => []
  | x :: l => cP x ++ flP l
@[simp] theorem cP_len (x : PN) : (cP x).length = 2 := rfl
@[simp] theorem flP_len : ∀ l : List PN, (flP l).length = l.length * 2
  | [] => rfl
  | x :: l => by rw [flP, List.length_append, flP_len l, cP_len, List.length_cons]; omega
theorem sc3 (n : Int) : scV prog 3 (.int .i64 n) = true := by simp [scV, u3]
end Go.Proofs.Ythnpflkpjimkfaa

/-
  THE SMALLEST FORM: the program's first marks. Conditions: none.
-/
namespace Go.Proofs.Ythnpflkpjimkfaa
open Go.AM
open Go.Proofs.Try (prog)
set_option linter.all false
set_option maxRecDepth 100000
set_option maxHeartbeats 8000000
theorem setM_app (D : MB) (row : List Bool) (j : Nat) (b : Bool) : setM (D ++ [row]) D.length j b = D ++ [row.set j b] := by
  simp [setM, brw, List.getD_eq_getElem?_getD, List.set_append]
def fillR (val : Nat → Bool) (c j : Nat) (row : List Bool) : List Bool := (List.range' j c).foldl (fun r j => r.set j (val j)) row
theorem fillR_succ (val : Nat → Bool) (c j : Nat) (row : List Bool) : fillR val (c + 1) j row = fillR val c (j + 1) (row.set j (val j)) := by rw [fillR, List.range'_succ, List.foldl_cons, fillR]
theorem fillR_eq (val : Nat → Bool) : ∀ (c j : Nat) (row : List Bool), row.length = j + c → fillR val c j row = row.take j ++ (List.range' j c).map val
  | 0, j, row, h => by simp [fillR, List.take_of_length_le (show row.length ≤ j by omega)]
  | c + 1, j, row, h => by
    rw [fillR_succ, fillR_eq val c (j + 1) _ (by simp; omega), List.range'_succ, List.map_cons]
    rw [List.take_add_one, List.take_set_of_le (by omega), List.getElem?_set_self (by omega)]
    simp
theorem fillR_all (val : Nat → Bool) (n : Nat) (row : List Bool) (h : row.length = n) : fillR val n 0 row = (List.range n).map val := by
  rw [fillR_eq val n 0 row (by omega)]; simp [List.range_eq_range']
noncomputable def K0 : List Item := .code brand_smallest.r13 :: .code brand_smallest.k4 :: K4
noncomputable def K2 : List Item := .inBlock 1 :: .code brand_smallest.r12 :: .inLoop brand_smallest.l0 :: .inBlock 0 :: K0
theorem sm_f {nv gv : AV} {good : List Bool} {n : Nat} (hg : IsB gv good) (hgn : good.length = n) (n6 : n ≤ 6) {x2 : AV} {d e : Nat} {ids : List Nat} {D : MB} (hi : D.length + 1 + e = n) {r : Res} :
    ∀ (c j : Nat) (h : Nat → Option AObj) (nx0 : Nat) (row : List Bool), j + c = n → Bt h d ids (D ++ [row]) n e →
    (∀ h' nx', Bt h' d ids (D ++ [fillR (fun j => !(bnth good D.length == bnth good j)) c j row]) n e → nx0 ≤ nx' → (∀ y, y ∉ ids → h' y = h y) →
      brand_smallest.L0 (.fptr [nv, gv]) x2 (.int .i64 n) (.sptr [.sl d 1 0 n n]) (.int .i64 n) (.int .i64 ((D.length : Int) + 1)) ⟨h', nx'⟩ K0 = some r) →
    brand_smallest.L2 (.fptr [nv, gv]) x2 (.int .i64 n) (.sptr [.sl d 1 0 n n]) (.int .i64 D.length) (.int .i64 n) (.int .i64 D.length) (.int .i64 n) (.int .i64 j) ⟨h, nx0⟩ K2 = some r := by
  intro c
  induction c with
  | zero =>
    intro j h nx0 row h1 B hk
    have ej : j = n := by omega
    subst ej
    have hwi : IntKind.wrap .i64 ((D.length : Int) + 1) = (D.length : Int) + 1 := wrap_id (by omega) (by omega)
    have hk := hk h nx0 B (Nat.le_refl _) (fun _ _ => rfl)
    rw [brand_smallest.L2_eq]
    simp [K2, hwi]
    exact hk
  | succ c ih =>
    intro j h nx0 row h1 B hk
    have hj : j < n := by omega
    have hwj : IntKind.wrap .i64 ((j : Int) + 1) = (j : Int) + 1 := wrap_id (by omega) (by omega)
    have hD : D.length < n := by omega
    have l1 := fun n' => B.ld (i := D.length) (by simp) n'
    rw [show (D ++ [row]).length + e = n by simp; omega] at l1
    obtain ⟨p1, p2⟩ := B.put (i := D.length) (j := j) (by simp) hj (!(bnth good D.length == bnth good j)) (nx0 + 17)
    rw [setM_app] at p2
    have hm := B.rm (i := D.length) (by simp)
    rw [fillR_succ] at hk
    have b1 := bls_head (bs := good) (i := D.length) (by omega)
    have b2 := bls_head (bs := good) (i := j) (by omega)
    have st := ih (j + 1) _ (nx0 + 18) (row.set j (!(bnth good D.length == bnth good j))) (by omega) p2 (fun h' nx' g1 g3 g4 => hk h' nx' g1 (by omega) (fun y hy => by rw [g4 y hy]; exact updNe (fun e => hy (e ▸ hm))))
    simp only [Int.natCast_add, Int.cast_ofNat_Int] at st
    rw [brand_smallest.L2_eq]
    simp [hj, hD, l1, hg.idx (i := D.length) (by omega), hg.idx (i := j) (by omega), b1, b2, hwj, p1, -stA_ptr, st]
    done
theorem sm_d {nv gv : AV} {good : List Bool} {n : Nat} (hg : IsB gv good) (hgn : good.length = n) (n6 : n ≤ 6) {x2 : AV} {d : Nat} {r : Res} :
    ∀ (c i : Nat) (h : Nat → Option AObj) (nx0 : Nat) (ids : List Nat), i + c = n → Bt h d ids ((List.range i).map fun i => (List.range n).map fun j => !(bnth good i == bnth good j)) n c → d < nx0 → (∀ y ∈ ids, y < nx0) →
    (∀ h' nx' ids', Bt h' d ids' (D0 good n) n 0 → d < nx' → (∀ y ∈ ids', y < nx') → nx0 ≤ nx' → (∀ y, y < nx0 → y ≠ d → y ∉ ids → h' y = h y) →
      brand_smallest.L4 (.fptr [nv, gv]) x2 (.int .i64 n) (.sptr [.sl d 1 0 n n]) (.bool true) ⟨h', nx'⟩ K4 = some r) →
    brand_smallest.L0 (.fptr [nv, gv]) x2 (.int .i64 n) (.sptr [.sl d 1 0 n n]) (.int .i64 n) (.int .i64 i) ⟨h, nx0⟩ K0 = some r := by
  intro c
  induction c with
  | zero =>
    intro i h nx0 ids h1 B hd hb hk
    have ej : i = n := by omega
    subst ej
    have hk := hk h nx0 ids B hd hb (Nat.le_refl _) (fun _ _ _ _ => rfl)
    rw [brand_smallest.L0_eq]
    simp [K0]
    exact hk
  | succ c ih =>
    intro i h nx0 ids h1 B hd hb hk
    have hi : i < n := by omega
    have hil : ids.length = i := by rw [B.l]; simp
    have hwi : IntKind.wrap .i64 ((i : Int) + 1) = (i : Int) + 1 := wrap_id (by omega) (by omega)
    have hdd : ∀ v, (upd h (nx0 + 3) v) d = some (.cells (ids.map (fun r => AV.sl r 1 0 n n) ++ List.replicate (c + 1) AV.nils)) := fun v => by rw [updNe (by omega), B.o]
    have hll : (ids.map (fun r => AV.sl r 1 0 n n) ++ List.replicate (c + 1) AV.nils).length = n := by simp [hil]; omega
    have hst : stA false 1 ⟨upd h (nx0 + 3) (some (AObj.cells (List.replicate n (AV.bool false)))), nx0 + 5⟩ (.ptr d i n) (.sl (nx0 + 3) 1 0 n n) = some (.tup [], ⟨upd (upd h (nx0 + 3) (some (AObj.cells (List.replicate n (AV.bool false))))) d (some (.cells ((ids.map (fun r => AV.sl r 1 0 n n) ++ List.replicate (c + 1) AV.nils).set i (.sl (nx0 + 3) 1 0 n n)))), nx0 + 5⟩) := by
      rw [stA_ptr]
      show stO false 1 _ d i n _ ((upd h (nx0 + 3) (some (AObj.cells (List.replicate n (AV.bool false))))) d) = _
      rw [hdd, stO_cells0, hll]
      simp [hi, AV.one, Mem.set]
    have hli : ((List.range i).map fun i => (List.range n).map fun j => !(bnth good i == bnth good j)).length = i := by simp
    have B2 := B.add (h' := upd (upd h (nx0 + 3) (some (AObj.cells (List.replicate n (AV.bool false))))) d (some (.cells ((ids.map (fun r => AV.sl r 1 0 n n) ++ List.replicate (c + 1) AV.nils).set i (.sl (nx0 + 3) 1 0 n n))))) (x := nx0 + 3) (row := List.replicate n false) (by omega) (fun q => by have := hb _ q; omega) (by simp) (by rw [hli]; simp) (by rw [updNe (by omega)]; simp [bls]) (fun y hy => by
      have := hb y hy
      rw [updNe (fun e => B.nd' (by rw [← e]; exact hy)), updNe (by omega)])
    have st := sm_f (gv := gv) (nv := nv) (x2 := x2) hg hgn n6 (d := d) (e := c) (ids := ids ++ [nx0 + 3]) (D := (List.range i).map fun i => (List.range n).map fun j => !(bnth good i == bnth good j)) (by rw [hli]; omega) (r := r) n 0 _ (nx0 + 6) (List.replicate n false) (by omega) B2 (fun h' nx' g1 g3 g4 => by
      rw [fillR_all _ n _ (by simp)] at g1
      simp only [hli] at g1 ⊢
      have e1 : ((List.range i).map fun i => (List.range n).map fun j => !(bnth good i == bnth good j)) ++ [(List.range n).map fun j => !(bnth good i == bnth good j)] = (List.range (i + 1)).map fun i => (List.range n).map fun j => !(bnth good i == bnth good j) := by rw [List.range_succ, List.map_append]; rfl
      rw [e1] at g1
      have := ih (i + 1) h' nx' _ (by omega) g1 (by omega) (fun y hy => by
        rcases List.mem_append.1 hy with hy | hy
        · have := hb y hy; omega
        · simp at hy; omega) (fun h'' nx'' ids' f1 f2 f3 f4 f5 => hk h'' nx'' ids' f1 f2 f3 (by omega) (fun y y1 y2 y3 => by
          have hy : y ∉ ids ++ [nx0 + 3] := by simp; exact ⟨y3, by omega⟩
          rw [f5 y (by omega) y2 hy, g4 y hy, updNe y2, updNe (by omega)]))
      simp only [Int.natCast_add, Int.cast_ofNat_Int] at this
      exact this)
    simp only [hli, Int.ofNat_zero, Int.cast_ofNat_Int] at st
    rw [brand_smallest.L0_eq]
    simp [hi, show n ≤ 4611686018427387904 by omega, show n ≤ 70368744177664 by omega, hst, -stA_ptr]
    exact st
end Go.Proofs.Ythnpflkpjimkfaa

/-
  NUMBERING STATES UP TO LIKENESS: taking representatives as they come, and taking all states and leaving out later ones that are alike, is the same. Conditions: none.
-/
namespace Go.Proofs.Ythnpflkpjimkfaa
open Go.AM
open Go.Proofs.Try (prog)
set_option linter.all false
set_option maxRecDepth 100000
set_option maxHeartbeats 4000000
def numS (al : Nat → Nat → Bool) (s : Nat) (P : List Nat) : List Nat := if P.any (al s) = true then P else P ++ [s]
def idxA (al : Nat → Nat → Bool) (P : List Nat) (s : Nat) : Nat := P.findIdx (al s)
def addsN (al : Nat → Nat → Bool) (nxt : Nat → Nat → Nat) (q c a : Nat) (P : List Nat) : List Nat := (List.range' a c).foldl (fun P a => numS al (nxt q a) P) P
def bldN (al : Nat → Nat → Bool) (nxt : Nat → Nat → Nat) (k : Nat) : Nat → Nat → List Nat → List Nat
  | 0, _, P => P
  | f + 1, i, P => match P[i]? with
    | some q => bldN al nxt k f (i + 1) (addsN al nxt q k 0 P)
    | none => P
def ded (al : Nat → Nat → Bool) (R : List Nat) : List Nat := R.foldl (fun P s => numS al s P) []
def bfsA {β : Type} (nxt : Nat → Nat → Nat) (ext : β → Nat → β) (k : Nat) : Nat → Nat → List Nat × List β → List Nat × List β
  | 0, _, S => S
  | f + 1, i, S => match S.1[i]?, S.2[i]? with
    | some x, some w => bfsA nxt ext k f (i + 1) (bIn nxt ext x w k 0 S)
    | _, _ => S
section
variable {al : Nat → Nat → Bool} {nxt : Nat → Nat → Nat} {k : Nat}
theorem numS_pre (s : Nat) (P : List Nat) : ∃ l, numS al s P = P ++ l := by
  rw [numS]; split
  · exact ⟨[], by simp⟩
  · exact ⟨[s], rfl⟩
theorem fold_pre (f : Nat → Nat) : ∀ (l : List Nat) (P : List Nat), ∃ l', l.foldl (fun P a => numS al (f a) P) P = P ++ l'
  | [], P => ⟨[], by simp⟩
  | a :: l, P => by
    obtain ⟨l1, h1⟩ := numS_pre (al := al) (f a) P
    obtain ⟨l2, h2⟩ := fold_pre f l (numS al (f a) P)
    exact ⟨l1 ++ l2, by rw [List.foldl_cons, h2, h1, List.append_assoc]⟩
theorem addsN_pre (q c a : Nat) (P : List Nat) : ∃ l, addsN al nxt q c a P = P ++ l := fold_pre (fun a => nxt q a) _ P
theorem ded_app (R l : List Nat) : ded al (R ++ l) = l.foldl (fun P s => numS al s P) (ded al R) := by simp [ded]
theorem ded_pre (R l : List Nat) : ∃ l', ded al (R ++ l) = ded al R ++ l' := by rw [ded_app]; exact fold_pre id l _
theorem any_app {P l : List Nat} {p : Nat → Bool} (h : P.any p = true) : (P ++ l).any p = true := by rw [List.any_append, h]; rfl
theorem idxA_app {P l : List Nat} {s : Nat} (h : P.any (al s) = true) : idxA al (P ++ l) s = idxA al P s := by
  rw [idxA, List.findIdx_append, idxA]
  rw [if_pos]
  rw [List.findIdx_lt_length]
  simpa using h
structure Lik (al : Nat → Nat → Bool) (nxt : Nat → Nat → Nat) (k n : Nat) : Prop where
  rf : ∀ s, s < n → al s s = true
  sy : ∀ s t, s < n → t < n → al s t = true → al t s = true
  tr : ∀ s t u, s < n → t < n → u < n → al s t = true → al t u = true → al s u = true
  st : ∀ s t a, s < n → t < n → a < k → al s t = true → al (nxt s a) (nxt t a) = true
  cl : ∀ s a, s < n → a < k → nxt s a < n
variable {n : Nat}
theorem ded_sub : ∀ (R : List Nat) (P : List Nat) (s : Nat), s ∈ R.foldl (fun P s => numS al s P) P → s ∈ P ∨ s ∈ R
  | [], P, s, h => .inl h
  | r :: R, P, s, h => by
    rw [List.foldl_cons] at h
    rcases ded_sub R _ s h with h | h
    · rw [numS] at h
      split at h
      · exact .inl h
      · rcases List.mem_append.1 h with h | h
        · exact .inl h
        · right; simp at h; simp [h]
    · right; simp [h]
theorem ded_mem {R : List Nat} {s : Nat} (h : s ∈ ded al R) : s ∈ R := by
  rcases ded_sub R [] s h with h | h
  · simp at h
  · exact h
theorem ded_len : ∀ (R P : List Nat), (R.foldl (fun P s => numS al s P) P).length ≤ P.length + R.length
  | [], P => by simp
  | r :: R, P => by
    have h := ded_len R (numS al r P)
    have h2 : (numS al r P).length ≤ P.length + 1 := by rw [numS]; split <;> simp
    rw [List.foldl_cons, List.length_cons]; omega
theorem ded_any (L : Lik al nxt k n) : ∀ (R : List Nat), (∀ s ∈ R, s < n) → ∀ s, s ∈ R → (ded al R).any (al s) = true := by
  intro R hR s hs
  obtain ⟨a, b, rfl⟩ := List.append_of_mem hs
  have h1 : ded al (a ++ s :: b) = b.foldl (fun P s => numS al s P) (numS al s (ded al a)) := by rw [ded_app, List.foldl_cons]
  have h2 : (numS al s (ded al a)).any (al s) = true := by
    rw [numS]
    split
    · assumption
    · simp [L.rf s (hR s hs)]
  obtain ⟨l, h3⟩ := fold_pre (al := al) id b (numS al s (ded al a))
  simp only [id] at h3
  rw [h1, h3]
  exact any_app h2
theorem ded_skip (L : Lik al nxt k n) {R : List Nat} (hR : ∀ s ∈ R, s < n) {s t : Nat} (hs : s < n) (ht : t ∈ R) (h : al s t = true) : numS al s (ded al R) = ded al R := by
  have h1 := ded_any L R hR t ht
  rw [List.any_eq_true] at h1
  obtain ⟨u, hu, h2⟩ := h1
  have : (ded al R).any (al s) = true := List.any_eq_true.2 ⟨u, hu, L.tr s t u hs (hR t ht) (hR u (ded_mem hu)) h h2⟩
  rw [numS, if_pos this]
variable {β : Type} {ext : β → Nat → β}
theorem bIn_ded (L : Lik al nxt k n) {q : Nat} (hq : q < n) (w : β) : ∀ (c a : Nat) (S : List Nat × List β), a + c ≤ k → (∀ s ∈ S.1, s < n) → ded al (bIn nxt ext q w c a S).1 = addsN al nxt q c a (ded al S.1)
  | 0, a, S, _, _ => rfl
  | c + 1, a, S, hc, hS => by
    rw [addsN, List.range'_succ, List.foldl_cons, bIn]
    have hn := L.cl q a hq (by omega)
    by_cases h : nxt q a ∈ S.1
    · rw [if_pos h, bIn_ded L hq w c (a + 1) S (by omega) hS, addsN, ded_skip L hS hn h (L.rf _ hn)]
    · rw [if_neg h, bIn_ded L hq w c (a + 1) _ (by omega) (fun s hs => by
        rcases List.mem_append.1 hs with hs | hs
        · exact hS s hs
        · simp at hs; rw [hs]; exact hn), addsN]
      congr 1
      simp only []
      rw [ded_app]; rfl
theorem addsN_skip (L : Lik al nxt k n) {R : List Nat} (hR : ∀ s ∈ R, s < n) {q f : Nat} (hq : q < n) (hf : f < n) (hqf : al q f = true) (hfR : ∀ a, a < k → nxt f a ∈ R) : ∀ (c a : Nat), a + c ≤ k → addsN al nxt q c a (ded al R) = ded al R
  | 0, a, _ => rfl
  | c + 1, a, hc => by
    rw [addsN, List.range'_succ, List.foldl_cons, ded_skip L hR (L.cl q a hq (by omega)) (hfR a (by omega)) (L.st q f a hq hf (by omega) hqf)]
    exact addsN_skip L hR hq hf hqf hfR c (a + 1) (by omega)
theorem bIn_has (q : Nat) (w : β) : ∀ (c a : Nat) (S : List Nat × List β) (b : Nat), a ≤ b → b < a + c → nxt q b ∈ (bIn nxt ext q w c a S).1
  | 0, a, S, b, h1, h2 => by omega
  | c + 1, a, S, b, h1, h2 => by
    rw [bIn]
    by_cases e : b = a
    · subst e
      by_cases h : nxt q b ∈ S.1
      · rw [if_pos h]
        obtain ⟨p, _, e1, _⟩ := bIn_pre nxt ext q w c (b + 1) S
        rw [e1]; exact List.mem_append_left _ h
      · rw [if_neg h]
        obtain ⟨p, _, e1, _⟩ := bIn_pre nxt ext q w c (b + 1) (S.1 ++ [nxt q b], S.2 ++ [ext w b])
        rw [e1]; simp
    · split
      · exact bIn_has q w c (a + 1) _ b (by omega) (by omega)
      · exact bIn_has q w c (a + 1) _ b (by omega) (by omega)
theorem bfs_ded (L : Lik al nxt k n) {ln : β → Nat} (hex : ∀ w a, ln (ext w a) ≤ ln w + 1) : ∀ (f i : Nat) (S : List Nat × List β), BOk (· < n) ln S → i ≤ S.1.length → n < f + i → (∀ s ∈ S.1.take i, ∀ a, a < k → nxt s a ∈ S.1) → ∀ f', n < f' + (ded al (S.1.take i)).length →
    bldN al nxt k f' (ded al (S.1.take i)).length (ded al S.1) = ded al (bfsA nxt ext k f i S).1 := by
  intro f
  induction f with
  | zero =>
    intro i S hS hi hf
    have := nodup_sub hS.nd (L := List.range n) fun x hx => List.mem_range.2 (hS.all x hx)
    simp at this
    omega
  | succ f ih =>
    intro i S hS hi hf hcl f' hf'
    have hSn : S.1.length ≤ n := by
      have := nodup_sub hS.nd (L := List.range n) fun x hx => List.mem_range.2 (hS.all x hx)
      simpa using this
    by_cases c : i < S.1.length
    · have hx := List.getElem?_eq_getElem c
      have c2 : i < S.2.length := by rw [← hS.len]; exact c
      have hw := List.getElem?_eq_getElem c2
      generalize S.1[i] = q at hx
      generalize S.2[i] = w at hw
      have hqm := List.mem_of_getElem? hx
      have hq : q < n := hS.all q hqm
      rw [bfsA, hx, hw]
      simp only []
      have hS' := bIn_ok nxt ext (ok := (· < n)) (ln := ln) (k := k) (fun x a hx ha => L.cl x a hx ha) hex q w hq k 0 S (by omega) hS (hS.wl w (List.mem_of_getElem? hw))
      obtain ⟨p, p', e1, e2⟩ := bIn_pre nxt ext q w k 0 S
      have ht : (bIn nxt ext q w k 0 S).1.take (i + 1) = S.1.take (i + 1) := by rw [e1, List.take_append_of_le_length (by omega)]
      have ht1 : S.1.take (i + 1) = S.1.take i ++ [q] := by rw [List.take_add_one, hx]; rfl
      have hd1 : ded al (S.1.take (i + 1)) = numS al q (ded al (S.1.take i)) := by rw [ht1, ded_app]; rfl
      have hb := bIn_ded (ext := ext) L hq w k 0 S (by omega) hS.all
      have hcl' : ∀ s ∈ (bIn nxt ext q w k 0 S).1.take (i + 1), ∀ a, a < k → nxt s a ∈ (bIn nxt ext q w k 0 S).1 := by
        rw [ht, ht1]
        intro s hs a ha
        rcases List.mem_append.1 hs with hs | hs
        · rw [e1]; exact List.mem_append_left _ (hcl s hs a ha)
        · simp at hs
          subst hs
          exact bIn_has s w k 0 S a (by omega) (by omega)
      have IH := ih (i + 1) (bIn nxt ext q w k 0 S) hS' (by rw [e1]; simp; omega) (by omega) hcl'
      rw [ht, hd1, hb] at IH
      have hT : ∀ s ∈ S.1.take i, s < n := fun s hs => hS.all s (List.mem_of_mem_take hs)
      by_cases hany : (ded al (S.1.take i)).any (al q) = true
      · have e3 : numS al q (ded al (S.1.take i)) = ded al (S.1.take i) := by rw [numS, if_pos hany]
        rw [e3] at IH
        rw [List.any_eq_true] at hany
        obtain ⟨g, hg, hqg⟩ := hany
        have hgt := ded_mem hg
        have hsk := addsN_skip L hS.all hq (hT g hgt) hqg (fun a ha => hcl g hgt a ha) k 0 (by omega)
        rw [hsk] at IH
        exact IH f' hf'
      · have e3 : numS al q (ded al (S.1.take i)) = ded al (S.1.take i) ++ [q] := by rw [numS, if_neg hany]
        rw [e3] at IH hd1
        have hlen : (ded al (S.1.take i)).length ≤ i := by
          have := ded_len (al := al) (S.1.take i) []
          simp [List.length_take] at this
          exact Nat.le_trans this (by omega)
        have hsp : S.1 = S.1.take (i + 1) ++ S.1.drop (i + 1) := (List.take_append_drop _ _).symm
        obtain ⟨l', hl'⟩ := ded_pre (al := al) (S.1.take (i + 1)) (S.1.drop (i + 1))
        rw [← hsp, hd1] at hl'
        match f', hf' with
        | 0, hf' => omega
        | f' + 1, hf' =>
          have hat : (ded al S.1)[(ded al (S.1.take i)).length]? = some q := by rw [hl']; simp
          rw [bldN, hat]
          simp only []
          have := IH f' (by simp; omega)
          simpa using this
    · have hi' : i = S.1.length := by omega
      have hx : S.1[i]? = none := List.getElem?_eq_none (by omega)
      rw [bfsA, hx]
      simp only []
      have : S.1.take i = S.1 := by rw [hi']; simp
      rw [this]
      cases f' with
      | zero => rfl
      | succ f' =>
        rw [bldN]
        simp
end
theorem few6 {n : Nat} {st : List Nat} (n6 : n ≤ 6) (h : st.Nodup) (ha : ∀ x ∈ st, x < n) : st.length ≤ 6 := by
  have := nodup_sub h (L := List.range n) fun x hx => List.mem_range.2 (ha x hx)
  simp at this
  omega
end Go.Proofs.Ythnpflkpjimkfaa

/-
  SETS OF STATES AS BITS OF A NUMBER. Conditions: none.
-/
namespace Go.Proofs.Ythnpflkpjimkfaa
open Go.AM
open Go.Proofs.Try (prog)
set_option linter.all false
set_option maxRecDepth 100000
set_option maxHeartbeats 4000000
theorem wrapN {x : Nat} (h : x < 4096) : IntKind.wrap .i64 (x : Int) = x := wrap_id (by omega) (by omega)
def encS (x : Nat) : AV := .int .i64 (x : Int)
end Go.Proofs.Ythnpflkpjimkfaa

/-
  THE SMALLEST FORM: the number of a state (a function's value that keeps a list). Conditions: none.
-/
namespace Go.Proofs.Ythnpflkpjimkfaa
open Go.AM
open Go.Proofs.Try (prog)
set_option linter.all false
set_option maxRecDepth 100000
set_option maxHeartbeats 8000000
section
variable {h : Nat → Option AObj} {d : Nat} {ids : List Nat} {D : MB} {n : Nat} {al : Nat → Nat → Bool}
theorem c82_spec (B : Bt h d ids D n 0) (hDl : D.length = n) (hD : ∀ s t, s < n → t < n → mth D s t = !al s t) {s t : Nat} (hs : s < n) (ht : t < n) (nx : Nat) :
    denC prog ann 82 [.int .i64 (t : Int), .sptr [.sl d 1 0 n n], .fptr [.int .i64 (s : Int)]] ⟨h, nx⟩ = some (.bool (al s t), ⟨h, nx⟩) := by
  have l1 := fun n' => B.ld0 (i := s) (by omega) n'
  have l2 := fun n' => B.get (i := s) (j := t) (by omega) ht n'
  rw [hDl] at l1
  rw [hD s t hs ht] at l2
  rw [brand_smallest_1_1.call_eq]
  simp [hs, ht, l1, l2]
  done
def firstI (p : Nat → Bool) : List Nat → Nat → Int
  | [], _ => -1
  | t :: l, j => if p t = true then (j : Int) else firstI p l (j + 1)
theorem firstI_eq (p : Nat → Bool) : ∀ (l : List Nat) (j : Nat), firstI p l j = if l.any p = true then ((j + l.findIdx p : Nat) : Int) else -1
  | [], j => rfl
  | t :: l, j => by
    rw [firstI, List.findIdx_cons, List.any_cons]
    cases e : p t with
    | true => simp
    | false =>
      rw [firstI_eq p l (j + 1)]
      simp
      by_cases q : ∃ x ∈ l, p x = true
      · rw [if_pos q, if_pos q]; omega
      · rw [if_neg q, if_neg q]
theorem idxF_loop (B : Bt h d ids D n 0) (hDl : D.length = n) (hD : ∀ s t, s < n → t < n → mth D s t = !al s t) {s S : Nat} (hs : s < n) {st : List Nat} (hS : h S = some (.cells (st.map encS))) (hst : ∀ x ∈ st, x < n) (hl : st.length ≤ 1000) (nx : Nat) : ∀ (c j : Nat), j + c = st.length →
    slices_IndexFunc_int.L0 (.sl S 1 0 st.length st.length) (.fn 82 [] [.sptr [.sl d 1 0 n n], .fptr [.int .i64 (s : Int)]]) (.int .i64 st.length) (.int .i64 j) ⟨h, nx⟩ [.code slices_IndexFunc_int.r7, .code .ret] = some (.int .i64 (firstI (al s) (st.drop j) j), ⟨h, nx⟩) := by
  intro c
  induction c with
  | zero =>
    intro j h1
    have e : j = st.length := by omega
    subst e
    rw [slices_IndexFunc_int.L0_eq]
    simp [firstI]
    done
  | succ c ih =>
    intro j h1
    have hj : j < st.length := by omega
    have hwj : IntKind.wrap .i64 ((j : Int) + 1) = (j : Int) + 1 := wrap_id (by omega) (by omega)
    have st' := ih (j + 1) (by omega)
    simp only [Int.natCast_add, Int.cast_ofNat_Int] at st'
    have hd := List.drop_eq_getElem_cons hj
    have hx := hst st[j] (List.getElem_mem _)
    have hc := c82_spec B hDl hD hs hx nx
    rw [hd, firstI]
    rw [slices_IndexFunc_int.L0_eq]
    have hlen : (st.map encS).length == st.length := by simp
    cases q : al s st[j] with
    | true =>
      rw [q] at hc
      simp [hj, hS, encS, hc]
      done
    | false =>
      rw [q] at hc
      simp [hj, hS, encS, hc, hwj, st']
      done
theorem idxF_spec (B : Bt h d ids D n 0) (hDl : D.length = n) (hD : ∀ s t, s < n → t < n → mth D s t = !al s t) {s S : Nat} (hs : s < n) {st : List Nat} (hS : h S = some (.cells (st.map encS))) (hst : ∀ x ∈ st, x < n) (hl : st.length ≤ 1000) (nx : Nat) :
    denC prog ann 81 [.sl S 1 0 st.length st.length, .fn 82 [] [.sptr [.sl d 1 0 n n], .fptr [.int .i64 (s : Int)]]] ⟨h, nx⟩ = some (.int .i64 (if st.any (al s) = true then ((idxA al st s : Nat) : Int) else -1), ⟨h, nx⟩) := by
  have lp := idxF_loop B hDl hD hs hS hst hl nx st.length 0 (by omega)
  rw [firstI_eq, List.drop_zero] at lp
  simp only [Int.ofNat_zero, Int.cast_ofNat_Int, Nat.zero_add] at lp
  rw [show (if st.any (al s) = true then ((st.findIdx (al s) : Nat) : Int) else -1) = if st.any (al s) = true then ((idxA al st s : Nat) : Int) else -1 from rfl] at lp
  generalize (if st.any (al s) = true then ((idxA al st s : Nat) : Int) else -1) = z at lp ⊢
  have lp : slices_IndexFunc_int.L0 (.sl S 1 0 st.length st.length) (.fn 82 [] [.sptr [.sl d 1 0 n n], .fptr [.int .i64 (s : Int)]]) (.int .i64 st.length) (.int .i64 0) ⟨h, nx⟩ [.code slices_IndexFunc_int.r7, .code .ret] = some (.int .i64 z, ⟨h, nx⟩) := lp
  rw [slices_IndexFunc_int.call_eq]
  simp
  exact lp
structure Sx (h : Nat → Option AObj) (b S : Nat) (st : List Nat) : Prop where
  hb : h b = some (.cells [.sl S 1 0 st.length st.length])
  hs : h S = some (.cells (st.map encS))
  ne : b ≠ S
theorem num_spec (B : Bt h d ids D n 0) (hDl : D.length = n) (hD : ∀ s t, s < n → t < n → mth D s t = !al s t) {s b S : Nat} (hr : al s s = true) (hs : s < n) {st : List Nat} (X : Sx h b S st) (hst : ∀ x ∈ st, x < n) (hl : st.length ≤ 900) (nx : Nat) :
    ∃ h', denC prog ann 80 [.int .i64 (s : Int), .ptr b 0 1, .sptr [.sl d 1 0 n n]] ⟨h, nx⟩ = some (.int .i64 (idxA al (numS al s st) s : Nat), ⟨h', nx⟩) ∧ Sx h' b S (numS al s st) ∧ ∀ y, y ≠ b → y ≠ S → h' y = h y := by
  have hi := idxF_spec B hDl hD hs X.hs hst (by omega) nx
  rw [brand_smallest_1.call_eq]
  by_cases c : st.any (al s) = true
  · rw [if_pos c] at hi
    refine ⟨h, ?_, by rw [numS, if_pos c]; exact X, fun _ _ _ => rfl⟩
    rw [numS, if_pos c]
    simp [X.hb, hi]
    done
  · rw [if_neg c] at hi
    have e : numS al s st = st ++ [s] := by rw [numS, if_neg c]
    refine ⟨upd (upd h S (some (.cells ((st ++ [s]).map encS)))) b (some (.cells [.sl S 1 0 (st ++ [s]).length (st ++ [s]).length])), ?_, ?_, fun y h1 h2 => by rw [updNe h1, updNe h2]⟩
    · have hx : idxA al (st ++ [s]) s = st.length := by
        have hn : ¬ List.findIdx (al s) st < st.length := by
          rw [List.findIdx_lt_length]
          simpa using c
        rw [idxA, List.findIdx_append, if_neg hn]
        simp [hr]
      have hb2 : (b == S) = false := beq_eq_false_iff_ne.2 X.ne
      rw [e, hx]
      simp [X.hb, hi, X.hs, show st.length ≤ 4611686018427387903 by omega, show (st.length + 1) * 8 ≤ 70368744177664 by omega, hb2, encS]
      done
    · rw [e]
      exact ⟨by simp, by rw [updNe X.ne.symm]; simp, X.ne⟩
end
end Go.Proofs.Ythnpflkpjimkfaa
