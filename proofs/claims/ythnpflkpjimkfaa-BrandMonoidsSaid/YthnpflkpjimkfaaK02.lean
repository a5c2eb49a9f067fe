/-
  MARKING UNLIKE STATES: the program's way and the specification's end in the same. Conditions: none.
-/
import Derived.Test.YthnpflkpjimkfaaK01
set_option linter.all false
namespace Go.Proofs.Ythnpflkpjimkfaa
open Go.AM
open Go.Proofs.Try (prog)
set_option linter.all false
set_option maxRecDepth 100000
set_option maxHeartbeats 4000000

abbrev PB := MB × Bool
def mk1 (rows : List (List Int)) (i j : Nat) (P : PB) (a : Nat) : PB := if mth P.1 i j = false ∧ mth P.1 (nx rows i a) (nx rows j a) = true then (setM P.1 i j true, true) else P
def mkA (rows : List (List Int)) (i j c a : Nat) (P : PB) : PB := (List.range' a c).foldl (mk1 rows i j) P
def mkJ (rows : List (List Int)) (k i c j : Nat) (P : PB) : PB := (List.range' j c).foldl (fun P j => mkA rows i j k 0 P) P
def mkI (rows : List (List Int)) (k n c i : Nat) (P : PB) : PB := (List.range' i c).foldl (fun P i => mkJ rows k i n 0 P) P
def fixD (rows : List (List Int)) (k n : Nat) : Nat → MB → MB
  | 0, D => D
  | f + 1, D => if (mkI rows k n n 0 (D, false)).2 = true then fixD rows k n f (mkI rows k n n 0 (D, false)).1 else (mkI rows k n n 0 (D, false)).1

section
variable {rows : List (List Int)} {good : List Bool} {k : Nat}
structure Mkd (rows : List (List Int)) (good : List Bool) (k : Nat) (D : MB) : Prop where
  wf : Wf rows.length D
  snd : ∀ i j, i < rows.length → j < rows.length → mth D i j = true → ¬ alk rows good k i j
  bas : ∀ i j, i < rows.length → j < rows.length → bnth good i ≠ bnth good j → mth D i j = true
def Cld (rows : List (List Int)) (k : Nat) (D : MB) : Prop := ∀ i j a, i < rows.length → j < rows.length → a < k → mth D i j = false → mth D (nx rows i a) (nx rows j a) = false
theorem Mkd.end_ {D : MB} (v : VB rows good k) (h : Mkd rows good k D) (c : Cld rows k D) {i j : Nat} (hi : i < rows.length) (hj : j < rows.length) : mth D i j = !alB rows good k i j := by
  have key : ∀ (w : List Nat) (i j : Nat), i < rows.length → j < rows.length → (∀ a ∈ w, a < k) → mth D i j = false → bnth good (gow rows i w) = bnth good (gow rows j w) := by
    intro w
    induction w with
    | nil =>
      intro i j hi hj _ e
      apply Classical.byContradiction
      intro q
      have := h.bas i j hi hj q
      rw [e] at this
      cases this
    | cons a w ih =>
      intro i j hi hj hw e
      have ha := hw a (by simp)
      exact ih _ _ (nx_lt v hi ha).1 (nx_lt v hj ha).1 (fun b hb => hw b (by simp [hb])) (c i j a hi hj ha e)
  rcases hm : mth D i j with _ | _
  · have : alk rows good k i j := fun w hw => key w i j hi hj hw hm
    rw [alB_iff.2 this]; rfl
  · have h1 := h.snd i j hi hj hm
    have : alB rows good k i j = false := by rw [Bool.eq_false_iff]; exact fun q => h1 (alB_iff.1 q)
    rw [this]; rfl

def IP (rows : List (List Int)) (good : List Bool) (k m0 : Nat) (P : PB) : Prop := Mkd rows good k P.1 ∧ m0 ≤ cnt rows.length (mth P.1) ∧ (P.2 = true ↔ m0 < cnt rows.length (mth P.1))
def μP (n : Nat) (P : PB) : Nat := cnt n (mth P.1)
theorem mk1_ups (v : VB rows good k) (m0 : Nat) {i j a : Nat} (hi : i < rows.length) (hj : j < rows.length) (ha : a < k) : Ups (IP rows good k m0) (μP rows.length) (fun a P => mth P.1 i j = false → mth P.1 (nx rows i a) (nx rows j a) = false) (mk1 rows i j) a := by
  intro P hP
  obtain ⟨hM, h0, hf⟩ := hP
  have ni := (nx_lt v hi ha).1
  have nj := (nx_lt v hj ha).1
  by_cases c : mth P.1 i j = false ∧ mth P.1 (nx rows i a) (nx rows j a) = true
  · have e : mk1 rows i j P a = (setM P.1 i j true, true) := by rw [mk1, if_pos c]
    rw [e]
    have g := fun i' j' => hM.wf.get (i := i) (j := j) (i' := i') (j' := j') (b := true) hi hj
    have lt : cnt rows.length (mth P.1) < cnt rows.length (mth (setM P.1 i j true)) := cnt_lt (fun i' j' _ _ h => by rw [g]; split; rfl; exact h) hi hj (by rw [g]; simp) c.1
    refine ⟨⟨⟨hM.wf.set true hi, fun i' j' h1 h2 h => ?_, fun i' j' h1 h2 h => ?_⟩, Nat.le_of_lt (Nat.lt_of_le_of_lt h0 lt), ⟨fun _ => Nat.lt_of_le_of_lt h0 lt, fun _ => rfl⟩⟩, Nat.le_of_lt lt, fun q => absurd q (Nat.ne_of_gt lt)⟩
    · rw [g] at h
      by_cases q : i = i' ∧ j = j'
      · obtain ⟨rfl, rfl⟩ := q
        intro hk
        exact hM.snd _ _ ni nj c.2 (alk_step hk ha)
      · rw [if_neg q] at h
        exact hM.snd i' j' h1 h2 h
    · rw [g]; split; rfl; exact hM.bas i' j' h1 h2 h
  · have e : mk1 rows i j P a = P := by rw [mk1, if_neg c]
    rw [e]
    refine ⟨⟨hM, h0, hf⟩, Nat.le_refl _, fun _ => ⟨rfl, fun q => ?_⟩⟩
    rcases hm : mth P.1 (nx rows i a) (nx rows j a) with _ | _
    · rfl
    · exact absurd ⟨q, hm⟩ c
theorem mkA_ups (v : VB rows good k) (m0 : Nat) {i j : Nat} (hi : i < rows.length) (hj : j < rows.length) : Ups (IP rows good k m0) (μP rows.length) (fun j P => ∀ a ∈ List.range' 0 k, mth P.1 i j = false → mth P.1 (nx rows i a) (nx rows j a) = false) (fun P j => mkA rows i j k 0 P) j := fun P hP => by
  obtain ⟨h1, h2, h3⟩ := ups_fold _ _ _ _ (List.range' 0 k) P (fun a ha => mk1_ups v m0 (i := i) (j := j) hi hj (by simp [List.mem_range'_1] at ha; exact ha)) hP
  exact ⟨h1, h2, fun e => h3 e⟩
theorem mkJ_ups (v : VB rows good k) (m0 : Nat) {i : Nat} (hi : i < rows.length) : Ups (IP rows good k m0) (μP rows.length) (fun i P => ∀ j ∈ List.range' 0 rows.length, ∀ a ∈ List.range' 0 k, mth P.1 i j = false → mth P.1 (nx rows i a) (nx rows j a) = false) (fun P i => mkJ rows k i rows.length 0 P) i := fun P hP => by
  obtain ⟨h1, h2, h3⟩ := ups_fold _ _ _ _ (List.range' 0 rows.length) P (fun j hj => mkA_ups v m0 (i := i) (j := j) hi (by simp [List.mem_range'_1] at hj; exact hj)) hP
  exact ⟨h1, h2, fun e => h3 e⟩
theorem mkI_law (v : VB rows good k) {D : MB} (h : Mkd rows good k D) : Mkd rows good k (mkI rows k rows.length rows.length 0 (D, false)).1 ∧ ((mkI rows k rows.length rows.length 0 (D, false)).2 = true → cnt rows.length (mth D) < cnt rows.length (mth (mkI rows k rows.length rows.length 0 (D, false)).1)) ∧ ((mkI rows k rows.length rows.length 0 (D, false)).2 = false → Cld rows k (mkI rows k rows.length rows.length 0 (D, false)).1) := by
  obtain ⟨h1, h2, h3⟩ := ups_fold _ _ _ _ (List.range' 0 rows.length) (D, false) (fun i hi => mkJ_ups v (cnt rows.length (mth D)) (i := i) (by simp [List.mem_range'_1] at hi; exact hi)) ⟨h, Nat.le_refl _, by simp⟩
  refine ⟨h1.1, fun e => h1.2.2.1 e, fun e => ?_⟩
  have e2 : ¬ cnt rows.length (mth D) < cnt rows.length (mth (mkI rows k rows.length rows.length 0 (D, false)).1) := fun q => by
    have := h1.2.2.2 q
    simp only [mkI] at e
    rw [e] at this
    cases this
  simp only [μP] at h2 h3
  obtain ⟨e3, e4⟩ := h3 (by have h2' := h2; simp only [mkI] at e2; omega)
  have e5 : mkI rows k rows.length rows.length 0 (D, false) = (D, false) := e3
  rw [e5]
  intro i j a hi hj ha
  exact e4 i (by simp [List.mem_range'_1, hi]) j (by simp [List.mem_range'_1, hj]) a (by simp [List.mem_range'_1, ha])
theorem fixD_law (v : VB rows good k) : ∀ (f : Nat) (D : MB), Mkd rows good k D → rows.length * rows.length < f + cnt rows.length (mth D) → Mkd rows good k (fixD rows k rows.length f D) ∧ Cld rows k (fixD rows k rows.length f D)
  | 0, D, h, hf => by
    have := cnt_le rows.length (mth D)
    omega
  | f + 1, D, h, hf => by
    obtain ⟨h1, h2, h3⟩ := mkI_law v h
    rw [fixD]
    by_cases c : (mkI rows k rows.length rows.length 0 (D, false)).2 = true
    · rw [if_pos c]
      exact fixD_law v f _ h1 (by have := h2 c; omega)
    · rw [if_neg c]
      exact ⟨h1, h3 (by simpa using c)⟩
/-- The first marks. -/
def D0 (good : List Bool) (n : Nat) : MB := (List.range n).map fun i => (List.range n).map fun j => !(bnth good i == bnth good j)
theorem D0_get {n i j : Nat} (hi : i < n) (hj : j < n) : mth (D0 good n) i j = !(bnth good i == bnth good j) := by
  simp [mth, brw, D0, bnth, hi, hj]
theorem D0_wf (n : Nat) : Wf n (D0 good n) := ⟨by simp [D0], fun i hi => by simp [brw, D0, hi]⟩
theorem D0_mkd : Mkd rows good k (D0 good rows.length) := by
  refine ⟨D0_wf _, fun i j hi hj h q => ?_, fun i j hi hj h => ?_⟩
  · rw [D0_get hi hj, alk_good q] at h
    simp at h
  · rw [D0_get hi hj]
    simpa using h
/-- What the program's marks end in. -/
theorem fixD_end (v : VB rows good k) {f : Nat} (hf : rows.length * rows.length < f) : Wf rows.length (fixD rows k rows.length f (D0 good rows.length)) ∧ ∀ i j, i < rows.length → j < rows.length → mth (fixD rows k rows.length f (D0 good rows.length)) i j = !alB rows good k i j := by
  obtain ⟨h1, h2⟩ := fixD_law v f (D0 good rows.length) D0_mkd (by omega)
  exact ⟨h1.wf, fun i j hi hj => h1.end_ v h2 hi hj⟩

/-! ### The specification's -/
def mkL (rows : List (List Int)) (s t : Nat) (L : MB) (a : Nat) : MB := setM L s t (mth L s t && mth L (nx rows s a) (nx rows t a))
def lkA (rows : List (List Int)) (s t c a : Nat) (L : MB) : MB := (List.range' a c).foldl (mkL rows s t) L
def lkJ (rows : List (List Int)) (k s c t : Nat) (L : MB) : MB := (List.range' t c).foldl (fun L t => lkA rows s t k 0 L) L
def lkI (rows : List (List Int)) (k n c s : Nat) (L : MB) : MB := (List.range' s c).foldl (fun L s => lkJ rows k s n 0 L) L
def lkR (rows : List (List Int)) (k n c r : Nat) (L : MB) : MB := (List.range' r c).foldl (fun L _ => lkI rows k n n 0 L) L
structure Lkd (rows : List (List Int)) (good : List Bool) (k : Nat) (L : MB) : Prop where
  wf : Wf rows.length L
  snd : ∀ i j, i < rows.length → j < rows.length → mth L i j = false → ¬ alk rows good k i j
  bas : ∀ i j, i < rows.length → j < rows.length → bnth good i ≠ bnth good j → mth L i j = false
def CldL (rows : List (List Int)) (k : Nat) (L : MB) : Prop := ∀ i j a, i < rows.length → j < rows.length → a < k → mth L i j = true → mth L (nx rows i a) (nx rows j a) = true
theorem Lkd.end_ {L : MB} (v : VB rows good k) (h : Lkd rows good k L) (c : CldL rows k L) {i j : Nat} (hi : i < rows.length) (hj : j < rows.length) : mth L i j = alB rows good k i j := by
  have key : ∀ (w : List Nat) (i j : Nat), i < rows.length → j < rows.length → (∀ a ∈ w, a < k) → mth L i j = true → bnth good (gow rows i w) = bnth good (gow rows j w) := by
    intro w
    induction w with
    | nil =>
      intro i j hi hj _ e
      apply Classical.byContradiction
      intro q
      have := h.bas i j hi hj q
      rw [e] at this
      cases this
    | cons a w ih =>
      intro i j hi hj hw e
      have ha := hw a (by simp)
      exact ih _ _ (nx_lt v hi ha).1 (nx_lt v hj ha).1 (fun b hb => hw b (by simp [hb])) (c i j a hi hj ha e)
  rcases hm : mth L i j with _ | _
  · have h1 := h.snd i j hi hj hm
    have : alB rows good k i j = false := by rw [Bool.eq_false_iff]; exact fun q => h1 (alB_iff.1 q)
    rw [this]
  · have : alk rows good k i j := fun w hw => key w i j hi hj hw hm
    rw [alB_iff.2 this]
def μL (n : Nat) (L : MB) : Nat := cnt n fun i j => !mth L i j
theorem mkL_ups (v : VB rows good k) {i j a : Nat} (hi : i < rows.length) (hj : j < rows.length) (ha : a < k) : Ups (Lkd rows good k) (μL rows.length) (fun a L => mth L i j = true → mth L (nx rows i a) (nx rows j a) = true) (mkL rows i j) a := by
  intro L hM
  have ni := (nx_lt v hi ha).1
  have nj := (nx_lt v hj ha).1
  have g := fun b i' j' => hM.wf.get (i := i) (j := j) (i' := i') (j' := j') (b := b) hi hj
  by_cases c : mth L i j = true ∧ mth L (nx rows i a) (nx rows j a) = false
  · have e : mkL rows i j L a = setM L i j false := by rw [mkL, c.1, c.2]; rfl
    rw [e]
    have lt : μL rows.length L < μL rows.length (setM L i j false) := cnt_lt (fun i' j' _ _ h => by rw [g]; split; rfl; exact h) hi hj (by rw [g]; simp) (by rw [c.1]; rfl)
    refine ⟨⟨hM.wf.set false hi, fun i' j' h1 h2 h => ?_, fun i' j' h1 h2 h => ?_⟩, by omega, fun q => by omega⟩
    · rw [g] at h
      by_cases q : i = i' ∧ j = j'
      · obtain ⟨rfl, rfl⟩ := q
        intro hk
        exact hM.snd _ _ ni nj c.2 (alk_step hk ha)
      · rw [if_neg q] at h
        exact hM.snd i' j' h1 h2 h
    · rw [g]; split; rfl; exact hM.bas i' j' h1 h2 h
  · have e : mkL rows i j L a = L := by
      rw [mkL]
      refine setM_same hM.wf hi hj ?_
      rcases h1 : mth L i j with _ | _
      · rfl
      · rcases h2 : mth L (nx rows i a) (nx rows j a) with _ | _
        · exact absurd ⟨h1, h2⟩ c
        · rfl
    rw [e]
    refine ⟨hM, Nat.le_refl _, fun _ => ⟨rfl, fun q => ?_⟩⟩
    rcases hm : mth L (nx rows i a) (nx rows j a) with _ | _
    · exact absurd ⟨q, hm⟩ c
    · rfl
theorem lkI_ups (v : VB rows good k) (r : Nat) : Ups (Lkd rows good k) (μL rows.length) (fun _ L => CldL rows k L) (fun L (_ : Nat) => lkI rows k rows.length rows.length 0 L) r := fun L hL => by
  have hA : ∀ i j, i < rows.length → j < rows.length → Ups (Lkd rows good k) (μL rows.length) (fun j L => ∀ a ∈ List.range' 0 k, mth L i j = true → mth L (nx rows i a) (nx rows j a) = true) (fun L j => lkA rows i j k 0 L) j := fun i j hi hj L hL =>
    ups_fold _ _ _ _ (List.range' 0 k) L (fun a ha => mkL_ups v (i := i) (j := j) hi hj (by simp [List.mem_range'_1] at ha; exact ha)) hL
  have hJ : ∀ i, i < rows.length → Ups (Lkd rows good k) (μL rows.length) (fun i L => ∀ j ∈ List.range' 0 rows.length, ∀ a ∈ List.range' 0 k, mth L i j = true → mth L (nx rows i a) (nx rows j a) = true) (fun L i => lkJ rows k i rows.length 0 L) i := fun i hi L hL =>
    ups_fold _ _ _ _ (List.range' 0 rows.length) L (fun j hj => hA i j hi (by simp [List.mem_range'_1] at hj; exact hj)) hL
  obtain ⟨h1, h2, h3⟩ := ups_fold _ _ _ _ (List.range' 0 rows.length) L (fun i hi => hJ i (by simp [List.mem_range'_1] at hi; exact hi)) hL
  exact ⟨h1, h2, fun e => ⟨(h3 e).1, fun i j a hi hj ha => (h3 e).2 i (by simp [List.mem_range'_1, hi]) j (by simp [List.mem_range'_1, hj]) a (by simp [List.mem_range'_1, ha])⟩⟩
theorem CldL_same (v : VB rows good k) {L : MB} (hL : Wf rows.length L) (c : CldL rows k L) : lkI rows k rows.length rows.length 0 L = L := by
  have fx : ∀ {α : Type} (st : MB → α → MB) (l : List α), (∀ x ∈ l, st L x = L) → l.foldl st L = L := by
    intro α st l
    induction l with
    | nil => intro _; rfl
    | cons x l ih => intro h; rw [List.foldl_cons, h x (by simp)]; exact ih fun y hy => h y (by simp [hy])
  refine fx _ _ fun i hi => fx _ _ fun j hj => fx _ _ fun a ha => ?_
  simp [List.mem_range'_1] at hi hj ha
  refine setM_same hL hi hj ?_
  rcases h1 : mth L i j with _ | _
  · rfl
  · rw [c i j a hi hj ha h1]; rfl
theorem lkR_law (v : VB rows good k) : ∀ (c r : Nat) (L : MB), Lkd rows good k L → (CldL rows k L ∨ r ≤ μL rows.length L) → Lkd rows good k (lkR rows k rows.length c r L) ∧ (CldL rows k (lkR rows k rows.length c r L) ∨ r + c ≤ μL rows.length (lkR rows k rows.length c r L))
  | 0, r, L, h, hc => ⟨h, hc⟩
  | c + 1, r, L, h, hc => by
    rw [lkR, List.range'_succ, List.foldl_cons]
    obtain ⟨h1, h2, h3⟩ := lkI_ups v r L h
    have := lkR_law v c (r + 1) (lkI rows k rows.length rows.length 0 L) h1 (by
      rcases hc with hc | hc
      · rw [CldL_same v h.wf hc]; exact .inl hc
      · by_cases e : μL rows.length (lkI rows k rows.length rows.length 0 L) = μL rows.length L
        · have := h3 e
          left
          have e1 : lkI rows k rows.length rows.length 0 L = L := this.1
          rw [e1]; exact this.2
        · right; have h2 : μL rows.length L ≤ μL rows.length (lkI rows k rows.length rows.length 0 L) := h2; omega)
    refine ⟨this.1, ?_⟩
    rw [show r + (c + 1) = r + 1 + c by omega]
    exact this.2
/-- The first answers. -/
def L0m (good : List Bool) (n : Nat) : MB := (List.range n).map fun i => (List.range n).map fun j => (bnth good i == bnth good j)
theorem L0m_get {n i j : Nat} (hi : i < n) (hj : j < n) : mth (L0m good n) i j = (bnth good i == bnth good j) := by
  simp [mth, brw, L0m, bnth, hi, hj]
theorem L0m_lkd : Lkd rows good k (L0m good rows.length) := by
  refine ⟨⟨by simp [L0m], fun i hi => by simp [brw, L0m, hi]⟩, fun i j hi hj h q => ?_, fun i j hi hj h => ?_⟩
  · rw [L0m_get hi hj, alk_good q] at h
    simp at h
  · rw [L0m_get hi hj]
    simpa using h
/-- What the specification's rounds end in. -/
theorem lkR_end (v : VB rows good k) : Wf rows.length (lkR rows k rows.length (rows.length * rows.length) 0 (L0m good rows.length)) ∧ ∀ i j, i < rows.length → j < rows.length → mth (lkR rows k rows.length (rows.length * rows.length) 0 (L0m good rows.length)) i j = alB rows good k i j := by
  obtain ⟨h1, h2⟩ := lkR_law v (rows.length * rows.length) 0 (L0m good rows.length) L0m_lkd (.inr (Nat.zero_le _))
  refine ⟨h1.wf, fun i j hi hj => h1.end_ v ?_ hi hj⟩
  rcases h2 with h2 | h2
  · exact h2
  · exfalso
    have h0 : 0 < rows.length := v.n1
    have := cnt_full (n := rows.length) (p := fun i j => !mth (lkR rows k rows.length (rows.length * rows.length) 0 (L0m good rows.length)) i j) (by simpa [μL] using h2) h0 h0
    simp only [Bool.not_eq_true'] at this
    exact h1.snd 0 0 h0 h0 this (alk_refl 0)
end
end Go.Proofs.Ythnpflkpjimkfaa

/-
  NUMBERING STATES UP TO LIKENESS: taking representatives as they come, and taking all states and leaving out later ones that are alike, is the same. Conditions: none.
-/
namespace Go.Proofs.Ythnpflkpjimkfaa
open Go.AM
open Go.Proofs.Try (prog)
set_option linter.all false
set_option maxRecDepth 100000
set_option maxHeartbeats 4000000

def numS (al : Nat → Nat → Bool) (s : Nat) (P : List Nat) : List Nat := if P.any (al s) = true then P else P ++ [s]
def idxA (al : Nat → Nat → Bool) (P : List Nat) (s : Nat) : Nat := P.findIdx (al s)
def addsN (al : Nat → Nat → Bool) (nxt : Nat → Nat → Nat) (q c a : Nat) (P : List Nat) : List Nat := (List.range' a c).foldl (fun P a => numS al (nxt q a) P) P
def bldN (al : Nat → Nat → Bool) (nxt : Nat → Nat → Nat) (k : Nat) : Nat → Nat → List Nat → List Nat
  | 0, _, P => P
  | f + 1, i, P => match P[i]? with
    | some q => bldN al nxt k f (i + 1) (addsN al nxt q k 0 P)
    | none => P
def ded (al : Nat → Nat → Bool) (R : List Nat) : List Nat := R.foldl (fun P s => numS al s P) []
def bfsA {β : Type} (nxt : Nat → Nat → Nat) (ext : β → Nat → β) (k : Nat) : Nat → Nat → List Nat × List β → List Nat × List β
  | 0, _, S => S
  | f + 1, i, S => match S.1[i]?, S.2[i]? with
    | some x, some w => bfsA nxt ext k f (i + 1) (bIn nxt ext x w k 0 S)
    | _, _ => S

section
variable {al : Nat → Nat → Bool} {nxt : Nat → Nat → Nat} {k : Nat}
theorem numS_pre (s : Nat) (P : List Nat) : ∃ l, numS al s P = P ++ l := by
  rw [numS]; split
  · exact ⟨[], by simp⟩
  · exact ⟨[s], rfl⟩
theorem fold_pre (f : Nat → Nat) : ∀ (l : List Nat) (P : List Nat), ∃ l', l.foldl (fun P a => numS al (f a) P) P = P ++ l'
  | [], P => ⟨[], by simp⟩
  | a :: l, P => by
    obtain ⟨l1, h1⟩ := numS_pre (al := al) (f a) P
    obtain ⟨l2, h2⟩ := fold_pre f l (numS al (f a) P)
    exact ⟨l1 ++ l2, by rw [List.foldl_cons, h2, h1, List.append_assoc]⟩
theorem addsN_pre (q c a : Nat) (P : List Nat) : ∃ l, addsN al nxt q c a P = P ++ l := fold_pre (fun a => nxt q a) _ P
theorem ded_app (R l : List Nat) : ded al (R ++ l) = l.foldl (fun P s => numS al s P) (ded al R) := by simp [ded]
theorem ded_pre (R l : List Nat) : ∃ l', ded al (R ++ l) = ded al R ++ l' := by rw [ded_app]; exact fold_pre id l _
theorem any_app {P l : List Nat} {p : Nat → Bool} (h : P.any p = true) : (P ++ l).any p = true := by rw [List.any_append, h]; rfl
theorem idxA_app {P l : List Nat} {s : Nat} (h : P.any (al s) = true) : idxA al (P ++ l) s = idxA al P s := by
  rw [idxA, List.findIdx_append, idxA]
  rw [if_pos]
  rw [List.findIdx_lt_length]
  simpa using h
/-- A likeness: an equivalence that steps keep. -/
structure Lik (al : Nat → Nat → Bool) (nxt : Nat → Nat → Nat) (k n : Nat) : Prop where
  rf : ∀ s, s < n → al s s = true
  sy : ∀ s t, s < n → t < n → al s t = true → al t s = true
  tr : ∀ s t u, s < n → t < n → u < n → al s t = true → al t u = true → al s u = true
  st : ∀ s t a, s < n → t < n → a < k → al s t = true → al (nxt s a) (nxt t a) = true
  cl : ∀ s a, s < n → a < k → nxt s a < n
variable {n : Nat}
theorem ded_sub : ∀ (R : List Nat) (P : List Nat) (s : Nat), s ∈ R.foldl (fun P s => numS al s P) P → s ∈ P ∨ s ∈ R
  | [], P, s, h => .inl h
  | r :: R, P, s, h => by
    rw [List.foldl_cons] at h
    rcases ded_sub R _ s h with h | h
    · rw [numS] at h
      split at h
      · exact .inl h
      · rcases List.mem_append.1 h with h | h
        · exact .inl h
        · right; simp at h; simp [h]
    · right; simp [h]
theorem ded_mem {R : List Nat} {s : Nat} (h : s ∈ ded al R) : s ∈ R := by
  rcases ded_sub R [] s h with h | h
  · simp at h
  · exact h
theorem ded_len : ∀ (R P : List Nat), (R.foldl (fun P s => numS al s P) P).length ≤ P.length + R.length
  | [], P => by simp
  | r :: R, P => by
    have h := ded_len R (numS al r P)
    have h2 : (numS al r P).length ≤ P.length + 1 := by rw [numS]; split <;> simp
    rw [List.foldl_cons, List.length_cons]; omega
/-- All that lie in a list have one alike among those that are left. -/
theorem ded_any (L : Lik al nxt k n) : ∀ (R : List Nat), (∀ s ∈ R, s < n) → ∀ s, s ∈ R → (ded al R).any (al s) = true := by
  intro R hR s hs
  obtain ⟨a, b, rfl⟩ := List.append_of_mem hs
  have h1 : ded al (a ++ s :: b) = b.foldl (fun P s => numS al s P) (numS al s (ded al a)) := by rw [ded_app, List.foldl_cons]
  have h2 : (numS al s (ded al a)).any (al s) = true := by
    rw [numS]
    split
    · assumption
    · simp [L.rf s (hR s hs)]
  obtain ⟨l, h3⟩ := fold_pre (al := al) id b (numS al s (ded al a))
  simp only [id] at h3
  rw [h1, h3]
  exact any_app h2
theorem ded_skip (L : Lik al nxt k n) {R : List Nat} (hR : ∀ s ∈ R, s < n) {s t : Nat} (hs : s < n) (ht : t ∈ R) (h : al s t = true) : numS al s (ded al R) = ded al R := by
  have h1 := ded_any L R hR t ht
  rw [List.any_eq_true] at h1
  obtain ⟨u, hu, h2⟩ := h1
  have : (ded al R).any (al s) = true := List.any_eq_true.2 ⟨u, hu, L.tr s t u hs (hR t ht) (hR u (ded_mem hu)) h h2⟩
  rw [numS, if_pos this]
variable {β : Type} {ext : β → Nat → β}
/-- One state's letters, on both sides. -/
theorem bIn_ded (L : Lik al nxt k n) {q : Nat} (hq : q < n) (w : β) : ∀ (c a : Nat) (S : List Nat × List β), a + c ≤ k → (∀ s ∈ S.1, s < n) → ded al (bIn nxt ext q w c a S).1 = addsN al nxt q c a (ded al S.1)
  | 0, a, S, _, _ => rfl
  | c + 1, a, S, hc, hS => by
    rw [addsN, List.range'_succ, List.foldl_cons, bIn]
    have hn := L.cl q a hq (by omega)
    by_cases h : nxt q a ∈ S.1
    · rw [if_pos h, bIn_ded L hq w c (a + 1) S (by omega) hS, addsN, ded_skip L hS hn h (L.rf _ hn)]
    · rw [if_neg h, bIn_ded L hq w c (a + 1) _ (by omega) (fun s hs => by
        rcases List.mem_append.1 hs with hs | hs
        · exact hS s hs
        · simp at hs; rw [hs]; exact hn), addsN]
      congr 1
      simp only []
      rw [ded_app]; rfl
theorem addsN_skip (L : Lik al nxt k n) {R : List Nat} (hR : ∀ s ∈ R, s < n) {q f : Nat} (hq : q < n) (hf : f < n) (hqf : al q f = true) (hfR : ∀ a, a < k → nxt f a ∈ R) : ∀ (c a : Nat), a + c ≤ k → addsN al nxt q c a (ded al R) = ded al R
  | 0, a, _ => rfl
  | c + 1, a, hc => by
    rw [addsN, List.range'_succ, List.foldl_cons, ded_skip L hR (L.cl q a hq (by omega)) (hfR a (by omega)) (L.st q f a hq hf (by omega) hqf)]
    exact addsN_skip L hR hq hf hqf hfR c (a + 1) (by omega)
theorem bIn_has (q : Nat) (w : β) : ∀ (c a : Nat) (S : List Nat × List β) (b : Nat), a ≤ b → b < a + c → nxt q b ∈ (bIn nxt ext q w c a S).1
  | 0, a, S, b, h1, h2 => by omega
  | c + 1, a, S, b, h1, h2 => by
    rw [bIn]
    by_cases e : b = a
    · subst e
      by_cases h : nxt q b ∈ S.1
      · rw [if_pos h]
        obtain ⟨p, _, e1, _⟩ := bIn_pre nxt ext q w c (b + 1) S
        rw [e1]; exact List.mem_append_left _ h
      · rw [if_neg h]
        obtain ⟨p, _, e1, _⟩ := bIn_pre nxt ext q w c (b + 1) (S.1 ++ [nxt q b], S.2 ++ [ext w b])
        rw [e1]; simp
    · split
      · exact bIn_has q w c (a + 1) _ b (by omega) (by omega)
      · exact bIn_has q w c (a + 1) _ b (by omega) (by omega)
theorem bfs_ded (L : Lik al nxt k n) {ln : β → Nat} (hex : ∀ w a, ln (ext w a) ≤ ln w + 1) : ∀ (f i : Nat) (S : List Nat × List β), BOk (· < n) ln S → i ≤ S.1.length → n < f + i → (∀ s ∈ S.1.take i, ∀ a, a < k → nxt s a ∈ S.1) → ∀ f', n < f' + (ded al (S.1.take i)).length →
    bldN al nxt k f' (ded al (S.1.take i)).length (ded al S.1) = ded al (bfsA nxt ext k f i S).1 := by
  intro f
  induction f with
  | zero =>
    intro i S hS hi hf
    have := nodup_sub hS.nd (L := List.range n) fun x hx => List.mem_range.2 (hS.all x hx)
    simp at this
    omega
  | succ f ih =>
    intro i S hS hi hf hcl f' hf'
    have hSn : S.1.length ≤ n := by
      have := nodup_sub hS.nd (L := List.range n) fun x hx => List.mem_range.2 (hS.all x hx)
      simpa using this
    by_cases c : i < S.1.length
    · have hx := List.getElem?_eq_getElem c
      have c2 : i < S.2.length := by rw [← hS.len]; exact c
      have hw := List.getElem?_eq_getElem c2
      generalize S.1[i] = q at hx
      generalize S.2[i] = w at hw
      have hqm := List.mem_of_getElem? hx
      have hq : q < n := hS.all q hqm
      rw [bfsA, hx, hw]
      simp only []
      have hS' := bIn_ok nxt ext (ok := (· < n)) (ln := ln) (k := k) (fun x a hx ha => L.cl x a hx ha) hex q w hq k 0 S (by omega) hS (hS.wl w (List.mem_of_getElem? hw))
      obtain ⟨p, p', e1, e2⟩ := bIn_pre nxt ext q w k 0 S
      have ht : (bIn nxt ext q w k 0 S).1.take (i + 1) = S.1.take (i + 1) := by rw [e1, List.take_append_of_le_length (by omega)]
      have ht1 : S.1.take (i + 1) = S.1.take i ++ [q] := by rw [List.take_add_one, hx]; rfl
      have hd1 : ded al (S.1.take (i + 1)) = numS al q (ded al (S.1.take i)) := by rw [ht1, ded_app]; rfl
      have hb := bIn_ded (ext := ext) L hq w k 0 S (by omega) hS.all
      have hcl' : ∀ s ∈ (bIn nxt ext q w k 0 S).1.take (i + 1), ∀ a, a < k → nxt s a ∈ (bIn nxt ext q w k 0 S).1 := by
        rw [ht, ht1]
        intro s hs a ha
        rcases List.mem_append.1 hs with hs | hs
        · rw [e1]; exact List.mem_append_left _ (hcl s hs a ha)
        · simp at hs
          subst hs
          exact bIn_has s w k 0 S a (by omega) (by omega)
      have IH := ih (i + 1) (bIn nxt ext q w k 0 S) hS' (by rw [e1]; simp; omega) (by omega) hcl'
      rw [ht, hd1, hb] at IH
      have hT : ∀ s ∈ S.1.take i, s < n := fun s hs => hS.all s (List.mem_of_mem_take hs)
      by_cases hany : (ded al (S.1.take i)).any (al q) = true
      · have e3 : numS al q (ded al (S.1.take i)) = ded al (S.1.take i) := by rw [numS, if_pos hany]
        rw [e3] at IH
        rw [List.any_eq_true] at hany
        obtain ⟨g, hg, hqg⟩ := hany
        have hgt := ded_mem hg
        have hsk := addsN_skip L hS.all hq (hT g hgt) hqg (fun a ha => hcl g hgt a ha) k 0 (by omega)
        rw [hsk] at IH
        exact IH f' hf'
      · have e3 : numS al q (ded al (S.1.take i)) = ded al (S.1.take i) ++ [q] := by rw [numS, if_neg hany]
        rw [e3] at IH hd1
        have hlen : (ded al (S.1.take i)).length ≤ i := by
          have := ded_len (al := al) (S.1.take i) []
          simp [List.length_take] at this
          exact Nat.le_trans this (by omega)
        have hsp : S.1 = S.1.take (i + 1) ++ S.1.drop (i + 1) := (List.take_append_drop _ _).symm
        obtain ⟨l', hl'⟩ := ded_pre (al := al) (S.1.take (i + 1)) (S.1.drop (i + 1))
        rw [← hsp, hd1] at hl'
        match f', hf' with
        | 0, hf' => omega
        | f' + 1, hf' =>
          have hat : (ded al S.1)[(ded al (S.1.take i)).length]? = some q := by rw [hl']; simp
          rw [bldN, hat]
          simp only []
          have := IH f' (by simp; omega)
          simpa using this
    · have hi' : i = S.1.length := by omega
      have hx : S.1[i]? = none := List.getElem?_eq_none (by omega)
      rw [bfsA, hx]
      simp only []
      have : S.1.take i = S.1 := by rw [hi']; simp
      rw [this]
      cases f' with
      | zero => rfl
      | succ f' =>
        rw [bldN]
        simp
end
theorem few6 {n : Nat} {st : List Nat} (n6 : n ≤ 6) (h : st.Nodup) (ha : ∀ x ∈ st, x < n) : st.length ≤ 6 := by
  have := nodup_sub h (L := List.range n) fun x hx => List.mem_range.2 (ha x hx)
  simp at this
  omega
end Go.Proofs.Ythnpflkpjimkfaa

/-
  LISTS THAT ARE NIL OR AN OBJECT OF THEIR OWN. Conditions: none.
-/
namespace Go.Proofs.Ythnpflkpjimkfaa
open Go.AM
open Go.Proofs.Try (prog)
set_option linter.all false
set_option maxRecDepth 100000
set_option maxHeartbeats 4000000

theorem Gl.oid {m : Mem} {v : AV} {id sz n : Nat} {xs : List AV} (h : Gl m v id sz n xs) : objId v = some id := by
  obtain ⟨⟨pre, rfl, hm⟩, hn, hl⟩ := h; rfl
theorem Gl.oidE {m : Mem} {v : AV} {id sz n : Nat} {xs : List AV} (h : Gl m v id sz n xs) (s i : Nat) : objId (elP v s i) = some id := by
  obtain ⟨⟨pre, rfl, hm⟩, hn, hl⟩ := h; rfl
def Nl (h : Nat → Option AObj) (v : AV) (xs : List AV) (lo hi : Nat) : Prop := (v = .nils ∧ xs = []) ∨ ∃ R, v = .sl R 1 0 xs.length xs.length ∧ h R = some (.cells xs) ∧ lo ≤ R ∧ R < hi
section
variable {h h' : Nat → Option AObj} {v : AV} {xs : List AV} {lo hi hi' : Nat}
theorem Nl.nil : Nl h .nils [] lo hi := .inl ⟨rfl, rfl⟩
theorem Nl.fr (n : Nl h v xs lo hi) (e : ∀ y, lo ≤ y → y < hi → objId v = some y → h' y = h y) (l : hi ≤ hi') : Nl h' v xs lo hi' := by
  rcases n with ⟨rfl, rfl⟩ | ⟨R, rfl, h1, h2, h3⟩
  · exact .nil
  · exact .inr ⟨R, rfl, by rw [e R h2 h3 rfl, h1], h2, by omega⟩
theorem Nl.one (n : Nl h v xs lo hi) : v.one = true := by
  rcases n with ⟨rfl, rfl⟩ | ⟨R, rfl, h1, h2, h3⟩ <;> rfl
theorem Nl.cells (n : Nl h v xs lo hi) : v.cells = [v] := by
  rcases n with ⟨rfl, rfl⟩ | ⟨R, rfl, h1, h2, h3⟩ <;> rfl
theorem Nl.oid (n : Nl h v xs lo hi) {y : Nat} (e : objId v = some y) : lo ≤ y ∧ y < hi := by
  rcases n with ⟨rfl, rfl⟩ | ⟨R, rfl, h1, h2, h3⟩
  · cases e
  · simp [objId] at e; omega
theorem Nl.len (n : Nl h v xs lo hi) : lenSl v = some (.int .i64 xs.length) := by
  rcases n with ⟨rfl, rfl⟩ | ⟨R, rfl, h1, h2, h3⟩ <;> rfl
theorem mapO_same {f : AV → Option AV} : ∀ l : List AV, (∀ x ∈ l, f x = some x) → mapO f l = some l
  | [], _ => rfl
  | a :: l, q => by simp [mapO, q a (by simp), mapO_same l (fun x hx => q x (by simp [hx]))]
theorem Nl.deep (n : Nl h v xs lo hi) (d : Nat) (hd : ∀ x ∈ xs, AM.deep h d x = some x) (h0 : v ≠ .nils) : AM.deep h (d + 1) v = some (.fsl false xs.length xs) := by
  rcases n with ⟨rfl, rfl⟩ | ⟨R, rfl, h1, h2, h3⟩
  · exact absurd rfl h0
  · simp [AM.deep, h1, mapO_same xs hd]
theorem Nl.nn (n : Nl h v xs lo hi) (h0 : xs ≠ []) : v ≠ .nils := by
  rcases n with ⟨rfl, rfl⟩ | ⟨R, rfl, h1, h2, h3⟩
  · exact absurd rfl h0
  · simp
theorem Nl.sl (n : Nl h v xs lo hi) (h0 : v ≠ .nils) : ∃ R, v = .sl R 1 0 xs.length xs.length ∧ h R = some (.cells xs) ∧ lo ≤ R ∧ R < hi := by
  rcases n with ⟨rfl, rfl⟩ | h
  · exact absurd rfl h0
  · exact h
/-- One more at the end. -/
theorem Nl.app {nx by' : Nat} (n : Nl h v xs lo hi) (hh : hi ≤ nx) (hl : lo ≤ nx) (hr : room (xs.length + 1) by' = true) (y : AV) :
    ∃ v' h' nx', appT 1 by' ⟨h, nx⟩ v (some (1, [y])) = some (v', ⟨h', nx'⟩) ∧ Nl h' v' (xs ++ [y]) lo nx' ∧ nx ≤ nx' ∧ nx' ≤ nx + 1 ∧ (∀ z, objId v' = some z → objId v = some z ∨ z = nx) ∧ (∀ z, objId v' ≠ some z → h' z = h z) ∧ v' ≠ .nils := by
  rcases n with ⟨rfl, rfl⟩ | ⟨R, rfl, h1, h2, h3⟩
  · refine ⟨.sl nx 1 0 1 1, upd h nx (some (.cells [y])), nx + 1, ?_, .inr ⟨nx, rfl, by simp, hl, by omega⟩, by omega, by omega, fun z e => .inr (by simp [objId] at e; omega), fun z e => updNe (fun q => e (by rw [q]; rfl)), by simp⟩
    simp at hr
    simp [Mem.new, hr]
  · refine ⟨.sl R 1 0 (xs.length + 1) (xs.length + 1), upd h R (some (.cells (xs ++ [y]))), nx, ?_, .inr ⟨R, by simp, by simp, h2, by omega⟩, by omega, by omega, fun z e => .inl e, fun z e => updNe (fun q => e (by rw [q]; rfl)), by simp⟩
    simp at hr
    simp [h1, hr.1, hr.2]
end
end Go.Proofs.Ythnpflkpjimkfaa

/-
  THE LEAST WORD THAT ONLY ONE OF TWO BRANDS ACCEPTS: the program's search. Conditions: none.
-/
namespace Go.Proofs.Ythnpflkpjimkfaa
open Go.AM
open Go.Proofs.Try (prog)
set_option linter.all false
set_option maxRecDepth 100000
set_option maxHeartbeats 8000000

def nxP (rows rows' : List (List Int)) (x : PN) (a : Nat) : PN := (nx rows x.1 a, nx rows' x.2 a)
def extL (w : List UInt8) (a : Nat) : List UInt8 := w ++ ltr a
def okP (n n' : Nat) (x : PN) : Prop := x.1 < n ∧ x.2 < n'
noncomputable def KD : List Item := [.code brand_Differ.r19, .code .ret]
noncomputable def KI : List Item := .inBlock 1 :: .code brand_Differ.r6 :: .inLoop brand_Differ.l0 :: .inBlock 0 :: KD

def stP (good good' : List Bool) (x : PN) : Bool := !(bnth good x.1 == bnth good' x.2)
def resP : Option (List UInt8) → AV
  | some w => .tup [.str w, .int .i64 0]
  | none => .tup [.str [], .int .i64 5]
/-- The search from the first pair. -/
def dfrW (rows rows' : List (List Int)) (good good' : List Bool) (k : Nat) : Option (List UInt8) := bfs (nxP rows rows') extL (stP good good') k 37 0 ([(0, 0)], [[]])
end Go.Proofs.Ythnpflkpjimkfaa
