/-
  COURSES LEVEL BY LEVEL: what is added up in whatever order. Conditions: none.
-/
import Derived.Test.YtdkmepjedjclkaaK04
import Derived.Test.YtdkmepjedjclkaaKAmH
import Derived.Test.YtdkmepjedjclkaaK05
import Derived.Test.YtdkmepjedjclkaaK03
set_option linter.all false
namespace Go.Proofs.Ytdkmepjedjclkaa
open Go.AM
open Go.Proofs.Try (prog)
set_option linter.all false
set_option maxRecDepth 100000
set_option maxHeartbeats 1000000
theorem wrap_add (a b : Int) : IntKind.wrap .i64 (IntKind.wrap .i64 a + IntKind.wrap .i64 b) = IntKind.wrap .i64 (a + b) := by
  simp only [IntKind.wrap, IntKind.signed, IntKind.bits]
  simp
  omega
theorem wrap_z : IntKind.wrap .i64 0 = 0 := by decide
section
variable {α : Type} [DecidableEq α]
theorem filt_split (f : α → Nat) {a : α} {A : List α} (ha : a ∉ A) : ∀ {L : List α}, L.Nodup → ((L.filter fun c => decide (c ∈ a :: A)).map f).sum = (if a ∈ L then f a else 0) + ((L.filter fun c => decide (c ∈ A)).map f).sum
  | [], _ => by simp
  | c :: L, hn => by
    have hn' := List.nodup_cons.1 hn
    have ih := filt_split f ha hn'.2
    by_cases e : c = a
    · subst e
      rw [if_neg hn'.1] at ih
      simp only [List.filter_cons, List.mem_cons, true_or, decide_true, if_true, ha, decide_false, Bool.false_eq_true, if_false, List.map_cons, List.sum_cons]
      simp only [List.mem_cons] at ih
      rw [ih]; omega
    · have e' : ¬ a = c := fun x => e x.symm
      by_cases q : c ∈ A
      · simp only [List.filter_cons, List.mem_cons, e, q, or_true, decide_true, if_true, List.map_cons, List.sum_cons, e', false_or]
        simp only [List.mem_cons] at ih
        rw [ih]; omega
      · simp only [List.filter_cons, List.mem_cons, e, q, or_false, decide_false, Bool.false_eq_true, if_false, e', false_or]
        simpa only [List.mem_cons] using ih
theorem sum_swap (f : α → Nat) : ∀ {A L : List α}, A.Nodup → L.Nodup → (∀ a ∈ A, a ∉ L → f a = 0) → ((L.filter fun c => decide (c ∈ A)).map f).sum = (A.map f).sum
  | [], L, _, _, _ => by rw [List.filter_eq_nil_iff.2 (by simp)]
  | a :: A, L, hA, hL, h => by
    have hA' := List.nodup_cons.1 hA
    rw [filt_split f hA'.1 hL, sum_swap f hA'.2 hL fun x hx => h x (by simp [hx]), List.map_cons, List.sum_cons]
    by_cases q : a ∈ L
    · rw [if_pos q]
    · rw [if_neg q, h a (by simp) q]
theorem sum_swapP (f : α → Nat) {A L : List α} (p : α → Bool) (hA : A.Nodup) (hL : L.Nodup) (hp : ∀ c ∈ L, p c = true ↔ c ∈ A) (h : ∀ a ∈ A, a ∉ L → f a = 0) : ((L.filter p).map f).sum = (A.map f).sum := by
  rw [← sum_swap f hA hL h]
  congr 2
  refine List.filter_congr fun c hc => ?_
  rw [Bool.eq_iff_iff, hp c hc, decide_eq_true_eq]
end
section
variable {D : List Int} {N : List Note} {K : List (List (List Int))}
abbrev nx4 (D : List Int) (K : List (List (List Int))) (c : List Int) : List (List Int) := nextR (pad D) K D.length c D.length
abbrev W4 (D : List Int) (N : List Note) (k : Nat) (c : List Int) : Nat := waysN D N k (c.take D.length)
theorem mem_nextR {D4 : List Int} {n : Nat} {c d : List Int} : ∀ {k : Nat}, d ∈ nextR D4 K n c k ↔ ∃ h, h < k ∧ stepOk D4 K n c h = true ∧ d = bump c h
  | 0 => by simp [nextR]
  | k + 1 => by
    rw [nextR, List.mem_append, mem_nextR (k := k)]
    constructor
    · rintro (h | ⟨h, h1, h2, h3⟩)
      · split at h
        · rename_i q
          simp at h
          exact ⟨k, Nat.lt_succ_self k, q, h⟩
        · cases h
      · exact ⟨h, by omega, h2, h3⟩
    · rintro ⟨h, h1, h2, h3⟩
      by_cases e : h = k
      · subst e; left; rw [if_pos h2, h3]; simp
      · right; exact ⟨h, by omega, h2, h3⟩
theorem bump_inj {c : List Int} {g h : Nat} (hg : g < c.length) (hh : h < c.length) (e : bump c g = bump c h) : g = h := by
  have := congrArg (fun x => nth x g) e
  simp only [nth_bump hg, nth_bump hh, if_true] at this
  by_cases q : g = h
  · exact q
  · rw [if_neg q] at this; omega
theorem nextR_nodup {D4 : List Int} {n : Nat} {c : List Int} : ∀ {k : Nat}, k ≤ c.length → (nextR D4 K n c k).Nodup
  | 0, _ => by simp [nextR]
  | k + 1, hk => by
    have ih := nextR_nodup (D4 := D4) (n := n) (c := c) (k := k) (by omega)
    rw [nextR]
    split
    · rw [List.singleton_append, List.nodup_cons]
      refine ⟨fun h => ?_, ih⟩
      obtain ⟨h0, h1, _, h3⟩ := mem_nextR.1 h
      have := bump_inj (by omega) (by omega) h3
      omega
    · simpa using ih
theorem isCut_inj {c d : List Int} (hc : IsCut D.length (pad D) c) (hd : IsCut D.length (pad D) d) (e : c.take D.length = d.take D.length) : c = d := by
  refine ext_nth (by rw [hc.len, hd.len]) fun g => ?_
  rcases Nat.lt_or_ge g D.length with hg | hg
  · rw [← nth_take hg, e, nth_take hg]
  · have a1 := hc.lo g; have a2 := hc.hi g; have b1 := hd.lo g; have b2 := hd.hi g
    rw [nth_pad, nth_out hg] at a2 b2
    omega
theorem drop_take {c : List Int} {n h : Nat} (hh : h < n) (hl : n ≤ c.length) : (drop1 c h).take n = drop1 (c.take n) h := by
  refine ext_nth (by simp [drop1]) fun g => ?_
  rw [nth_drop1 (by simp; omega), nth_take hh]
  rcases Nat.lt_or_ge g n with hg | hg
  · rw [nth_take hg, nth_drop1 (by omega), nth_take hg]
  · have : ¬ g = h := by omega
    rw [take_out hg, if_neg this, take_out hg]
def sumZ (D : List Int) (N : List Note) (K : List (List (List Int))) (k : Nat) (Z : List (List Int)) (d : List Int) : Nat := ((Z.filter fun c => decide (d ∈ nx4 D K c)).map fun c => W4 D N k c).sum
theorem sumZ_nil (k : Nat) (d : List Int) : sumZ D N K k [] d = 0 := rfl
theorem sumZ_cons (k : Nat) (c : List Int) (Z : List (List Int)) (d : List Int) : sumZ D N K k (c :: Z) d = sumZ D N K k Z d + (if d ∈ nx4 D K c then W4 D N k c else 0) := by
  unfold sumZ
  rw [List.filter_cons]
  by_cases q : d ∈ nx4 D K c
  · simp [q, Nat.add_comm]
  · simp [q]
theorem sumZ_level (kk : Clocks D N K) (k : Nat) {Z : List (List Int)} (hZ : Z.Nodup) (hI : ∀ c ∈ Z, IsCut D.length (pad D) c) (hm : ∀ c, IsCut D.length (pad D) c → (c ∈ Z ↔ 0 < W4 D N k c)) {d : List Int} (hd : IsCut D.length (pad D) d) :
    sumZ D N K k Z d = W4 D N (k + 1) d := by
  have h4 := kk.P.L.n4
  have hl := hd.len
  unfold sumZ W4
  rw [ways_succ]
  by_cases q : d.take D.length ∈ cutsL D N
  · rw [if_pos q]
    have e1 : ∀ c ∈ Z, decide (d ∈ nx4 D K c) = true ↔ c ∈ ((List.range D.length).filter fun h => decide (0 < nth (d.take D.length) h)).map (drop1 d) := by
      intro c hc
      have hcc := hI c hc
      have hcl := hcc.len
      rw [decide_eq_true_eq, mem_nextR]
      simp only [List.mem_map, List.mem_filter, List.mem_range, decide_eq_true_eq]
      constructor
      · rintro ⟨h, h1, h2, rfl⟩
        refine ⟨h, ⟨h1, ?_⟩, drop_bump (by omega)⟩
        rw [nth_take h1, nth_bump (by omega), if_pos rfl]
        have := hcc.lo h
        omega
      · rintro ⟨h, ⟨h1, h2⟩, rfl⟩
        refine ⟨h, h1, (stepOk_iff kk hcc h1).2 ?_, (bump_drop (by omega)).symm⟩
        rw [← bump_take h1 (by omega), bump_drop (by omega)]
        exact q
    rw [sum_swapP (fun c => waysN D N k (c.take D.length)) _ (by
      unfold List.Nodup
      rw [List.pairwise_map]
      refine List.Pairwise.imp_of_mem (fun {a b} ha hb hne e => ?_) (List.Nodup.sublist List.filter_sublist List.nodup_range)
      simp only [List.mem_filter, List.mem_range] at ha hb
      have := congrArg (fun x => nth x a) e
      simp only [nth_drop1 (c := d) (h := a) (by omega), nth_drop1 (c := d) (h := b) (by omega), if_true] at this
      rw [if_neg hne] at this
      omega) hZ e1 (fun a ha hn => ?_), List.map_map]
    · congr 1
      refine List.map_congr_left fun h hh => ?_
      simp only [List.mem_filter, List.mem_range] at hh
      show waysN D N k ((drop1 d h).take D.length) = _
      rw [drop_take hh.1 (by omega)]
    · simp only [List.mem_map, List.mem_filter, List.mem_range, decide_eq_true_eq] at ha
      obtain ⟨h, ⟨h1, h2⟩, rfl⟩ := ha
      rw [nth_take h1] at h2
      have hc : IsCut D.length (pad D) (drop1 d h) := by
        refine ⟨by rw [drop1_len, hl], fun g => ?_, fun g => ?_⟩
        · rw [nth_drop1 (by omega)]; have := hd.lo g; split <;> omega
        · rw [nth_drop1 (by omega)]; have := hd.hi g; split
          · rename_i e; subst e; omega
          · exact this
      exact Nat.eq_zero_of_not_pos (fun x => hn ((hm _ hc).2 x))
  · rw [if_neg q]
    have : (Z.filter fun c => decide (d ∈ nx4 D K c)) = [] := by
      rw [List.filter_eq_nil_iff]
      intro c hc hx
      have hcc := hI c hc
      have hcl := hcc.len
      rw [decide_eq_true_eq, mem_nextR] at hx
      obtain ⟨h, h1, h2, rfl⟩ := hx
      refine q ?_
      rw [bump_take h1 (by omega)]
      exact (stepOk_iff kk hcc h1).1 h2
    rw [this]; rfl
def gI (W : Ents) (d : List Int) : Int := match lkL W d with
  | some (.int _ x) => x
  | _ => 0
def IntE (W : Ents) : Prop := ∀ d v, lkL W d = some v → ∃ x, v = .int .i64 x
theorem lk_int {W : Ents} (h : IntE W) (d : List Int) : (match lkL W d with
    | some v => v
    | none => AV.int .i64 0) = .int .i64 (gI W d) := by
  unfold gI
  cases e : lkL W d with
  | none => rfl
  | some v => obtain ⟨x, rfl⟩ := h d v e; rfl
theorem int_set {W : Ents} (h : IntE W) (c : List Int) (x : Int) : IntE (setL W c (.int .i64 x)) := by
  intro d v hv
  rw [lk_set] at hv
  split at hv
  · cases hv; exact ⟨x, rfl⟩
  · exact h d v hv
theorem gI_set (W : Ents) (c : List Int) (x : Int) (d : List Int) : gI (setL W c (.int .i64 x)) d = if c = d then x else gI W d := by
  unfold gI
  rw [lk_set]
  by_cases q : c = d
  · rw [if_pos q, if_pos q]
  · rw [if_neg q, if_neg q]
theorem lk_mem : ∀ {L : Ents} {c : List Int}, c ∈ L.map (·.1) ↔ lkL L c ≠ none
  | [], c => by simp [lkL]
  | e :: L, c => by
    rw [List.map_cons, List.mem_cons, lk_mem (L := L), lkL]
    by_cases q : e.1 = c
    · rw [if_pos q]; simp [q]
    · have q' : ¬ c = e.1 := fun x => q x.symm
      rw [if_neg q]; simp [q']
theorem set_keys : ∀ {L : Ents} {c : List Int} {v : AV}, (L.map (·.1)).Nodup → ((setL L c v).map (·.1)).Nodup ∧ ∀ d, d ∈ (setL L c v).map (·.1) ↔ d = c ∨ d ∈ L.map (·.1)
  | [], c, v, _ => by simp [setL]
  | e :: L, c, v, h => by
    have h' : e.1 ∉ L.map (·.1) ∧ (L.map (·.1)).Nodup := List.nodup_cons.1 h
    obtain ⟨i1, i2⟩ := set_keys (c := c) (v := v) h'.2
    rw [setL]
    by_cases q : e.1 = c
    · rw [if_pos q]
      refine ⟨by rw [List.map_cons, ← q]; exact h, fun d => ?_⟩
      simp only [List.map_cons, List.mem_cons, q]
      constructor
      · exact fun x => .inr x
      · rintro (x | x)
        · exact .inl x
        · exact x
    · rw [if_neg q, List.map_cons, List.nodup_cons]
      refine ⟨⟨fun x => ?_, i1⟩, fun d => ?_⟩
      · rcases (i2 _).1 x with x | x
        · exact q x
        · exact h'.1 x
      · rw [List.mem_cons, i2, List.map_cons, List.mem_cons]
        constructor
        · rintro (x | x | x)
          · exact .inr (.inl x)
          · exact .inl x
          · exact .inr (.inr x)
        · rintro (x | x | x)
          · exact .inr (.inl x)
          · exact .inl x
          · exact .inr (.inr x)
open Classical
abbrev dsum (D : List Int) (c : List Int) : Int := (c.take D.length).sum
theorem ways_sum (L : Lims D N) {k : Nat} {c : List Int} (h : 0 < waysN D N k c) : c.sum = k := by
  obtain ⟨w, hw⟩ := List.exists_mem_of_length_pos h
  obtain ⟨a1, a2, a3⟩ := (mem_words L _ _ _).1 hw
  rw [← a3, cntW_sum _ _ (good_lt w a2), a1]
theorem nx_is (kk : Clocks D N K) {c d : List Int} (hc : IsCut D.length (pad D) c) (h : d ∈ nx4 D K c) : IsCut D.length (pad D) d ∧ dsum D d = dsum D c + 1 ∧ d.take D.length ∈ cutsL D N := by
  have h4 := kk.P.L.n4
  have hl := hc.len
  obtain ⟨h, h1, h2, rfl⟩ := mem_nextR.1 h
  have h3 := (stepOk_iff kk hc h1).1 h2
  simp only [stepOk, Bool.and_eq_true, decide_eq_true_eq] at h2
  refine ⟨bump_is hc (by omega) h2.1, ?_, ?_⟩
  · rw [dsum, bump_take h1 (by omega), sum_bump (by simp; omega)]
  · rw [bump_take h1 (by omega)]; exact h3
structure RoundI (D : List Int) (N : List Note) (K : List (List (List Int))) (k : Nat) (Z : List (List Int)) (c : List Int) (A : List (List Int)) (W Lt : Ents) : Prop where
  w4 : Keys4 W
  wi : IntE W
  l4 : Keys4 Lt
  old : ∀ d, IsCut D.length (pad D) d → dsum D d = k → gI W d = IntKind.wrap .i64 (W4 D N k d)
  new : ∀ d, IsCut D.length (pad D) d → dsum D d = k + 1 → gI W d = IntKind.wrap .i64 ((sumZ D N K k Z d + (if d ∈ A then W4 D N k c else 0) : Nat) : Int)
  far : ∀ d, IsCut D.length (pad D) d → (k : Int) + 1 < dsum D d → gI W d = 0
  lt : ∀ d, lkL Lt d = if (∃ c ∈ Z, d ∈ nx4 D K c) ∨ d ∈ A then some (.bool true) else none
  nd : (Lt.map (·.1)).Nodup
structure LevelI (D : List Int) (N : List Note) (K : List (List (List Int))) (k : Nat) (W Lv : Ents) : Prop where
  w4 : Keys4 W
  wi : IntE W
  l4 : Keys4 Lv
  old : ∀ d, IsCut D.length (pad D) d → dsum D d = k → gI W d = IntKind.wrap .i64 (W4 D N k d)
  far : ∀ d, IsCut D.length (pad D) d → (k : Int) < dsum D d → gI W d = 0
  lv : ∀ d, lkL Lv d = if IsCut D.length (pad D) d ∧ 0 < W4 D N k d then some (.bool true) else none
  nd : (Lv.map (·.1)).Nodup
variable {k : Nat} {Z A A' : List (List Int)} {c : List Int} {W Lt Lv : Ents}
theorem RoundI.step (r : RoundI D N K k Z c A W Lt) (hc : IsCut D.length (pad D) c) (hs : dsum D c = k) {d0 : List Int} (hd : IsCut D.length (pad D) d0) (hds : dsum D d0 = k + 1) (hn : d0 ∉ A) (hA : ∀ d, d ∈ A' ↔ d = d0 ∨ d ∈ A) :
    RoundI D N K k Z c A' (setL W d0 (.int .i64 (IntKind.wrap .i64 (gI W d0 + gI W c)))) (setL Lt d0 (.bool true)) := by
  refine ⟨setL_keys4 r.w4 hd.len, int_set r.wi _ _, setL_keys4 r.l4 hd.len, fun d h1 h2 => ?_, fun d h1 h2 => ?_, fun d h1 h2 => ?_, fun d => ?_, (set_keys r.nd).1⟩
  · rw [gI_set, if_neg (by rintro rfl; omega)]; exact r.old d h1 h2
  · rw [gI_set]
    by_cases e : d0 = d
    · subst e
      rw [if_pos rfl, r.new _ h1 h2, r.old c hc hs, wrap_add, if_neg hn, if_pos ((hA _).2 (.inl rfl))]
      simp
    · rw [if_neg e, r.new d h1 h2]
      have : d ∈ A' ↔ d ∈ A := by rw [hA]; exact ⟨fun h => h.resolve_left (fun x => e x.symm), .inr⟩
      simp only [this]
  · rw [gI_set, if_neg (by rintro rfl; omega)]; exact r.far d h1 h2
  · rw [lk_set]
    by_cases e : d0 = d
    · subst e
      rw [if_pos rfl, if_pos (.inr ((hA _).2 (.inl rfl)))]
    · rw [if_neg e, r.lt d]
      have : d ∈ A' ↔ d ∈ A := by rw [hA]; exact ⟨fun h => h.resolve_left (fun x => e x.symm), .inr⟩
      simp only [this]
theorem RoundI.done (r : RoundI D N K k Z c (nx4 D K c) W Lt) (c' : List Int) : RoundI D N K k (c :: Z) c' [] W Lt := by
  refine ⟨r.w4, r.wi, r.l4, r.old, fun d h1 h2 => ?_, r.far, fun d => ?_, r.nd⟩
  · rw [r.new d h1 h2, sumZ_cons]; simp
  · rw [r.lt d]
    have : ((∃ x ∈ c :: Z, d ∈ nx4 D K x) ∨ d ∈ []) ↔ ((∃ c ∈ Z, d ∈ nx4 D K c) ∨ d ∈ nx4 D K c) := by
      simp only [List.mem_cons, List.not_mem_nil, or_false]
      constructor
      · rintro ⟨x, rfl | hx, h⟩
        · exact .inr h
        · exact .inl ⟨x, hx, h⟩
      · rintro (⟨x, hx, h⟩ | h)
        · exact ⟨x, .inr hx, h⟩
        · exact ⟨c, .inl rfl, h⟩
    simp only [this]
theorem LevelI.start (l : LevelI D N K k W Lv) (c : List Int) : RoundI D N K k [] c [] W [] :=
  ⟨l.w4, l.wi, (fun _ h => by cases h), l.old, fun d h1 h2 => by rw [l.far d h1 (by omega)]; simp [sumZ_nil, wrap_z], fun d h1 h2 => l.far d h1 (by omega), fun d => by simp [lkL], List.nodup_nil⟩
theorem LevelI.mem (l : LevelI D N K k W Lv) (c : List Int) : c ∈ Lv.map (·.1) ↔ IsCut D.length (pad D) c ∧ 0 < W4 D N k c := by
  rw [lk_mem, l.lv]
  split <;> simp_all
theorem sum_pos {α : Type} {f : α → Nat} : ∀ {l : List α}, (∀ x ∈ l, 0 < f x) → (0 < (l.map f).sum ↔ ∃ x, x ∈ l)
  | [], _ => by simp
  | x :: l, h => by
    have := h x (by simp)
    rw [List.map_cons, List.sum_cons]
    exact ⟨fun _ => ⟨x, by simp⟩, fun _ => by omega⟩
theorem LevelI.next (kk : Clocks D N K) (l : LevelI D N K k W Lv) {W' : Ents} {Z : List (List Int)} {c : List Int} (hZ : Z.Nodup) (hm : ∀ x, x ∈ Z ↔ x ∈ Lv.map (·.1)) (r : RoundI D N K k Z c [] W' Lt) : LevelI D N K (k + 1) W' Lt := by
  have hI : ∀ c ∈ Z, IsCut D.length (pad D) c := fun c hc => ((l.mem c).1 ((hm c).1 hc)).1
  have hsum : ∀ {d}, IsCut D.length (pad D) d → sumZ D N K k Z d = W4 D N (k + 1) d := fun {d} hd => sumZ_level kk k hZ hI (fun c hc => by rw [hm, l.mem]; exact ⟨fun h => h.2, fun h => ⟨hc, h⟩⟩) hd
  refine ⟨r.w4, r.wi, r.l4, fun d h1 h2 => ?_, fun d h1 h2 => r.far d h1 (by simpa using h2), fun d => ?_, r.nd⟩
  · rw [r.new d h1 (by simpa using h2), hsum h1]; simp
  · rw [r.lt d]
    have : ((∃ c ∈ Z, d ∈ nx4 D K c) ∨ d ∈ []) ↔ (IsCut D.length (pad D) d ∧ 0 < W4 D N (k + 1) d) := by
      simp only [List.not_mem_nil, or_false]
      constructor
      · rintro ⟨x, hx, h⟩
        have hd := (nx_is kk (hI x hx) h).1
        refine ⟨hd, ?_⟩
        rw [← hsum hd, sumZ, sum_pos (fun y hy => ((l.mem y).1 ((hm y).1 (List.mem_filter.1 hy).1)).2)]
        exact ⟨x, List.mem_filter.2 ⟨hx, by simpa using h⟩⟩
      · rintro ⟨hd, h⟩
        rw [← hsum hd, sumZ, sum_pos (fun y hy => ((l.mem y).1 ((hm y).1 (List.mem_filter.1 hy).1)).2)] at h
        obtain ⟨x, hx⟩ := h
        rw [List.mem_filter] at hx
        exact ⟨x, hx.1, by simpa using hx.2⟩
    simp only [this]
theorem isCut_zero (P : Pre D N) : IsCut D.length (pad D) [0, 0, 0, 0] := by
  have hz : ∀ h, nth [0, 0, 0, 0] h = 0 := fun h => by
    match h with
    | 0 | 1 | 2 | 3 => rfl
    | _ + 4 => rfl
  exact ⟨rfl, fun h => by rw [hz]; exact Int.le_refl _, fun h => by rw [hz, nth_pad]; exact P.L.lo h⟩
theorem isCut_pad (P : Pre D N) : IsCut D.length (pad D) (pad D) := ⟨pad_len P.L.n4, fun h => by rw [nth_pad]; exact P.L.lo h, fun h => Int.le_refl _⟩
theorem pad_takeD (D : List Int) : (pad D).take D.length = D := by simp [pad]
theorem LevelI.zero (P : Pre D N) : LevelI D N K 0 [([0, 0, 0, 0], .int .i64 1)] [([0, 0, 0, 0], .bool true)] := by
  have hz : ([0, 0, 0, 0] : List Int).take D.length = List.replicate D.length 0 := by
    have h4 := P.L.n4
    match h : D.length, h4 with
    | 0, _ | 1, _ | 2, _ | 3, _ | 4, _ => rfl
  have hw : ∀ d, IsCut D.length (pad D) d → (W4 D N 0 d = if d = [0, 0, 0, 0] then 1 else 0) := by
    intro d hd
    rw [W4, ways_zero]
    by_cases e : d = [0, 0, 0, 0]
    · subst e; rw [if_pos hz, if_pos rfl]
    · rw [if_neg e, if_neg]
      intro h
      exact e (isCut_inj hd (isCut_zero P) (h.trans hz.symm))
  refine ⟨fun e he => by simp at he; subst he; rfl, fun d v h => ?_, fun e he => by simp at he; subst he; rfl, fun d h1 h2 => ?_, fun d h1 h2 => ?_, fun d => ?_, by simp⟩
  · simp only [lkL] at h
    split at h
    · cases h; exact ⟨1, rfl⟩
    · cases h
  · rw [hw d h1]
    simp only [gI, lkL]
    by_cases e : d = [0, 0, 0, 0]
    · subst e; rfl
    · have e' : ¬ [0, 0, 0, 0] = d := fun x => e x.symm
      rw [if_neg e, if_neg e']; simp [wrap_z]
  · simp only [gI, lkL]
    rw [if_neg]
    rintro rfl
    rw [dsum, hz] at h2
    have : ∀ n : Nat, (List.replicate n (0 : Int)).sum = 0 := fun n => by induction n <;> simp_all [List.replicate_succ]
    rw [this] at h2
    omega
  · simp only [lkL]
    by_cases e : [0, 0, 0, 0] = d
    · subst e
      rw [if_pos rfl, if_pos ⟨isCut_zero P, by rw [hw _ (isCut_zero P)]; simp⟩]
    · rw [if_neg e, if_neg]
      rintro ⟨h1, h2⟩
      rw [hw d h1, if_neg (fun x => e x.symm)] at h2
      omega
theorem LevelI.stop (P : Pre D N) (r : Reach D N D) (l : LevelI D N K k W Lv) : lkL Lv (pad D) = if (k : Int) = D.sum then some (.bool true) else none := by
  rw [l.lv, W4, pad_takeD]
  by_cases e : (k : Int) = D.sum
  · rw [if_pos e, if_pos ⟨isCut_pad P, by
      have := ways_pos P r
      rwa [← e, Int.toNat_natCast] at this⟩]
  · rw [if_neg e, if_neg]
    rintro ⟨_, h⟩
    exact e (ways_sum P.L h).symm
end
end Go.Proofs.Ytdkmepjedjclkaa

/-
  BODIES OF FUNCTIONS OF THE PROGRAM AS SMALL OPERATIONS (written by gen.py; checked by the kernel against the program). Conditions: none.
-/
namespace Go.Proofs.Ytdkmepjedjclkaa
open Go.AM
open Go.Proofs.Try (prog)
set_option maxRecDepth 100000
set_option linter.all false
namespace stitch_Ways_1
noncomputable section
variable (K : List Item) (s : St)
def b : Code := (Try.f83.body).getD .skip
theorem hf : prog.funcs[83]? = some Try.f83 := by kernel_rfl
def r0 := findReg b 0
def r1 := findReg b 1
def r2 := findReg b 2
def i0 := findCond b 0
def i0t := thenOf i0
def i0e := elseOf i0
def r3 := findReg b 3
def r4 := findReg b 4
def r5 := findReg b 5
def k0 := findBlk b 0
def l0 := loopOf k0
def L0 (x0 x1 x2 x3 x8 x22 x23 : AV) (m : Mem) (K : List Item) : Option Res := den prog ann 83 (.code l0 :: .inLoop l0 :: .inBlock 0 :: K) ⟨[(0, x0), (1, x1), (2, x2), (3, x3), (8, x8), (22, x22), (23, x23)], 48, m⟩
def r6 := findReg b 6
def i1 := findCond b 1
def i1t := thenOf i1
def i1e := elseOf i1
def k1 := findBlk b 1
def r7 := findReg b 7
def r8 := findReg b 8
def r9 := findReg b 9
def i2 := findCond b 2
def i2t := thenOf i2
def i2e := elseOf i2
def r10 := findReg b 10
def r11 := findReg b 11
def r12 := findReg b 12
def r13 := findReg b 13
theorem b_eq : den prog ann 83 (.code b :: K) s = den prog ann 83 (.code r0 :: .code r1 :: .code r2 :: .code i0 :: .code r4 :: .code r5 :: .code k0 :: .code r12 :: .code r13 :: .code .ret :: K) s := den_flat hf (l := [r0, r1, r2, i0, r4, r5, k0, r12, r13, .ret]) (by kernel_rfl) K s
theorem r0_eq : den prog ann 83 (.code r0 :: K) s = mreg prog ann 83 none [] none [] [qF 5 fun s => some (.int .i64 0)] K s := (den_reg hf _ K s).trans (by kernel_rfl)
theorem r1_eq : den prog ann 83 (.code r1 :: K) s = mreg prog ann 83 none [] none [] [qF 12 fun s => loadA false 1 s.m (s.get 1),qC 13 0,qF 14 fun s => lookP prog s.m 9 (.int .i64 0) (s.get 12) (s.get 13) true,qC 11 14,qF 15 fun s => extA (s.get 11) 0,qF 16 fun s => extA (s.get 11) 1,qC 6 15,qC 7 16] K s := (den_reg hf _ K s).trans (by kernel_rfl)
theorem r2_eq : den prog ann 83 (.code r2 :: K) s = mreg prog ann 83 none [] none [] [qC 17 7] K s := (den_reg hf _ K s).trans (by kernel_rfl)
theorem i0_eq : den prog ann 83 (.code i0 :: K) s = ifV prog ann 83 17 i0t i0e K s (s.get 17) := den_if hf (by kernel_rfl) K s
theorem i0t_eq : den prog ann 83 (.code i0t :: K) s = den prog ann 83 (.code r3 :: .code .ret :: K) s := den_flat hf (l := [r3, .ret]) (by kernel_rfl) K s
theorem r3_eq : den prog ann 83 (.code r3 :: K) s = mreg prog ann 83 none [] none [] [qC 18 6,qC 5 18] K s := (den_reg hf _ K s).trans (by kernel_rfl)
theorem i0e_eq : den prog ann 83 (.code i0e :: K) s = den prog ann 83 (K) s := den_flat hf (l := []) (by kernel_rfl) K s
theorem r4_eq : den prog ann 83 (.code r4 :: K) s = mreg prog ann 83 none [] none [] [qF 8 fun s => some (.int .i64 0)] K s := (den_reg hf _ K s).trans (by kernel_rfl)
theorem r5_eq : den prog ann 83 (.code r5 :: K) s = mreg prog ann 83 none [] none [] [qF 19 fun s => loadA false 1 s.m (s.get 2),qA 20 nilA 19,qA 21 (fieldA 0) 20,qF 22 fun s => loadA false 1 s.m (s.get 21),qF 23 fun s => some (.int .i64 0)] K s := (den_reg hf _ K s).trans (by kernel_rfl)
theorem k0_eq (K : List Item) (t : List (Nat × AV)) (m : Mem) : den prog ann 83 (.code k0 :: K) ⟨t, 48, m⟩ = L0 (get t 0) (get t 1) (get t 2) (get t 3) (get t 8) (get t 22) (get t 23) m K := den_loop_enter hf (b := l0) (id := 6) (l := [0, 1, 2, 3, 8, 22, 23]) (by kernel_rfl) (by kernel_rfl) (by kernel_rfl) K _
theorem l0_eq (K : List Item) (t : List (Nat × AV)) (m : Mem) : den prog ann 83 (.inLoop l0 :: .inBlock 0 :: K) ⟨t, 48, m⟩ = L0 (get t 0) (get t 1) (get t 2) (get t 3) (get t 8) (get t 22) (get t 23) m K := den_loop_again hf (id := 6) (l := [0, 1, 2, 3, 8, 22, 23]) (by kernel_rfl) (by kernel_rfl) (.inBlock 0 :: K) _
theorem L0_eq (x0 x1 x2 x3 x8 x22 x23 : AV) (m : Mem) (K : List Item) : L0 x0 x1 x2 x3 x8 x22 x23 m K = den prog ann 83 (.code r6 :: .code i1 :: .code k1 :: .code r11 :: .inLoop l0 :: .inBlock 0 :: K) ⟨[(0, x0), (1, x1), (2, x2), (3, x3), (8, x8), (22, x22), (23, x23)], 48, m⟩ := den_flat hf (l := [r6, i1, k1, r11]) (by kernel_rfl) _ _
theorem r6_eq : den prog ann 83 (.code r6 :: K) s = mreg prog ann 83 (some [0, 1, 2, 3, 8, 22, 23]) [] none [] [qB 24 (binA prog .lss 3) 23 22] K s := (den_reg hf _ K s).trans (by kernel_rfl)
theorem i1_eq : den prog ann 83 (.code i1 :: K) s = ifV prog ann 83 24 i1t i1e K s (s.get 24) := den_if hf (by kernel_rfl) K s
theorem i1t_eq : den prog ann 83 (.code i1t :: K) s = den prog ann 83 (K) s := den_flat hf (l := []) (by kernel_rfl) K s
theorem i1e_eq : den prog ann 83 (.code i1e :: K) s = den prog ann 83 (.code (.exit 0) :: K) s := den_flat hf (l := [(.exit 0)]) (by kernel_rfl) K s
theorem k1_eq : den prog ann 83 (.code k1 :: K) s = den prog ann 83 (.code r7 :: .code r8 :: .code r9 :: .code i2 :: .inBlock 1 :: K) s := den_blk hf (b := blkOf k1) (l := [r7, r8, r9, i2]) (by kernel_rfl) (by kernel_rfl) K s
theorem r7_eq : den prog ann 83 (.code r7 :: K) s = mreg prog ann 83 none [] none [] [qC 25 23,qC 9 25] K s := (den_reg hf _ K s).trans (by kernel_rfl)
theorem r8_eq : den prog ann 83 (.code r8 :: K) s = mreg prog ann 83 none [] none [] [qF 26 fun s => loadA false 1 s.m (s.get 2),qC 27 0,qC 28 9,qA 29 (convInt .u8) 28,qA 30 (binA prog .add 5 (.int .u8 97)) 29,⟨some 31, none, .c 0 (fun s => (.fn 84 [] [])) fun s => [(s.get 26), (s.get 27), (s.get 30)]⟩,qC 10 31] K s := (den_reg hf _ K s).trans (by kernel_rfl)
theorem r9_eq : den prog ann 83 (.code r9 :: K) s = mreg prog ann 83 none [] none [] [qC 32 10,qF 33 fun s => binA prog .geq 3 (s.get 32) (.int .i64 0)] K s := (den_reg hf _ K s).trans (by kernel_rfl)
theorem i2_eq : den prog ann 83 (.code i2 :: K) s = ifV prog ann 83 33 i2t i2e K s (s.get 33) := den_if hf (by kernel_rfl) K s
theorem i2t_eq : den prog ann 83 (.code i2t :: K) s = den prog ann 83 (.code r10 :: K) s := den_flat hf (l := [r10]) (by kernel_rfl) K s
theorem r10_draw : drawOk (fun g => (ann g).pure) (modeOf (ann 83) (idOf r10)) (frzOf (ann 83) (idOf r10)) (opsOf r10) = true := drawOk_of (an := [0, 0, 0, 0, 0, 24, 60, 126, 255, 511]) (by kernel_rfl) (by kernel_rfl)
theorem r10_eq : den prog ann 83 (.code r10 :: K) s = mreg prog ann 83 none [] (some 10) [] [qC 34 8,qF 35 fun s => loadA false 1 s.m (s.get 3),qF 36 fun s => loadA false 1 s.m (s.get 2),qC 37 0,qC 38 10,⟨some 39, none, .c 0 (fun s => (.fn 86 [] [])) fun s => [(s.get 37), (s.get 38)]⟩,⟨some 40, none, .c 0 (fun s => (.fn 85 [] [])) fun s => [(s.get 36), (s.get 39)]⟩,⟨some 41, none, .c 0 (fun s => (s.get 35)) fun s => [(s.get 40)]⟩,qB 42 (binA prog .add 3) 34 41,qC 8 42] K s := (den_regD hf r10_draw K s).trans (by kernel_rfl)
theorem i2e_eq : den prog ann 83 (.code i2e :: K) s = den prog ann 83 (K) s := den_flat hf (l := []) (by kernel_rfl) K s
theorem r11_eq : den prog ann 83 (.code r11 :: K) s = mreg prog ann 83 (some [0, 1, 2, 3, 8, 22, 23]) [] none [] [qF 43 fun s => binA prog .add 3 (s.get 23) (.int .i64 1),qC 23 43] K s := (den_reg hf _ K s).trans (by kernel_rfl)
theorem r12_eq : den prog ann 83 (.code r12 :: K) s = mreg prog ann 83 (some [0, 1, 8]) [] none [] [qF 44 fun s => loadA false 1 s.m (s.get 1),qC 45 0,qC 46 8,⟨none, none, .w false none fun s => updM prog s.m 9 (s.get 44) (s.get 45) (s.get 46)⟩] K s := (den_reg hf _ K s).trans (by kernel_rfl)
theorem r13_eq : den prog ann 83 (.code r13 :: K) s = mreg prog ann 83 none [] none [] [qC 47 8,qC 5 47] K s := (den_reg hf _ K s).trans (by kernel_rfl)
theorem ret_eq : den prog ann 83 (.code .ret :: K) s = finM false [fun s => some (s.get 5)] s := (den_ret hf K s).trans (by kernel_rfl)
theorem nil_eq (s : St) : den prog ann 83 [] s = finM false [fun s => some (s.get 5)] s := (den_nil hf s).trans (by kernel_rfl)
theorem inBlock_eq (id : Nat) (K : List Item) (s : St) : den prog ann 83 (.inBlock id :: K) s = den prog ann 83 K s := den_inBlock hf id K s
theorem exit_eq (id : Nat) (K : List Item) (s : St) : den prog ann 83 (.code (.exit id) :: K) s = exitV prog ann 83 (exitTo id K) s := den_exitV hf id K s
theorem call_eq (v0 v1 v2 v3 : AV) (m : Mem) : denC prog ann 83 [v0, v1, v2, v3] m = den prog ann 83 [.code b] ⟨[(0, v0), (1, v1), (2, v2), (3, v3)], 48, m⟩ := (denC_impure hf (b := b) (by kernel_rfl) (by kernel_rfl) (by kernel_rfl) m).trans (by kernel_rfl)
theorem pure_eq : (ann 83).pure = false := by kernel_rfl
attribute [simp] b_eq r0_eq r1_eq r2_eq i0_eq i0t_eq r3_eq i0e_eq r4_eq r5_eq k0_eq l0_eq r6_eq i1_eq i1t_eq i1e_eq k1_eq r7_eq r8_eq r9_eq i2_eq i2t_eq r10_eq i2e_eq r11_eq r12_eq r13_eq ret_eq nil_eq inBlock_eq exit_eq pure_eq
end
end stitch_Ways_1
namespace stitch_Ways
noncomputable section
variable (K : List Item) (s : St)
def b : Code := (Try.f51.body).getD .skip
theorem hf : prog.funcs[51]? = some Try.f51 := by kernel_rfl
def r0 := findReg b 0
def r1 := findReg b 1
def r2 := findReg b 2
def i0 := findCond b 0
def i0t := thenOf i0
def i0e := elseOf i0
def r3 := findReg b 3
def r4 := findReg b 4
def r5 := findReg b 5
def r6 := findReg b 6
def r7 := findReg b 7
theorem b_eq : den prog ann 51 (.code b :: K) s = den prog ann 51 (.code r0 :: .code r1 :: .code r2 :: .code i0 :: .code r4 :: .code r5 :: .code r6 :: .code r7 :: .code .ret :: K) s := den_flat hf (l := [r0, r1, r2, i0, r4, r5, r6, r7, .ret]) (by kernel_rfl) K s
theorem r0_eq : den prog ann 51 (.code r0 :: K) s = mreg prog ann 51 none [] none [] [qF 6 fun s => some (.int .i64 0),qF 7 fun s => some (.int .i64 0)] K s := (den_reg hf _ K s).trans (by kernel_rfl)
theorem r1_eq : den prog ann 51 (.code r1 :: K) s = mreg prog ann 51 none [] none [8] [qC 13 0,qC 14 1,qC 15 2,qF 16 fun s => bslF 1 (bslA 1 1 [.str []] [(0, (s.get 15))]),⟨some 17, none, .c 2 (fun s => (.fn 82 [] [])) fun s => [(s.get 13), (s.get 14), (.int .i64 16), (s.get 16)]⟩,qC 12 17,qF 18 fun s => extA (s.get 12) 0,qF 19 fun s => extA (s.get 12) 1,⟨some 8, none, .w false none fun s => newPtr s.m [.nilp]⟩,⟨none, none, .w false none fun s => stA false 1 s.m (s.get 8) (s.get 18)⟩,qC 9 19] K s := (den_reg hf _ K s).trans (by kernel_rfl)
theorem r2_eq : den prog ann 51 (.code r2 :: K) s = mreg prog ann 51 none [] none [] [qC 20 9,qF 21 fun s => binA prog .neq 27 (s.get 20) (.int .i64 0)] K s := (den_reg hf _ K s).trans (by kernel_rfl)
theorem i0_eq : den prog ann 51 (.code i0 :: K) s = ifV prog ann 51 21 i0t i0e K s (s.get 21) := den_if hf (by kernel_rfl) K s
theorem i0t_eq : den prog ann 51 (.code i0t :: K) s = den prog ann 51 (.code r3 :: .code .ret :: K) s := den_flat hf (l := [r3, .ret]) (by kernel_rfl) K s
theorem r3_eq : den prog ann 51 (.code r3 :: K) s = mreg prog ann 51 none [] none [] [qC 22 9,qF 6 fun s => some (.int .i64 0),qC 7 22] K s := (den_reg hf _ K s).trans (by kernel_rfl)
theorem i0e_eq : den prog ann 51 (.code i0e :: K) s = den prog ann 51 (K) s := den_flat hf (l := []) (by kernel_rfl) K s
theorem r4_eq : den prog ann 51 (.code r4 :: K) s = mreg prog ann 51 none [] none [10] [⟨some 23, none, .w false none fun s => some (.map s.m.nx, s.m.new (.map 0 [] []))⟩,⟨none, none, .w false none fun s => updM prog s.m 9 (s.get 23) (.str []) (.int .i64 1)⟩,qC 24 23,⟨some 10, none, .w false none fun s => newPtr s.m [.nilm]⟩,⟨none, none, .w false none fun s => stA false 1 s.m (s.get 10) (s.get 24)⟩] K s := (den_reg hf _ K s).trans (by kernel_rfl)
theorem r5_eq : den prog ann 51 (.code r5 :: K) s = mreg prog ann 51 none [] none [] [⟨some 11, none, .w false none fun s => newPtr s.m [.nilf]⟩] K s := (den_reg hf _ K s).trans (by kernel_rfl)
theorem r6_eq : den prog ann 51 (.code r6 :: K) s = mreg prog ann 51 none [] none [] [qF 25 fun s => some (.fn 83 [] [(s.get 10), (s.get 8), (s.get 11)]),⟨none, none, .w false none fun s => stA false 1 s.m (s.get 11) (s.get 25)⟩] K s := (den_reg hf _ K s).trans (by kernel_rfl)
theorem r7_draw : drawOk (fun g => (ann g).pure) (modeOf (ann 51) (idOf r7)) (frzOf (ann 51) (idOf r7)) (opsOf r7) = true := drawOk_of (an := [0, 0, 0, 6, 15, 31, 63]) (by kernel_rfl) (by kernel_rfl)
theorem r7_eq : den prog ann 51 (.code r7 :: K) s = mreg prog ann 51 none [] (some 7) [] [qF 26 fun s => loadA false 1 s.m (s.get 11),qA 27 (loadF false 1) 8,qC 28 2,⟨some 29, none, .c 0 (fun s => (.fn 85 [] [])) fun s => [(s.get 27), (s.get 28)]⟩,⟨some 30, none, .c 0 (fun s => (s.get 26)) fun s => [(s.get 29)]⟩,qC 6 30,qF 7 fun s => some (.int .i64 0)] K s := (den_regD hf r7_draw K s).trans (by kernel_rfl)
theorem ret_eq : den prog ann 51 (.code .ret :: K) s = finM true [fun s => some (s.get 6), fun s => some (s.get 7)] s := (den_ret hf K s).trans (by kernel_rfl)
theorem nil_eq (s : St) : den prog ann 51 [] s = finM true [fun s => some (s.get 6), fun s => some (s.get 7)] s := (den_nil hf s).trans (by kernel_rfl)
theorem inBlock_eq (id : Nat) (K : List Item) (s : St) : den prog ann 51 (.inBlock id :: K) s = den prog ann 51 K s := den_inBlock hf id K s
theorem exit_eq (id : Nat) (K : List Item) (s : St) : den prog ann 51 (.code (.exit id) :: K) s = exitV prog ann 51 (exitTo id K) s := den_exitV hf id K s
theorem call_eq (v0 v1 v2 : AV) (m : Mem) (h : closedL [v0, v1, v2] = true) : denC prog ann 51 [v0, v1, v2] m = (den prog ann 51 [.code b] ⟨[(0, v0), (1, v1), (2, v2)], 31, Mem.empty⟩).bind fun r => some (r.1, m) := (denC_pure hf (b := b) (by kernel_rfl) (by kernel_rfl) (by kernel_rfl) h m).trans (by kernel_rfl)
theorem pure_eq : (ann 51).pure = true := by kernel_rfl
attribute [simp] b_eq r0_eq r1_eq r2_eq i0_eq i0t_eq r3_eq i0e_eq r4_eq r5_eq r6_eq r7_eq ret_eq nil_eq inBlock_eq exit_eq pure_eq
end
end stitch_Ways
namespace stitch_Meet
noncomputable section
variable (K : List Item) (s : St)
def b : Code := (Try.f53.body).getD .skip
theorem hf : prog.funcs[53]? = some Try.f53 := by kernel_rfl
def r0 := findReg b 0
def r1 := findReg b 1
def r2 := findReg b 2
def i0 := findCond b 0
def i0t := thenOf i0
def i0e := elseOf i0
def r3 := findReg b 3
def r4 := findReg b 4
def r5 := findReg b 5
theorem b_eq : den prog ann 53 (.code b :: K) s = den prog ann 53 (.code r0 :: .code r1 :: .code r2 :: .code i0 :: .code r4 :: .code r5 :: .code .ret :: K) s := den_flat hf (l := [r0, r1, r2, i0, r4, r5, .ret]) (by kernel_rfl) K s
theorem r0_eq : den prog ann 53 (.code r0 :: K) s = mreg prog ann 53 none [] none [] [qF 8 fun s => some (.str []),qF 9 fun s => some (.int .i64 0)] K s := (den_reg hf _ K s).trans (by kernel_rfl)
theorem r1_eq : den prog ann 53 (.code r1 :: K) s = mreg prog ann 53 none [] none [] [qC 16 0,qC 17 1,qC 18 2,qC 19 3,qF 20 fun s => bslF 2 (bslA 1 2 [.str []] [(0, (s.get 18)), (1, (s.get 19))]),⟨some 21, none, .c 2 (fun s => (.fn 82 [] [])) fun s => [(s.get 16), (s.get 17), (.int .i64 40), (s.get 20)]⟩,qC 15 21,qF 22 fun s => extA (s.get 15) 0,qF 23 fun s => extA (s.get 15) 1,qC 10 22,qC 11 23] K s := (den_reg hf _ K s).trans (by kernel_rfl)
theorem r2_eq : den prog ann 53 (.code r2 :: K) s = mreg prog ann 53 none [] none [] [qC 24 11,qF 25 fun s => binA prog .neq 27 (s.get 24) (.int .i64 0)] K s := (den_reg hf _ K s).trans (by kernel_rfl)
theorem i0_eq : den prog ann 53 (.code i0 :: K) s = ifV prog ann 53 25 i0t i0e K s (s.get 25) := den_if hf (by kernel_rfl) K s
theorem i0t_eq : den prog ann 53 (.code i0t :: K) s = den prog ann 53 (.code r3 :: .code .ret :: K) s := den_flat hf (l := [r3, .ret]) (by kernel_rfl) K s
theorem r3_eq : den prog ann 53 (.code r3 :: K) s = mreg prog ann 53 none [] none [] [qC 26 11,qF 8 fun s => some (.str []),qC 9 26] K s := (den_reg hf _ K s).trans (by kernel_rfl)
theorem i0e_eq : den prog ann 53 (.code i0e :: K) s = den prog ann 53 (K) s := den_flat hf (l := []) (by kernel_rfl) K s
theorem r4_eq : den prog ann 53 (.code r4 :: K) s = mreg prog ann 53 none [] none [] [qC 28 10,qC 29 2,qC 30 3,⟨some 31, none, .c 0 (fun s => (.fn 87 [] [])) fun s => [(s.get 28), (s.get 29), (s.get 30)]⟩,qC 27 31,qF 32 fun s => extA (s.get 27) 0,qF 33 fun s => extA (s.get 27) 1,qF 34 fun s => extA (s.get 27) 2,qC 12 32,qC 13 33,qC 14 34] K s := (den_reg hf _ K s).trans (by kernel_rfl)
theorem r5_eq : den prog ann 53 (.code r5 :: K) s = mreg prog ann 53 none [] none [] [qC 35 10,qC 36 12,⟨some 37, none, .c 0 (fun s => (.fn 85 [] [])) fun s => [(s.get 35), (s.get 36)]⟩,qC 8 37,qF 9 fun s => some (.int .i64 0)] K s := (den_reg hf _ K s).trans (by kernel_rfl)
theorem ret_eq : den prog ann 53 (.code .ret :: K) s = finM true [fun s => some (s.get 8), fun s => some (s.get 9)] s := (den_ret hf K s).trans (by kernel_rfl)
theorem nil_eq (s : St) : den prog ann 53 [] s = finM true [fun s => some (s.get 8), fun s => some (s.get 9)] s := (den_nil hf s).trans (by kernel_rfl)
theorem inBlock_eq (id : Nat) (K : List Item) (s : St) : den prog ann 53 (.inBlock id :: K) s = den prog ann 53 K s := den_inBlock hf id K s
theorem exit_eq (id : Nat) (K : List Item) (s : St) : den prog ann 53 (.code (.exit id) :: K) s = exitV prog ann 53 (exitTo id K) s := den_exitV hf id K s
theorem call_eq (v0 v1 v2 v3 : AV) (m : Mem) (h : closedL [v0, v1, v2, v3] = true) : denC prog ann 53 [v0, v1, v2, v3] m = (den prog ann 53 [.code b] ⟨[(0, v0), (1, v1), (2, v2), (3, v3)], 38, Mem.empty⟩).bind fun r => some (r.1, m) := (denC_pure hf (b := b) (by kernel_rfl) (by kernel_rfl) (by kernel_rfl) h m).trans (by kernel_rfl)
theorem pure_eq : (ann 53).pure = true := by kernel_rfl
attribute [simp] b_eq r0_eq r1_eq r2_eq i0_eq i0t_eq r3_eq i0e_eq r4_eq r5_eq ret_eq nil_eq inBlock_eq exit_eq pure_eq
end
end stitch_Meet
namespace stitch_Join
noncomputable section
variable (K : List Item) (s : St)
def b : Code := (Try.f54.body).getD .skip
theorem hf : prog.funcs[54]? = some Try.f54 := by kernel_rfl
def r0 := findReg b 0
def r1 := findReg b 1
def r2 := findReg b 2
def i0 := findCond b 0
def i0t := thenOf i0
def i0e := elseOf i0
def r3 := findReg b 3
def r4 := findReg b 4
def r5 := findReg b 5
def k0 := findBlk b 0
def l0 := loopOf k0
def L0 (x10 x12 x13 x14 x38 x39 : AV) (m : Mem) (K : List Item) : Option Res := den prog ann 54 (.code l0 :: .inLoop l0 :: .inBlock 0 :: K) ⟨[(10, x10), (12, x12), (13, x13), (14, x14), (38, x38), (39, x39)], 64, m⟩
def r6 := findReg b 6
def i1 := findCond b 1
def i1t := thenOf i1
def i1e := elseOf i1
def k1 := findBlk b 1
def r7 := findReg b 7
def r8 := findReg b 8
def k2 := findBlk b 2
def l2 := loopOf k2
def L2 (x10 x12 x13 x14 x15 x38 x39 x43 x44 : AV) (m : Mem) (K : List Item) : Option Res := den prog ann 54 (.code l2 :: .inLoop l2 :: .inBlock 2 :: K) ⟨[(10, x10), (12, x12), (13, x13), (14, x14), (15, x15), (38, x38), (39, x39), (43, x43), (44, x44)], 64, m⟩
def r9 := findReg b 9
def i2 := findCond b 2
def i2t := thenOf i2
def i2e := elseOf i2
def k3 := findBlk b 3
def r10 := findReg b 10
def r11 := findReg b 11
def i3 := findCond b 3
def i3t := thenOf i3
def i3e := elseOf i3
def r12 := findReg b 12
def r13 := findReg b 13
def r14 := findReg b 14
def r15 := findReg b 15
theorem b_eq : den prog ann 54 (.code b :: K) s = den prog ann 54 (.code r0 :: .code r1 :: .code r2 :: .code i0 :: .code r4 :: .code r5 :: .code k0 :: .code r15 :: .code .ret :: K) s := den_flat hf (l := [r0, r1, r2, i0, r4, r5, k0, r15, .ret]) (by kernel_rfl) K s
theorem r0_eq : den prog ann 54 (.code r0 :: K) s = mreg prog ann 54 none [] none [] [qF 8 fun s => some (.str []),qF 9 fun s => some (.int .i64 0)] K s := (den_reg hf _ K s).trans (by kernel_rfl)
theorem r1_eq : den prog ann 54 (.code r1 :: K) s = mreg prog ann 54 none [] none [] [qC 18 0,qC 19 1,qC 20 2,qC 21 3,qF 22 fun s => bslF 2 (bslA 1 2 [.str []] [(0, (s.get 20)), (1, (s.get 21))]),⟨some 23, none, .c 2 (fun s => (.fn 82 [] [])) fun s => [(s.get 18), (s.get 19), (.int .i64 40), (s.get 22)]⟩,qC 17 23,qF 24 fun s => extA (s.get 17) 0,qF 25 fun s => extA (s.get 17) 1,qC 10 24,qC 11 25] K s := (den_reg hf _ K s).trans (by kernel_rfl)
theorem r2_eq : den prog ann 54 (.code r2 :: K) s = mreg prog ann 54 none [] none [] [qC 26 11,qF 27 fun s => binA prog .neq 27 (s.get 26) (.int .i64 0)] K s := (den_reg hf _ K s).trans (by kernel_rfl)
theorem i0_eq : den prog ann 54 (.code i0 :: K) s = ifV prog ann 54 27 i0t i0e K s (s.get 27) := den_if hf (by kernel_rfl) K s
theorem i0t_eq : den prog ann 54 (.code i0t :: K) s = den prog ann 54 (.code r3 :: .code .ret :: K) s := den_flat hf (l := [r3, .ret]) (by kernel_rfl) K s
theorem r3_eq : den prog ann 54 (.code r3 :: K) s = mreg prog ann 54 none [] none [] [qC 28 11,qF 8 fun s => some (.str []),qC 9 28] K s := (den_reg hf _ K s).trans (by kernel_rfl)
theorem i0e_eq : den prog ann 54 (.code i0e :: K) s = den prog ann 54 (K) s := den_flat hf (l := []) (by kernel_rfl) K s
theorem r4_eq : den prog ann 54 (.code r4 :: K) s = mreg prog ann 54 none [] none [] [qC 30 10,qC 31 2,qC 32 3,⟨some 33, none, .c 0 (fun s => (.fn 87 [] [])) fun s => [(s.get 30), (s.get 31), (s.get 32)]⟩,qC 29 33,qF 34 fun s => extA (s.get 29) 0,qF 35 fun s => extA (s.get 29) 1,qF 36 fun s => extA (s.get 29) 2,qC 12 34,qC 13 35,qC 14 36] K s := (den_reg hf _ K s).trans (by kernel_rfl)
theorem r5_eq : den prog ann 54 (.code r5 :: K) s = mreg prog ann 54 none [] none [] [qC 37 13,qA 38 lenStr 37,qF 39 fun s => some (.int .i64 0)] K s := (den_reg hf _ K s).trans (by kernel_rfl)
theorem k0_eq (K : List Item) (t : List (Nat × AV)) (m : Mem) : den prog ann 54 (.code k0 :: K) ⟨t, 64, m⟩ = L0 (get t 10) (get t 12) (get t 13) (get t 14) (get t 38) (get t 39) m K := den_loop_enter hf (b := l0) (id := 6) (l := [10, 12, 13, 14, 38, 39]) (by kernel_rfl) (by kernel_rfl) (by kernel_rfl) K _
theorem l0_eq (K : List Item) (t : List (Nat × AV)) (m : Mem) : den prog ann 54 (.inLoop l0 :: .inBlock 0 :: K) ⟨t, 64, m⟩ = L0 (get t 10) (get t 12) (get t 13) (get t 14) (get t 38) (get t 39) m K := den_loop_again hf (id := 6) (l := [10, 12, 13, 14, 38, 39]) (by kernel_rfl) (by kernel_rfl) (.inBlock 0 :: K) _
theorem L0_eq (x10 x12 x13 x14 x38 x39 : AV) (m : Mem) (K : List Item) : L0 x10 x12 x13 x14 x38 x39 m K = den prog ann 54 (.code r6 :: .code i1 :: .code k1 :: .code r14 :: .inLoop l0 :: .inBlock 0 :: K) ⟨[(10, x10), (12, x12), (13, x13), (14, x14), (38, x38), (39, x39)], 64, m⟩ := den_flat hf (l := [r6, i1, k1, r14]) (by kernel_rfl) _ _
theorem r6_eq : den prog ann 54 (.code r6 :: K) s = mreg prog ann 54 (some [10, 12, 13, 14, 38, 39]) [] none [] [qB 40 (binA prog .lss 3) 39 38] K s := (den_reg hf _ K s).trans (by kernel_rfl)
theorem i1_eq : den prog ann 54 (.code i1 :: K) s = ifV prog ann 54 40 i1t i1e K s (s.get 40) := den_if hf (by kernel_rfl) K s
theorem i1t_eq : den prog ann 54 (.code i1t :: K) s = den prog ann 54 (K) s := den_flat hf (l := []) (by kernel_rfl) K s
theorem i1e_eq : den prog ann 54 (.code i1e :: K) s = den prog ann 54 (.code (.exit 0) :: K) s := den_flat hf (l := [(.exit 0)]) (by kernel_rfl) K s
theorem k1_eq : den prog ann 54 (.code k1 :: K) s = den prog ann 54 (.code r7 :: .code r8 :: .code k2 :: .inBlock 1 :: K) s := den_blk hf (b := blkOf k1) (l := [r7, r8, k2]) (by kernel_rfl) (by kernel_rfl) K s
theorem r7_eq : den prog ann 54 (.code r7 :: K) s = mreg prog ann 54 none [] none [] [qC 41 39,qC 15 41] K s := (den_reg hf _ K s).trans (by kernel_rfl)
theorem r8_eq : den prog ann 54 (.code r8 :: K) s = mreg prog ann 54 none [] none [] [qC 42 14,qA 43 lenStr 42,qF 44 fun s => some (.int .i64 0)] K s := (den_reg hf _ K s).trans (by kernel_rfl)
theorem k2_eq (K : List Item) (t : List (Nat × AV)) (m : Mem) : den prog ann 54 (.code k2 :: K) ⟨t, 64, m⟩ = L2 (get t 10) (get t 12) (get t 13) (get t 14) (get t 15) (get t 38) (get t 39) (get t 43) (get t 44) m K := den_loop_enter hf (b := l2) (id := 9) (l := [10, 12, 13, 14, 15, 38, 39, 43, 44]) (by kernel_rfl) (by kernel_rfl) (by kernel_rfl) K _
theorem l2_eq (K : List Item) (t : List (Nat × AV)) (m : Mem) : den prog ann 54 (.inLoop l2 :: .inBlock 2 :: K) ⟨t, 64, m⟩ = L2 (get t 10) (get t 12) (get t 13) (get t 14) (get t 15) (get t 38) (get t 39) (get t 43) (get t 44) m K := den_loop_again hf (id := 9) (l := [10, 12, 13, 14, 15, 38, 39, 43, 44]) (by kernel_rfl) (by kernel_rfl) (.inBlock 2 :: K) _
theorem L2_eq (x10 x12 x13 x14 x15 x38 x39 x43 x44 : AV) (m : Mem) (K : List Item) : L2 x10 x12 x13 x14 x15 x38 x39 x43 x44 m K = den prog ann 54 (.code r9 :: .code i2 :: .code k3 :: .code r13 :: .inLoop l2 :: .inBlock 2 :: K) ⟨[(10, x10), (12, x12), (13, x13), (14, x14), (15, x15), (38, x38), (39, x39), (43, x43), (44, x44)], 64, m⟩ := den_flat hf (l := [r9, i2, k3, r13]) (by kernel_rfl) _ _
theorem r9_eq : den prog ann 54 (.code r9 :: K) s = mreg prog ann 54 (some [10, 12, 13, 14, 15, 38, 39, 43, 44]) [] none [] [qB 45 (binA prog .lss 3) 44 43] K s := (den_reg hf _ K s).trans (by kernel_rfl)
theorem i2_eq : den prog ann 54 (.code i2 :: K) s = ifV prog ann 54 45 i2t i2e K s (s.get 45) := den_if hf (by kernel_rfl) K s
theorem i2t_eq : den prog ann 54 (.code i2t :: K) s = den prog ann 54 (K) s := den_flat hf (l := []) (by kernel_rfl) K s
theorem i2e_eq : den prog ann 54 (.code i2e :: K) s = den prog ann 54 (.code (.exit 2) :: K) s := den_flat hf (l := [(.exit 2)]) (by kernel_rfl) K s
theorem k3_eq : den prog ann 54 (.code k3 :: K) s = den prog ann 54 (.code r10 :: .code r11 :: .code i3 :: .inBlock 3 :: K) s := den_blk hf (b := blkOf k3) (l := [r10, r11, i3]) (by kernel_rfl) (by kernel_rfl) K s
theorem r10_eq : den prog ann 54 (.code r10 :: K) s = mreg prog ann 54 none [] none [] [qC 46 44,qC 16 46] K s := (den_reg hf _ K s).trans (by kernel_rfl)
theorem r11_draw : drawOk (fun g => (ann g).pure) (modeOf (ann 54) (idOf r11)) (frzOf (ann 54) (idOf r11)) (opsOf r11) = true := drawOk_of (an := [0, 0, 0, 6, 0, 0, 48, 127]) (by kernel_rfl) (by kernel_rfl)
theorem r11_eq : den prog ann 54 (.code r11 :: K) s = mreg prog ann 54 none [] (some 8) [] [qC 47 10,qC 48 13,qC 49 15,qB 50 idxStr 48 49,qC 51 14,qC 52 16,qB 53 idxStr 51 52,⟨some 54, none, .c 0 (fun s => (.fn 88 [] [])) fun s => [(s.get 47), (s.get 50), (s.get 53)]⟩] K s := (den_regD hf r11_draw K s).trans (by kernel_rfl)
theorem i3_eq : den prog ann 54 (.code i3 :: K) s = ifV prog ann 54 54 i3t i3e K s (s.get 54) := den_if hf (by kernel_rfl) K s
theorem i3t_eq : den prog ann 54 (.code i3t :: K) s = den prog ann 54 (.code r12 :: .code .ret :: K) s := den_flat hf (l := [r12, .ret]) (by kernel_rfl) K s
theorem r12_eq : den prog ann 54 (.code r12 :: K) s = mreg prog ann 54 none [] none [] [qF 8 fun s => some (.str []),qF 9 fun s => some (.int .i64 5)] K s := (den_reg hf _ K s).trans (by kernel_rfl)
theorem i3e_eq : den prog ann 54 (.code i3e :: K) s = den prog ann 54 (K) s := den_flat hf (l := []) (by kernel_rfl) K s
theorem r13_eq : den prog ann 54 (.code r13 :: K) s = mreg prog ann 54 (some [10, 12, 13, 14, 15, 38, 39, 43, 44]) [] none [] [qF 55 fun s => binA prog .add 3 (s.get 44) (.int .i64 1),qC 44 55] K s := (den_reg hf _ K s).trans (by kernel_rfl)
theorem r14_eq : den prog ann 54 (.code r14 :: K) s = mreg prog ann 54 (some [10, 12, 13, 14, 38, 39]) [] none [] [qF 56 fun s => binA prog .add 3 (s.get 39) (.int .i64 1),qC 39 56] K s := (den_reg hf _ K s).trans (by kernel_rfl)
theorem r15_eq : den prog ann 54 (.code r15 :: K) s = mreg prog ann 54 (some [10, 12, 13, 14]) [] none [] [qC 57 10,qC 58 12,qC 59 13,qB 60 (binA prog .add 9) 58 59,qC 61 14,qB 62 (binA prog .add 9) 60 61,⟨some 63, none, .c 0 (fun s => (.fn 85 [] [])) fun s => [(s.get 57), (s.get 62)]⟩,qC 8 63,qF 9 fun s => some (.int .i64 0)] K s := (den_reg hf _ K s).trans (by kernel_rfl)
theorem ret_eq : den prog ann 54 (.code .ret :: K) s = finM true [fun s => some (s.get 8), fun s => some (s.get 9)] s := (den_ret hf K s).trans (by kernel_rfl)
theorem nil_eq (s : St) : den prog ann 54 [] s = finM true [fun s => some (s.get 8), fun s => some (s.get 9)] s := (den_nil hf s).trans (by kernel_rfl)
theorem inBlock_eq (id : Nat) (K : List Item) (s : St) : den prog ann 54 (.inBlock id :: K) s = den prog ann 54 K s := den_inBlock hf id K s
theorem exit_eq (id : Nat) (K : List Item) (s : St) : den prog ann 54 (.code (.exit id) :: K) s = exitV prog ann 54 (exitTo id K) s := den_exitV hf id K s
theorem call_eq (v0 v1 v2 v3 : AV) (m : Mem) (h : closedL [v0, v1, v2, v3] = true) : denC prog ann 54 [v0, v1, v2, v3] m = (den prog ann 54 [.code b] ⟨[(0, v0), (1, v1), (2, v2), (3, v3)], 64, Mem.empty⟩).bind fun r => some (r.1, m) := (denC_pure hf (b := b) (by kernel_rfl) (by kernel_rfl) (by kernel_rfl) h m).trans (by kernel_rfl)
theorem pure_eq : (ann 54).pure = true := by kernel_rfl
attribute [simp] b_eq r0_eq r1_eq r2_eq i0_eq i0t_eq r3_eq i0e_eq r4_eq r5_eq k0_eq l0_eq r6_eq i1_eq i1t_eq i1e_eq k1_eq r7_eq r8_eq k2_eq l2_eq r9_eq i2_eq i2t_eq i2e_eq k3_eq r10_eq r11_eq i3_eq i3t_eq r12_eq i3e_eq r13_eq r14_eq r15_eq ret_eq nil_eq inBlock_eq exit_eq pure_eq
end
end stitch_Join
end Go.Proofs.Ytdkmepjedjclkaa

/-
  SEAMS IN THE PROGRAM (6): how many seams are equal to one. Conditions: none.
-/
namespace Go.Proofs.Ytdkmepjedjclkaa
open Go.AM
open Go.Proofs.Try (prog)
set_option linter.all false
set_option maxRecDepth 100000
set_option maxHeartbeats 4000000
theorem eqv.perm {cm : Nat → Nat → Bool} (hi : ∀ a, cm a a = false) {u v : List Nat} (h : eqv cm u v) : u.Perm v := List.perm_iff_count.2 fun x => h.count hi x
def waysV (p : List (Nat × Nat)) (id cid : Nat) : AV := .fn 83 [] [.sptr [.map id], .fptr [thrV p], .ptr cid 0 1]
structure WInv (p : List (Nat × Nat)) (m : Mem) (M : EntS) (id cid : Nat) : Prop where
  mp : ∃ g, m.h id = some (.map g (keysS M) (valsS M))
  fn : m.h cid = some (.cells [waysV p id cid])
  ne : id ≠ cid
  l1 : id < m.nx
  l2 : cid < m.nx
  ok : ∀ w, W4L w → ∀ v, lkS M (strW w) = some v → v = .int .i64 (IntKind.wrap .i64 (cntE (com p) w : Int))
  e : lkS M [] ≠ none
theorem WInv.more {p : List (Nat × Nat)} {m : Mem} {M : EntS} {id cid : Nat} (c : WInv p m M id cid) {m' : Mem} (h : m'.h = m.h) (hn : m.nx ≤ m'.nx) : WInv p m' M id cid := by
  obtain ⟨g, a⟩ := c.mp
  exact ⟨⟨g, by rw [h]; exact a⟩, by rw [h]; exact c.fn, c.ne, Nat.lt_of_lt_of_le c.l1 hn, Nat.lt_of_lt_of_le c.l2 hn, c.ok, c.e⟩
theorem lookSok {L : EntS} {c : List UInt8} {m : Mem} {id g : Nat} (hm : m.h id = some (.map g (keysS L) (valsS L))) (z : AV) : lookP prog m 9 z (.map id) (.str c) true = some (match lkS L c with
    | some v => .tup [v, .bool true]
    | none => .tup [z, .bool false]) := by
  simp only [lookP, keyT9, cond_true, lookA, hm, findK9, Option.bind_some]
  cases lkS L c <;> rfl
section
variable {p : List (Nat × Nat)} {id cid : Nat}
noncomputable def fE (p : List (Nat × Nat)) (w : List Nat) (a : Nat) : Nat := match frontN (com p) w a with
  | some i => cntE (com p) (w.eraseIdx i)
  | none => 0
noncomputable def sE (p : List (Nat × Nat)) (w : List Nat) (a : Nat) : Nat := ((List.range a).map (fE p w)).sum
theorem sE_succ (w : List Nat) (a : Nat) : sE p w (a + 1) = sE p w a + fE p w a := by
  simp [sE, List.range_succ]
theorem ways_inner (g : GoodP p) {w : List Nat} (h4 : W4L w) (hl : w.length < 10000) (hne : w ≠ [])
    (rec : ∀ (u : List Nat) (m : Mem) (M : EntS), W4L u → u.length < w.length → WInv p m M id cid → ∃ m' M', denC prog ann 83 [.str (strW u), .sptr [.map id], .fptr [thrV p], .ptr cid 0 1] m = some (.int .i64 (IntKind.wrap .i64 (cntE (com p) u : Int)), m') ∧ WInv p m' M' id cid) :
    ∀ (k a : Nat) (m : Mem) (M : EntS), a + k = 4 → WInv p m M id cid →
    ∃ m' M', stitch_Ways_1.L0 (.str (strW w)) (.sptr [.map id]) (.fptr [thrV p]) (.ptr cid 0 1) (.int .i64 (IntKind.wrap .i64 (sE p w a : Int))) (.int .i64 4) (.int .i64 a) m [.code stitch_Ways_1.r12, .code stitch_Ways_1.r13, .code .ret] = some (.int .i64 (IntKind.wrap .i64 (cntE (com p) w : Int)), m') ∧ WInv p m' M' id cid := by
  intro k
  induction k with
  | zero =>
    intro a m M h1 inv
    have e : a = 4 := by omega
    subst e
    have hrec := cntE_rec (com_symm p) (com_irr g) hne
    have hs : sE p w 4 = cntE (com p) w := by rw [hrec]; rfl
    obtain ⟨gen, hm⟩ := inv.mp
    have hu := fun v => updS (c := strW w) (v := v) hm
    have n1 : (cid == id) = false := beq_eq_false_iff_ne.2 (fun e => inv.ne e.symm)
    refine ⟨⟨upd m.h id (some (.map (gen + 1) (keysS (setS M (strW w) (.int .i64 (IntKind.wrap .i64 (cntE (com p) w : Int))))) (valsS (setS M (strW w) (.int .i64 (IntKind.wrap .i64 (cntE (com p) w : Int))))))), m.nx⟩, setS M (strW w) (.int .i64 (IntKind.wrap .i64 (cntE (com p) w : Int))), ?_, ⟨⟨gen + 1, by simp⟩, by simp [n1, inv.fn], inv.ne, inv.l1, inv.l2, fun u hu v hv => ?_, ?_⟩⟩
    · rw [hs, stitch_Ways_1.L0_eq]
      simp [hu, Mem.set]
      done
    · rw [lk_setS] at hv
      split at hv
      · rename_i e
        cases hv
        rw [strW_inj h4 hu e]
      · exact inv.ok u hu v hv
    · rw [lk_setS]
      split
      · simp
      · exact inv.e
  | succ k ih =>
    intro a m M h1 inv
    have ha : a < 4 := by omega
    have ha' : (a : Int) < 4 := by omega
    obtain ⟨c1, c2⟩ := conv8 ha
    have hf := fun m => front_spec (p := p) h4 (by omega) ha m
    have hw : IntKind.wrap .i64 ((a : Int) + 1) = (a : Int) + 1 := wrap_id (by omega) (by omega)
    cases q : frontN (com p) w a with
    | none =>
      rw [q] at hf
      obtain ⟨m', M', e1, e2⟩ := ih (a + 1) m M (by omega) inv
      have hz : sE p w (a + 1) = sE p w a := by rw [sE_succ, fE, q]; rfl
      rw [hz] at e1
      refine ⟨m', M', ?_, e2⟩
      simp only [Int.natCast_add, Int.cast_ofNat_Int] at e1
      rw [← e1, stitch_Ways_1.L0_eq]
      simp [frontI, ha', c1, c2, hf, hw]
      done
    | some i =>
      rw [q] at hf
      have li := front_lt q
      have hwo := fun m => without_spec li (by omega) m
      have hle := List.length_eraseIdx_of_lt li
      obtain ⟨l, l1, l2, l3⟩ := least_spec g (erase4 h4 i) (by omega)
      have hll : l.length = (w.eraseIdx i).length := (l1.perm (com_irr g)).length_eq
      have hcl : cntE (com p) l = cntE (com p) (w.eraseIdx i) := cntE_eqv hll l1
      obtain ⟨m1, M1, e1, e2⟩ := rec l ⟨m.h, m.nx + 10⟩ M l2 (by omega) (inv.more rfl (by show m.nx ≤ m.nx + 10; omega))
      rw [hcl] at e1
      obtain ⟨m', M', e3, e4⟩ := ih (a + 1) m1 M1 (by omega) e2
      have hz : sE p w (a + 1) = sE p w a + cntE (com p) (w.eraseIdx i) := by rw [sE_succ, fE, q]
      rw [hz] at e3
      have hfn := inv.fn
      have hpu : (ann 83).pure = false := by kernel_rfl
      refine ⟨m', M', ?_, e4⟩
      simp only [Int.natCast_add, Int.cast_ofNat_Int] at e3
      rw [← e3, stitch_Ways_1.L0_eq]
      simp [frontI, ha', c1, c2, hf, hw, hwo, l3, hfn, waysV, hpu, e1, wrap_add]
      done
theorem ways_rec (g : GoodP p) : ∀ (n : Nat) (w : List Nat) (m : Mem) (M : EntS), w.length = n → W4L w → w.length < 10000 → WInv p m M id cid →
    ∃ m' M', denC prog ann 83 [.str (strW w), .sptr [.map id], .fptr [thrV p], .ptr cid 0 1] m = some (.int .i64 (IntKind.wrap .i64 (cntE (com p) w : Int)), m') ∧ WInv p m' M' id cid := by
  intro n
  induction n using Nat.strongRecOn with
  | ind n ih =>
    intro w m M hn h4 hl inv
    obtain ⟨gen, hm⟩ := inv.mp
    have hlk := lookSok (c := strW w) hm (.int .i64 0)
    cases q : lkS M (strW w) with
    | some v =>
      have := inv.ok w h4 v q
      subst this
      rw [q] at hlk
      refine ⟨m, M, ?_, inv⟩
      rw [stitch_Ways_1.call_eq]
      simp [hlk]
      done
    | none =>
      rw [q] at hlk
      have hne : w ≠ [] := by
        rintro rfl
        exact inv.e q
      obtain ⟨m', M', e1, e2⟩ := ways_inner g h4 hl hne (fun u m M hu hlt iv => ih u.length (by omega) u m M rfl hu (by omega) iv) 4 0 m M (by omega) inv
      refine ⟨m', M', ?_, e2⟩
      have hz : sE p w 0 = 0 := rfl
      rw [hz] at e1
      simp only [Int.cast_ofNat_Int, wrap_z] at e1
      rw [stitch_Ways_1.call_eq, ← e1]
      simp [hlk, thrV]
      done
end
theorem ways51_spec {p : List (Nat × Nat)} {v : AV} (hp : IsSl pC v p) (g : GoodP p) {w : List Nat} (h4 : W4L w) (hl : w.length ≤ 16) (m : Mem) : denC prog ann 51 [.int .i64 4, v, .str (strW w)] m = some (.tup [.int .i64 (IntKind.wrap .i64 (cntE (com p) w : Int)), .int .i64 0], m) := by
  have hsv : IsSl sC (.fsl true 1 [.str (strW w)]) [w] := .inr ⟨true, rfl⟩
  have hse := fun m => seams_spec hp g hsv (by simp) (fun x hx => by simp at hx; rw [hx]; exact h4) (most := 16) (by omega) (fun x hx => by simp at hx; rw [hx]; omega) m
  obtain ⟨l, l1, l2, l3⟩ := least_spec g h4 (by omega)
  have hll := (l1.perm (com_irr g)).length_eq
  have hcl := cntE_eqv hll l1
  have hfr : ∀ m, frzV v m = some (v, m) := fun m => by rcases hp.ofNils with rfl | ⟨_, rfl⟩ <;> rfl
  have hpu : (ann 83).pure = false := by kernel_rfl
  have wrec := fun (m : Mem) (inv : WInv p m [([], .int .i64 1)] 1 3) => ways_rec g l.length l m _ rfl l2 (by omega) inv
  rw [stitch_Ways.call_eq _ _ _ _ (by simp [hp.closed])]
  have hu := fun m => updS (L := []) (c := []) (m := m) (id := 1) (g := 0) (v := .int .i64 1)
  simp [keysS, valsS, setS, Mem.set] at hu
  obtain ⟨m', M', e1, _⟩ := wrec ⟨upd (upd (upd (upd Mem.empty.h 0 none) 1 (some (.map 1 [.str []] [.int .i64 1]))) 2 none) 3 (some (.cells [.fn 83 [] [.sptr [.map 1], .fptr [thrV p], .ptr 3 0 1]])), 11⟩ ⟨⟨1, by simp [keysS, valsS]⟩, by simp [waysV], by omega, by show 1 < 11; omega, by show 3 < 11; omega, (fun u hu v hv => by
      simp only [lkS] at hv
      split at hv
      · rename_i e
        cases hv
        have : u = [] := by
          have := congrArg List.length e
          rw [strW_len] at this
          exact List.length_eq_zero_iff.1 this.symm
        subst this
        rw [cntE_nil]
        rfl
      · cases hv), by simp [lkS]⟩
  rw [hcl] at e1
  simp [hp.closed, hfr, hse, hu, l3, hpu, e1]
  done
end Go.Proofs.Ytdkmepjedjclkaa

/-
  SEAMS IN THE PROGRAM (7): Meet, Join. Conditions: none.
-/
namespace Go.Proofs.Ytdkmepjedjclkaa
open Go.AM
open Go.Proofs.Try (prog)
set_option linter.all false
set_option maxRecDepth 100000
set_option maxHeartbeats 4000000
section
variable {p : List (Nat × Nat)} {v : AV}
theorem two_seams {u w : List Nat} (hp : IsSl pC v p) (g : GoodP p) (hu : W4L u) (hw : W4L w) (lu : u.length ≤ 40) (lw : w.length ≤ 40) (m : Mem) : denC prog ann 82 [.int .i64 4, v, .int .i64 40, .fsl true 2 [.str (strW u), .str (strW w)]] m = some (.tup [thrV p, .int .i64 0], m) := by
  have hsv : IsSl sC (.fsl true 2 [.str (strW u), .str (strW w)]) [u, w] := .inr ⟨true, rfl⟩
  refine seams_spec hp g hsv (by simp) (fun x hx => ?_) (by omega) (fun x hx => ?_) m
  · simp at hx; rcases hx with rfl | rfl <;> assumption
  · simp at hx; rcases hx with rfl | rfl <;> omega
theorem meet53_spec {u w : List Nat} (hp : IsSl pC v p) (g : GoodP p) (hu : W4L u) (hw : W4L w) (lu : u.length ≤ 40) (lw : w.length ≤ 40) : ∃ out a b l, MeetP (com p) u w out a b ∧ W4L out ∧ eqv (com p) l out ∧ W4L l ∧ l.length ≤ 40 ∧
    ∀ m, denC prog ann 53 [.int .i64 4, v, .str (strW u), .str (strW w)] m = some (.tup [.str (strW l), .int .i64 0], m) := by
  obtain ⟨out, a, b, h1, h2, h3, h4, h5, h6, h7⟩ := meet87_spec (p := p) hu hw (by omega) (by omega)
  obtain ⟨l, l1, l2, l3⟩ := least_spec g h2 (by omega)
  have hll := (l1.perm (com_irr g)).length_eq
  refine ⟨out, a, b, l, h1, h2, l1, l2, by omega, fun m => ?_⟩
  have hse := fun m => two_seams hp g hu hw lu lw m
  have hfr : ∀ m, frzV v m = some (v, m) := fun m => by rcases hp.ofNils with rfl | ⟨_, rfl⟩ <;> rfl
  rw [stitch_Meet.call_eq _ _ _ _ _ (by simp [hp.closed])]
  simp [hp.closed, hfr, hse, h7, l3]
  done
theorem join_row {out a b : List Nat} (ha4 : W4L a) (hb4 : W4L b) (lb : b.length < 1000) (la : a.length < 1000) {i : Nat} (hi : i < a.length) (hfree : ∀ x ∈ a, ∀ y ∈ b, com p x y = true) (Kc : List Item) : ∀ (k j : Nat) (m : Mem), j + k = b.length →
    ∃ m', stitch_Join.L2 (thrV p) (.str (strW out)) (.str (strW a)) (.str (strW b)) (.int .i64 i) (.int .i64 a.length) (.int .i64 i) (.int .i64 b.length) (.int .i64 j) m Kc = stitch_Join.L2 (thrV p) (.str (strW out)) (.str (strW a)) (.str (strW b)) (.int .i64 i) (.int .i64 a.length) (.int .i64 i) (.int .i64 b.length) (.int .i64 b.length) m' Kc := by
  intro k
  induction k with
  | zero =>
    intro j m h1
    have e : j = b.length := by omega
    exact ⟨m, by rw [e]⟩
  | succ k ih =>
    intro j m h1
    have hj : j < b.length := by omega
    have hx := ha4 a[i] (List.getElem_mem hi)
    have hy := hb4 b[j] (List.getElem_mem hj)
    have h88 := fun m => meets_spec (p := p) hx hy m
    rw [hfree _ (List.getElem_mem hi) _ (List.getElem_mem hj)] at h88
    have ia := strW_at ha4 hi .i64
    have ib := strW_at hb4 hj .i64
    have hw : IntKind.wrap .i64 ((j : Int) + 1) = (j : Int) + 1 := wrap_id (by omega) (by omega)
    obtain ⟨m', e⟩ := ih (j + 1) ⟨m.h, m.nx + 8⟩ (by omega)
    refine ⟨m', ?_⟩
    simp only [Int.natCast_add, Int.cast_ofNat_Int] at e
    rw [← e, stitch_Join.L2_eq]
    simp [hj, ia, ib, h88, hw]
    done
theorem join_loop {out a b : List Nat} (ha4 : W4L a) (hb4 : W4L b) (lb : b.length < 1000) (la : a.length < 1000) (hfree : ∀ x ∈ a, ∀ y ∈ b, com p x y = true) (Kc : List Item) : ∀ (k i : Nat) (m : Mem), i + k = a.length →
    ∃ m', stitch_Join.L0 (thrV p) (.str (strW out)) (.str (strW a)) (.str (strW b)) (.int .i64 a.length) (.int .i64 i) m Kc = stitch_Join.L0 (thrV p) (.str (strW out)) (.str (strW a)) (.str (strW b)) (.int .i64 a.length) (.int .i64 a.length) m' Kc := by
  intro k
  induction k with
  | zero =>
    intro i m h1
    have e : i = a.length := by omega
    exact ⟨m, by rw [e]⟩
  | succ k ih =>
    intro i m h1
    have hi : i < a.length := by omega
    have hw : IntKind.wrap .i64 ((i : Int) + 1) = (i : Int) + 1 := wrap_id (by omega) (by omega)
    obtain ⟨m1, e1⟩ := join_row (out := out) ha4 hb4 lb la hi hfree (.inBlock 1 :: .code stitch_Join.r14 :: .inLoop stitch_Join.l0 :: .inBlock 0 :: Kc) b.length 0 m (by omega)
    obtain ⟨m', e⟩ := ih (i + 1) m1 (by omega)
    refine ⟨m', ?_⟩
    simp only [Int.natCast_add, Int.cast_ofNat_Int] at e e1
    rw [← e, stitch_Join.L0_eq]
    simp [hi, e1]
    rw [stitch_Join.L2_eq]
    simp [hw]
    done
theorem join54_spec {u w : List Nat} (hp : IsSl pC v p) (g : GoodP p) (hu : W4L u) (hw : W4L w) (lu : u.length ≤ 40) (lw : w.length ≤ 40) (hfree : ∀ out a b, MeetP (com p) u w out a b → ∀ x ∈ a, ∀ y ∈ b, com p x y = true) : ∃ out a b l, MeetP (com p) u w out a b ∧ eqv (com p) l (out ++ a ++ b) ∧ W4L l ∧ l.length ≤ 200 ∧
    ∀ m, denC prog ann 54 [.int .i64 4, v, .str (strW u), .str (strW w)] m = some (.tup [.str (strW l), .int .i64 0], m) := by
  obtain ⟨out, a, b, h1, h2, h3, h4, h5, h6, h7⟩ := meet87_spec (p := p) hu hw (by omega) (by omega)
  have h4o : W4L (out ++ a ++ b) := fun x hx => by
    simp only [List.mem_append] at hx
    rcases hx with (hx | hx) | hx
    · exact h2 x hx
    · exact h3 x hx
    · exact h4 x hx
  obtain ⟨l, l1, l2, l3⟩ := least_spec g h4o (by simp; omega)
  have hll := (l1.perm (com_irr g)).length_eq
  simp at hll
  refine ⟨out, a, b, l, h1, l1, l2, by omega, fun m => ?_⟩
  have hse := fun m => two_seams hp g hu hw lu lw m
  have hfr : ∀ m, frzV v m = some (v, m) := fun m => by rcases hp.ofNils with rfl | ⟨_, rfl⟩ <;> rfl
  obtain ⟨m1, e1⟩ := join_loop (p := p) (out := out) h3 h4 (by omega) (by omega) (hfree _ _ _ h1) [.code stitch_Join.r15, .code .ret] a.length 0 Mem.empty (by omega)
  simp only [Int.cast_ofNat_Int] at e1
  have c1 := str_cat (a := strW out) (b := strW a) (by simp; omega) 9
  have c2 := str_cat (a := strW out ++ strW a) (b := strW b) (by simp; omega) 9
  rw [← strW_append] at c1 c2
  rw [← strW_append] at c2
  rw [List.append_assoc] at l3
  rw [stitch_Join.call_eq _ _ _ _ _ (by simp [hp.closed])]
  simp [hp.closed, hfr, hse, h7, e1]
  rw [stitch_Join.L0_eq]
  simp [c1, c2, l3]
  done
end
end Go.Proofs.Ytdkmepjedjclkaa

/-
  MAPS KEYED BY CUTS: 'm[k] += v'. Conditions: none.
-/
namespace Go.Proofs.Ytdkmepjedjclkaa
open Go.AM
open Go.Proofs.Try (prog)
set_option linter.all false
set_option maxRecDepth 100000
def ixL : Ents → List Int → Option Nat
  | [], _ => none
  | e :: L, c => if e.1 = c then some 0 else (ixL L c).map (· + 1)
theorem findI99 : ∀ {L : Ents} {c : List Int} (i : Nat), Keys4 L → c.length = 4 → findI prog 99 (.agg (ints c)) (keysL L) i = some ((ixL L c).map (i + ·))
  | [], c, i, _, _ => rfl
  | e :: L, c, i, h, hc => by
    have ih := findI99 (L := L) (c := c) (i + 1) (fun x hx => h x (by simp [hx])) hc
    have he : e.1.length = 4 := h e (by simp)
    simp only [keysL, List.map_cons, findI, keyEq99 hc he, Option.bind_some]
    simp only [keysL] at ih
    by_cases q : e.1 = c
    · simp [q, ixL]
    · have q' : ¬ c = e.1 := fun x => q x.symm
      simp only [q', decide_false, cond_false, ih, ixL, if_neg q]
      cases ixL L c with
      | none => rfl
      | some j => simp; omega
theorem ix_some : ∀ {L : Ents} {c : List Int} {i : Nat}, ixL L c = some i → i < L.length ∧ (∃ w, lkL L c = some w ∧ (valsL L)[i]? = some w) ∧ (keysL L).set i (.agg (ints c)) = keysL L ∧ ∀ v, keysL (setL L c v) = keysL L ∧ valsL (setL L c v) = (valsL L).set i v
  | [], c, i, h => by cases h
  | e :: L, c, i, h => by
    rw [ixL] at h
    by_cases q : e.1 = c
    · rw [if_pos q] at h
      cases h
      subst q
      refine ⟨by simp, ⟨e.2, by simp [lkL], by simp [valsL]⟩, by simp [keysL], fun v => ?_⟩
      rw [setL, if_pos rfl]
      exact ⟨rfl, rfl⟩
    · rw [if_neg q, Option.map_eq_some_iff] at h
      obtain ⟨j, hj, rfl⟩ := h
      obtain ⟨h1, ⟨w, h2, h3⟩, h4, h5⟩ := ix_some hj
      refine ⟨by simpa using h1, ⟨w, by rw [lkL, if_neg q]; exact h2, by simpa [valsL] using h3⟩, ?_, fun v => ?_⟩
      · simp only [keysL] at h4; simp [keysL, h4]
      · obtain ⟨h6, h7⟩ := h5 v
        rw [setL, if_neg q]
        simp only [keysL, valsL] at h6 h7
        simp [keysL, valsL, h6, h7]
theorem ix_none : ∀ {L : Ents} {c : List Int}, ixL L c = none → lkL L c = none ∧ ∀ v, setL L c v = L ++ [(c, v)]
  | [], c, _ => ⟨rfl, fun v => rfl⟩
  | e :: L, c, h => by
    rw [ixL] at h
    by_cases q : e.1 = c
    · rw [if_pos q] at h; cases h
    · rw [if_neg q, Option.map_eq_none_iff] at h
      obtain ⟨h1, h2⟩ := ix_none h
      exact ⟨by rw [lkL, if_neg q]; exact h1, fun v => by rw [setL, if_neg q, h2 v]; rfl⟩
theorem ent99 {W : Ents} {c : List Int} (h : Keys4 W) (hi : IntE W) (hc : c.length = 4) (g : Nat) : ∃ (g' : Nat) (ks vs : List AV) (st : Int), ∀ {hp : Nat → Option AObj} {id : Nat}, hp id = some (.map g (keysL W) (valsL W)) → ∀ x : Nat,
    entP prog ⟨hp, x⟩ 99 (.int .i64 0) (.map id) (.agg (ints c)) = some (.tup [.int .i64 (gI W c), .int .i64 st], ⟨upd hp id (some (.map g' ks vs)), x⟩) ∧
    ∀ (hq : Nat → Option AObj), hq id = some (.map g' ks vs) → ∀ (y : Nat) (v : AV), entS ⟨hq, y⟩ (.map id) (.int .i64 st) v = some (.tup [], ⟨upd hq id (some (.map (g' + 1) (keysL (setL W c v)) (valsL (setL W c v)))), y⟩) := by
  cases e : ixL W c with
  | none =>
    obtain ⟨h1, h2⟩ := ix_none e
    refine ⟨g + 1, keysL W ++ [.agg (ints c)], valsL W ++ [.int .i64 0], (keysL W).length, fun {hp id} hm x => ⟨?_, fun hq hm2 y v => ?_⟩⟩
    · have hg : gI W c = 0 := by simp [gI, h1]
      simp only [entP, keyT99 hc, cond_true, hm, findI99 0 h hc, e, Option.map_none, Option.bind_some, hg, Mem.set]
    · have hl : (keysL W).length = (valsL W).length := by simp [keysL, valsL]
      have hin : inR ((keysL W).length : Int) (valsL W ++ [AV.int .i64 0]).length = true := by simp [inR, hl]; omega
      have hset : (valsL W ++ [AV.int .i64 0]).set (valsL W).length v = valsL W ++ [v] := by simp
      simp only [entS, entryStA, hm2, hin, cond_true, Option.map_some, Mem.set, Int.toNat_natCast]
      rw [hl, hset, h2 v]
      simp [keysL, valsL]
  | some i =>
    obtain ⟨h1, ⟨w, h2, h3⟩, h4, h5⟩ := ix_some e
    obtain ⟨z, rfl⟩ := hi c w h2
    refine ⟨g + 1, keysL W, valsL W, i, fun {hp id} hm x => ⟨?_, fun hq hm2 y v => ?_⟩⟩
    · have hg : gI W c = z := by simp [gI, h2]
      simp only [entP, keyT99 hc, cond_true, hm, findI99 0 h hc, e, Option.map_some, Option.bind_some, hg, Mem.set, Nat.zero_add, h3, h4]
    · obtain ⟨h6, h7⟩ := h5 v
      have hin : inR (i : Int) (valsL W).length = true := by simp [inR, valsL]; omega
      simp only [entS, entryStA, hm2, hin, cond_true, Option.map_some, Mem.set, Int.toNat_natCast, h6, h7]
theorem lookI99 {W : Ents} {c : List Int} (h : Keys4 W) (hi : IntE W) (hc : c.length = 4) {m : Mem} {id g : Nat} (hm : m.h id = some (.map g (keysL W) (valsL W))) : lookP prog m 99 (.int .i64 0) (.map id) (.agg (ints c)) false = some (.int .i64 (gI W c)) := by
  rw [lookM99 hm h hc]
  have := lk_int hi c
  cases e : lkL W c with
  | none => rw [e] at this; simpa using this
  | some v => rw [e] at this; simpa using this
end Go.Proofs.Ytdkmepjedjclkaa

/-
  BODIES OF FUNCTIONS OF THE PROGRAM AS SMALL OPERATIONS (written by gen.py; checked by the kernel against the program). Conditions: none.
-/
namespace Go.Proofs.Ytdkmepjedjclkaa
open Go.AM
open Go.Proofs.Try (prog)
set_option maxRecDepth 100000
set_option linter.all false
namespace watch_Courses
noncomputable section
variable (K : List Item) (s : St)
def b : Code := (Try.f36.body).getD .skip
theorem hf : prog.funcs[36]? = some Try.f36 := by kernel_rfl
def r0 := findReg b 0
def r1 := findReg b 1
def r2 := findReg b 2
def i0 := findCond b 0
def i0t := thenOf i0
def i0e := elseOf i0
def r3 := findReg b 3
def r4 := findReg b 4
def r5 := findReg b 5
def k0 := findBlk b 0
def l0 := loopOf k0
def L0 (x4 x6 x7 : AV) (m : Mem) (K : List Item) : Option Res := den prog ann 36 (.code l0 :: .inLoop l0 :: .inBlock 0 :: K) ⟨[(4, x4), (6, x6), (7, x7)], 66, m⟩
def r6 := findReg b 6
def i1 := findCond b 1
def i1t := thenOf i1
def i1e := elseOf i1
def k1 := findBlk b 1
def r7 := findReg b 7
def r8 := findReg b 8
def k2 := findBlk b 2
def l2 := loopOf k2
def L2 (x4 x6 x8 x34 : AV) (m : Mem) (K : List Item) : Option Res := den prog ann 36 (.code l2 :: .inLoop l2 :: .inBlock 2 :: K) ⟨[(4, x4), (6, x6), (8, x8), (34, x34)], 66, m⟩
def r9 := findReg b 9
def i2 := findCond b 2
def i2t := thenOf i2
def i2e := elseOf i2
def k3 := findBlk b 3
def r10 := findReg b 10
def r11 := findReg b 11
def k4 := findBlk b 4
def l4 := loopOf k4
def L4 (x4 x6 x8 x9 x34 x41 x42 x43 : AV) (m : Mem) (K : List Item) : Option Res := den prog ann 36 (.code l4 :: .inLoop l4 :: .inBlock 4 :: K) ⟨[(4, x4), (6, x6), (8, x8), (9, x9), (34, x34), (41, x41), (42, x42), (43, x43)], 66, m⟩
def r12 := findReg b 12
def i3 := findCond b 3
def i3t := thenOf i3
def i3e := elseOf i3
def k5 := findBlk b 5
def r13 := findReg b 13
def r14 := findReg b 14
def r15 := findReg b 15
def r16 := findReg b 16
def r17 := findReg b 17
def r18 := findReg b 18
theorem b_eq : den prog ann 36 (.code b :: K) s = den prog ann 36 (.code r0 :: .code r1 :: .code r2 :: .code i0 :: .code r4 :: .code r5 :: .code k0 :: .code r18 :: .code .ret :: K) s := den_flat hf (l := [r0, r1, r2, i0, r4, r5, k0, r18, .ret]) (by kernel_rfl) K s
theorem r0_eq : den prog ann 36 (.code r0 :: K) s = mreg prog ann 36 none [] none [] [qA 1 frozenPtr 0,qF 2 fun s => some (.int .i64 0),qF 3 fun s => some (.int .i64 0)] K s := (den_reg hf _ K s).trans (by kernel_rfl)
theorem r1_eq : den prog ann 36 (.code r1 :: K) s = mreg prog ann 36 none [] none [] [qA 13 (loadF true 2) 1,⟨some 14, none, .c 0 (fun s => (.fn 61 [] [])) fun s => [(s.get 13)]⟩,qC 12 14,qF 15 fun s => extA (s.get 12) 0,qF 16 fun s => extA (s.get 12) 1,qC 4 15,qC 5 16] K s := (den_reg hf _ K s).trans (by kernel_rfl)
theorem r2_eq : den prog ann 36 (.code r2 :: K) s = mreg prog ann 36 none [] none [] [qC 17 5,qA 18 (unA .not) 17] K s := (den_reg hf _ K s).trans (by kernel_rfl)
theorem i0_eq : den prog ann 36 (.code i0 :: K) s = ifV prog ann 36 18 i0t i0e K s (s.get 18) := den_if hf (by kernel_rfl) K s
theorem i0t_eq : den prog ann 36 (.code i0t :: K) s = den prog ann 36 (.code r3 :: .code .ret :: K) s := den_flat hf (l := [r3, .ret]) (by kernel_rfl) K s
theorem r3_eq : den prog ann 36 (.code r3 :: K) s = mreg prog ann 36 none [] none [] [qF 2 fun s => some (.int .i64 0),qF 3 fun s => some (.int .i64 1)] K s := (den_reg hf _ K s).trans (by kernel_rfl)
theorem i0e_eq : den prog ann 36 (.code i0e :: K) s = den prog ann 36 (K) s := den_flat hf (l := []) (by kernel_rfl) K s
theorem r4_eq : den prog ann 36 (.code r4 :: K) s = mreg prog ann 36 none [] none [] [⟨some 19, none, .w false none fun s => some (.map s.m.nx, s.m.new (.map 0 [] []))⟩,qF 20 fun s => bldA (plcA 1) [.int .i64 0, .int .i64 0, .int .i64 0, .int .i64 0] [],⟨none, none, .w false none fun s => updM prog s.m 99 (s.get 19) (s.get 20) (.int .i64 1)⟩,qC 21 19,qC 6 21] K s := (den_reg hf _ K s).trans (by kernel_rfl)
theorem r5_eq : den prog ann 36 (.code r5 :: K) s = mreg prog ann 36 none [] none [] [⟨some 22, none, .w false none fun s => some (.map s.m.nx, s.m.new (.map 0 [] []))⟩,qF 23 fun s => bldA (plcA 1) [.int .i64 0, .int .i64 0, .int .i64 0, .int .i64 0] [],⟨none, none, .w false none fun s => updM prog s.m 99 (s.get 22) (s.get 23) (.bool true)⟩,qC 24 22,qC 7 24] K s := (den_reg hf _ K s).trans (by kernel_rfl)
theorem k0_eq (K : List Item) (t : List (Nat × AV)) (m : Mem) : den prog ann 36 (.code k0 :: K) ⟨t, 66, m⟩ = L0 (get t 4) (get t 6) (get t 7) m K := den_loop_enter hf (b := l0) (id := 6) (l := [4, 6, 7]) (by kernel_rfl) (by kernel_rfl) (by kernel_rfl) K _
theorem l0_eq (K : List Item) (t : List (Nat × AV)) (m : Mem) : den prog ann 36 (.inLoop l0 :: .inBlock 0 :: K) ⟨t, 66, m⟩ = L0 (get t 4) (get t 6) (get t 7) m K := den_loop_again hf (id := 6) (l := [4, 6, 7]) (by kernel_rfl) (by kernel_rfl) (.inBlock 0 :: K) _
theorem L0_eq (x4 x6 x7 : AV) (m : Mem) (K : List Item) : L0 x4 x6 x7 m K = den prog ann 36 (.code r6 :: .code i1 :: .code k1 :: .inLoop l0 :: .inBlock 0 :: K) ⟨[(4, x4), (6, x6), (7, x7)], 66, m⟩ := den_flat hf (l := [r6, i1, k1]) (by kernel_rfl) _ _
theorem r6_eq : den prog ann 36 (.code r6 :: K) s = mreg prog ann 36 (some [4, 6, 7]) [] none [] [qC 25 7,qC 26 4,qA 27 nilA 26,qA 28 (fieldA 1) 27,qA 29 (loadF true 4) 28,qF 30 fun s => lookP prog s.m 99 (.bool false) (s.get 25) (s.get 29) false,qA 31 (unA .not) 30] K s := (den_reg hf _ K s).trans (by kernel_rfl)
theorem i1_eq : den prog ann 36 (.code i1 :: K) s = ifV prog ann 36 31 i1t i1e K s (s.get 31) := den_if hf (by kernel_rfl) K s
theorem i1t_eq : den prog ann 36 (.code i1t :: K) s = den prog ann 36 (K) s := den_flat hf (l := []) (by kernel_rfl) K s
theorem i1e_eq : den prog ann 36 (.code i1e :: K) s = den prog ann 36 (.code (.exit 0) :: K) s := den_flat hf (l := [(.exit 0)]) (by kernel_rfl) K s
theorem k1_eq : den prog ann 36 (.code k1 :: K) s = den prog ann 36 (.code r7 :: .code r8 :: .code k2 :: .code r17 :: .inBlock 1 :: K) s := den_blk hf (b := blkOf k1) (l := [r7, r8, k2, r17]) (by kernel_rfl) (by kernel_rfl) K s
theorem r7_eq : den prog ann 36 (.code r7 :: K) s = mreg prog ann 36 none [] none [] [⟨some 32, none, .w false none fun s => some (.map s.m.nx, s.m.new (.map 0 [] []))⟩,qC 8 32] K s := (den_reg hf _ K s).trans (by kernel_rfl)
theorem r8_eq : den prog ann 36 (.code r8 :: K) s = mreg prog ann 36 none [800007] none [] [qC 33 7,⟨some 34, none, .r fun s => (s.get 33)⟩] K s := (den_reg hf _ K s).trans (by kernel_rfl)
theorem k2_eq (K : List Item) (t : List (Nat × AV)) (m : Mem) : den prog ann 36 (.code k2 :: K) ⟨t, 66, m⟩ = L2 (get t 4) (get t 6) (get t 8) (get t 34) m K := den_loop_enter hf (b := l2) (id := 9) (l := [4, 6, 8, 34]) (by kernel_rfl) (by kernel_rfl) (by kernel_rfl) K _
theorem l2_eq (K : List Item) (t : List (Nat × AV)) (m : Mem) : den prog ann 36 (.inLoop l2 :: .inBlock 2 :: K) ⟨t, 66, m⟩ = L2 (get t 4) (get t 6) (get t 8) (get t 34) m K := den_loop_again hf (id := 9) (l := [4, 6, 8, 34]) (by kernel_rfl) (by kernel_rfl) (.inBlock 2 :: K) _
theorem L2_eq (x4 x6 x8 x34 : AV) (m : Mem) (K : List Item) : L2 x4 x6 x8 x34 m K = den prog ann 36 (.code r9 :: .code i2 :: .code k3 :: .inLoop l2 :: .inBlock 2 :: K) ⟨[(4, x4), (6, x6), (8, x8), (34, x34)], 66, m⟩ := den_flat hf (l := [r9, i2, k3]) (by kernel_rfl) _ _
theorem r9_eq : den prog ann 36 (.code r9 :: K) s = mreg prog ann 36 (some [4, 6, 8, 34]) [] none [] [⟨some 35, none, .n fun s => (s.get 34)⟩,qF 36 fun s => extA (s.get 35) 0] K s := (den_reg hf _ K s).trans (by kernel_rfl)
theorem i2_eq : den prog ann 36 (.code i2 :: K) s = ifV prog ann 36 36 i2t i2e K s (s.get 36) := den_if hf (by kernel_rfl) K s
theorem i2t_eq : den prog ann 36 (.code i2t :: K) s = den prog ann 36 (K) s := den_flat hf (l := []) (by kernel_rfl) K s
theorem i2e_eq : den prog ann 36 (.code i2e :: K) s = den prog ann 36 (.code (.exit 2) :: K) s := den_flat hf (l := [(.exit 2)]) (by kernel_rfl) K s
theorem k3_eq : den prog ann 36 (.code k3 :: K) s = den prog ann 36 (.code r10 :: .code r11 :: .code k4 :: .inBlock 3 :: K) s := den_blk hf (b := blkOf k3) (l := [r10, r11, k4]) (by kernel_rfl) (by kernel_rfl) K s
theorem r10_eq : den prog ann 36 (.code r10 :: K) s = mreg prog ann 36 none [] none [9] [qF 37 fun s => curA s.m (s.get 34),qF 38 fun s => extA (s.get 37) 0,⟨some 9, none, .w false none fun s => newPtr s.m [.int .i64 0, .int .i64 0, .int .i64 0, .int .i64 0]⟩,⟨none, none, .w false none fun s => stA true 4 s.m (s.get 9) (s.get 38)⟩] K s := (den_reg hf _ K s).trans (by kernel_rfl)
theorem r11_eq : den prog ann 36 (.code r11 :: K) s = mreg prog ann 36 none [] none [] [qC 39 4,qA 40 (loadF true 4) 9,⟨some 41, none, .c 0 (fun s => (.fn 73 [] [])) fun s => [(s.get 39), (s.get 40)]⟩,qA 42 lenSl 41,qF 43 fun s => some (.int .i64 0)] K s := (den_reg hf _ K s).trans (by kernel_rfl)
theorem k4_eq (K : List Item) (t : List (Nat × AV)) (m : Mem) : den prog ann 36 (.code k4 :: K) ⟨t, 66, m⟩ = L4 (get t 4) (get t 6) (get t 8) (get t 9) (get t 34) (get t 41) (get t 42) (get t 43) m K := den_loop_enter hf (b := l4) (id := 12) (l := [4, 6, 8, 9, 34, 41, 42, 43]) (by kernel_rfl) (by kernel_rfl) (by kernel_rfl) K _
theorem l4_eq (K : List Item) (t : List (Nat × AV)) (m : Mem) : den prog ann 36 (.inLoop l4 :: .inBlock 4 :: K) ⟨t, 66, m⟩ = L4 (get t 4) (get t 6) (get t 8) (get t 9) (get t 34) (get t 41) (get t 42) (get t 43) m K := den_loop_again hf (id := 12) (l := [4, 6, 8, 9, 34, 41, 42, 43]) (by kernel_rfl) (by kernel_rfl) (.inBlock 4 :: K) _
theorem L4_eq (x4 x6 x8 x9 x34 x41 x42 x43 : AV) (m : Mem) (K : List Item) : L4 x4 x6 x8 x9 x34 x41 x42 x43 m K = den prog ann 36 (.code r12 :: .code i3 :: .code k5 :: .code r16 :: .inLoop l4 :: .inBlock 4 :: K) ⟨[(4, x4), (6, x6), (8, x8), (9, x9), (34, x34), (41, x41), (42, x42), (43, x43)], 66, m⟩ := den_flat hf (l := [r12, i3, k5, r16]) (by kernel_rfl) _ _
theorem r12_eq : den prog ann 36 (.code r12 :: K) s = mreg prog ann 36 (some [4, 6, 8, 9, 34, 41, 42, 43]) [] none [] [qB 44 (binA prog .lss 3) 43 42] K s := (den_reg hf _ K s).trans (by kernel_rfl)
theorem i3_eq : den prog ann 36 (.code i3 :: K) s = ifV prog ann 36 44 i3t i3e K s (s.get 44) := den_if hf (by kernel_rfl) K s
theorem i3t_eq : den prog ann 36 (.code i3t :: K) s = den prog ann 36 (K) s := den_flat hf (l := []) (by kernel_rfl) K s
theorem i3e_eq : den prog ann 36 (.code i3e :: K) s = den prog ann 36 (.code (.exit 4) :: K) s := den_flat hf (l := [(.exit 4)]) (by kernel_rfl) K s
theorem k5_eq : den prog ann 36 (.code k5 :: K) s = den prog ann 36 (.code r13 :: .code r14 :: .code r15 :: .inBlock 5 :: K) s := den_blk hf (b := blkOf k5) (l := [r13, r14, r15]) (by kernel_rfl) (by kernel_rfl) K s
theorem r13_eq : den prog ann 36 (.code r13 :: K) s = mreg prog ann 36 none [] none [11] [qB 45 (idxSl 4) 41 43,qA 46 (loadF true 4) 45,⟨some 11, none, .w false none fun s => newPtr s.m [.int .i64 0, .int .i64 0, .int .i64 0, .int .i64 0]⟩,⟨none, none, .w false none fun s => stA true 4 s.m (s.get 11) (s.get 46)⟩] K s := (den_reg hf _ K s).trans (by kernel_rfl)
theorem r14_draw : drawOk (fun g => (ann g).pure) (modeOf (ann 36) (idOf r14)) (frzOf (ann 36) (idOf r14)) (opsOf r14) = true := drawOk_of (an := [0, 0, 3, 0, 0, 24, 63, 59, 187, 511]) (by kernel_rfl) (by kernel_rfl)
theorem r14_eq : den prog ann 36 (.code r14 :: K) s = mreg prog ann 36 none [] (some 10) [] [qC 47 6,qA 48 (loadF true 4) 11,qF 49 fun s => lookP prog s.m 99 (.int .i64 0) (s.get 47) (s.get 48) false,qC 50 6,qA 51 (loadF true 4) 9,qF 52 fun s => lookP prog s.m 99 (.int .i64 0) (s.get 50) (s.get 51) false,qB 53 (binA prog .add 3) 49 52,⟨some 54, none, .w false (some 7) fun s => entP prog s.m 99 (.int .i64 0) (s.get 47) (s.get 48)⟩,qF 55 fun s => extA (s.get 54) 1,⟨none, none, .w false (some 9) fun s => entS s.m (s.get 47) (s.get 55) (s.get 53)⟩] K s := (den_regD hf r14_draw K s).trans (by kernel_rfl)
theorem r15_eq : den prog ann 36 (.code r15 :: K) s = mreg prog ann 36 none [] none [] [qC 56 8,qA 57 (loadF true 4) 11,⟨none, none, .w false none fun s => updM prog s.m 99 (s.get 56) (s.get 57) (.bool true)⟩] K s := (den_reg hf _ K s).trans (by kernel_rfl)
theorem r16_eq : den prog ann 36 (.code r16 :: K) s = mreg prog ann 36 (some [4, 6, 8, 9, 34, 41, 42, 43]) [] none [] [qF 58 fun s => binA prog .add 3 (s.get 43) (.int .i64 1),qC 43 58] K s := (den_reg hf _ K s).trans (by kernel_rfl)
theorem r17_eq : den prog ann 36 (.code r17 :: K) s = mreg prog ann 36 (some [4, 6, 8]) [] none [] [qC 59 8,qC 7 59] K s := (den_reg hf _ K s).trans (by kernel_rfl)
theorem r18_eq : den prog ann 36 (.code r18 :: K) s = mreg prog ann 36 (some [4, 6]) [] none [] [qC 60 6,qC 61 4,qA 62 nilA 61,qA 63 (fieldA 1) 62,qA 64 (loadF true 4) 63,qF 65 fun s => lookP prog s.m 99 (.int .i64 0) (s.get 60) (s.get 64) false,qC 2 65,qF 3 fun s => some (.int .i64 0)] K s := (den_reg hf _ K s).trans (by kernel_rfl)
theorem ret_eq : den prog ann 36 (.code .ret :: K) s = finM true [fun s => some (s.get 2), fun s => some (s.get 3)] s := (den_ret hf K s).trans (by kernel_rfl)
theorem nil_eq (s : St) : den prog ann 36 [] s = finM true [fun s => some (s.get 2), fun s => some (s.get 3)] s := (den_nil hf s).trans (by kernel_rfl)
theorem inBlock_eq (id : Nat) (K : List Item) (s : St) : den prog ann 36 (.inBlock id :: K) s = den prog ann 36 K s := den_inBlock hf id K s
theorem exit_eq (id : Nat) (K : List Item) (s : St) : den prog ann 36 (.code (.exit id) :: K) s = exitV prog ann 36 (exitTo id K) s := den_exitV hf id K s
theorem call_eq (v0 : AV) (m : Mem) (h : closedL [v0] = true) : denC prog ann 36 [v0] m = (den prog ann 36 [.code b] ⟨[(0, v0)], 66, Mem.empty⟩).bind fun r => some (r.1, m) := (denC_pure hf (b := b) (by kernel_rfl) (by kernel_rfl) (by kernel_rfl) h m).trans (by kernel_rfl)
theorem pure_eq : (ann 36).pure = true := by kernel_rfl
attribute [simp] b_eq r0_eq r1_eq r2_eq i0_eq i0t_eq r3_eq i0e_eq r4_eq r5_eq k0_eq l0_eq r6_eq i1_eq i1t_eq i1e_eq k1_eq r7_eq r8_eq k2_eq l2_eq r9_eq i2_eq i2t_eq i2e_eq k3_eq r10_eq r11_eq k4_eq l4_eq r12_eq i3_eq i3t_eq i3e_eq k5_eq r13_eq r14_eq r15_eq r16_eq r17_eq r18_eq ret_eq nil_eq inBlock_eq exit_eq pure_eq
end
end watch_Courses
end Go.Proofs.Ytdkmepjedjclkaa

/-
  Courses (the program's): its loops. Conditions: none.
-/
namespace Go.Proofs.Ytdkmepjedjclkaa
open Go.AM
open Go.Proofs.Try (prog)
set_option linter.all false
set_option maxRecDepth 100000
set_option maxHeartbeats 4000000
theorem frz1_map (t : List (Nat × AV)) (n : Nat) (m : Mem) : frz1 ⟨t, n, m⟩ 800007 = (frzM (AM.get t 7) m).bind fun r => St.put ⟨t, n, r.2⟩ (some 7) r.1 := rfl
section
variable {sv : AV} {D : List Int} {N : List Note} {K : List (List (List Int))}
theorem nx4_len (c : List Int) : (nx4 D K c).length ≤ D.length := by
  have key : ∀ (j : Nat), (nextR (pad D) K D.length c j).length ≤ j := by
    intro j
    induction j with
    | zero => simp [nextR]
    | succ j ih => rw [nextR, List.length_append]; split <;> simp <;> omega
  exact key _
theorem nx4_four (kk : Clocks D N K) {c : List Int} (hc : IsCut D.length (pad D) c) : Four (nx4 D K c) := fun d hd => (nx_is kk hc hd).1.len
theorem cou_inner (kk : Clocks D N K) (s : IsStory sv D.length (pad D) K) {k : Nat} {Z : List (List Int)} {c : List Int} (hc : IsCut D.length (pad D) c) (hcs : dsum D c = k) {wid lid tid : Nat} (h1 : wid ≠ lid) (h2 : wid ≠ tid) (h3 : lid ≠ tid) {O : Option AObj} (Kc : List Item) :
    ∀ (r j : Nat) (m : Mem) (W Lt : Ents) (g g' : Nat), j + r = (nx4 D K c).length → RoundI D N K k Z c ((nx4 D K c).take j) W Lt → m.h wid = some (.map g (keysL W) (valsL W)) → m.h lid = some (.map g' (keysL Lt) (valsL Lt)) → m.h tid = O → wid < m.nx → lid < m.nx → tid < m.nx →
    ∃ (m' : Mem) (W' Lt' : Ents) (q q' : Nat), RoundI D N K k Z c (nx4 D K c) W' Lt' ∧ m'.h wid = some (.map q (keysL W') (valsL W')) ∧ m'.h lid = some (.map q' (keysL Lt') (valsL Lt')) ∧ m'.h tid = O ∧ wid < m'.nx ∧ lid < m'.nx ∧ tid < m'.nx ∧
      watch_Courses.L4 sv (.map wid) (.map lid) (.fptr (ints c)) (.iter tid) (nextV (nx4 D K c)) (.int .i64 (nx4 D K c).length) (.int .i64 j) m (.inBlock 3 :: .inLoop watch_Courses.l2 :: .inBlock 2 :: Kc) = watch_Courses.L2 sv (.map wid) (.map lid) (.iter tid) m' Kc := by
  have hn4 := s.n4
  have hc4 := hc.len
  have htc : (ints c).take 4 = ints c := List.take_of_length_le (by simp [hc4])
  simp at htc
  have hNl := nx4_len (D := D) (K := K) c
  have hA := nx4_four kk hc
  have hav := nextV_is (nx4 D K c)
  have hnd : (nx4 D K c).Nodup := nextR_nodup (by omega)
  have hnx := fun d (hd : d ∈ nx4 D K c) => nx_is kk hc hd
  generalize nx4 D K c = NL at *
  have b1 : (lid == wid) = false := beq_eq_false_iff_ne.2 (fun e => h1 e.symm)
  have b2 : (tid == wid) = false := beq_eq_false_iff_ne.2 (fun e => h2 e.symm)
  have b3 : (tid == lid) = false := beq_eq_false_iff_ne.2 (fun e => h3 e.symm)
  have b4 : (wid == lid) = false := beq_eq_false_iff_ne.2 h1
  intro r
  induction r with
  | zero =>
    intro j m W Lt g g' hj ri mw ml mt w1 w2 w3
    have e : j = NL.length := by omega
    rw [e, List.take_length] at ri
    refine ⟨m, W, Lt, g, g', ri, mw, ml, mt, w1, w2, w3, ?_⟩
    rw [watch_Courses.L4_eq]
    simp [e]
    done
  | succ r ih =>
    intro j m W Lt g g' hj ri mw ml mt w1 w2 w3
    have hjl : j < NL.length := by omega
    have hget : NL[j]? = some (cth NL j) := cth_eq hjl
    obtain ⟨_, hge⟩ := List.getElem?_eq_some_iff.1 hget
    have hdm : cth NL j ∈ NL := List.mem_of_getElem? hget
    have hd := hnx _ hdm
    have hidx := hav.idx hA.cells hjl .i64
    have hld := load_cut hA hjl
    have hnotin : cth NL j ∉ NL.take j := by
      intro hx
      obtain ⟨i, hi, hie⟩ := List.getElem_of_mem hx
      rw [List.length_take] at hi
      rw [List.getElem_take] at hie
      exact List.pairwise_iff_getElem.1 hnd i j (by omega) hjl (by omega) (by rw [hie, hge])
    have hA' : ∀ d, d ∈ NL.take (j + 1) ↔ d = cth NL j ∨ d ∈ NL.take j := by
      intro d
      rw [List.take_add_one, hget]
      simp only [Option.toList_some, List.mem_append, List.mem_singleton]
      exact Or.comm
    have rs := ri.step hc hcs hd.1 (by rw [hd.2.1, hcs]) hnotin hA'
    generalize cth NL j = d at *
    have hd4 := hd.1.len
    have htd : (ints d).take 4 = ints d := List.take_of_length_le (by simp [hd4])
    simp at htd
    obtain ⟨g2, ks, vs, st, hent⟩ := ent99 ri.w4 ri.wi hd4 g
    have hwr : IntKind.wrap .i64 ((j : Int) + 1) = (j : Int) + 1 := wrap_id (by omega) (by omega)
    have n1 : (wid == m.nx) = false := beq_eq_false_iff_ne.2 (by omega)
    have n2 : (lid == m.nx) = false := beq_eq_false_iff_ne.2 (by omega)
    have n3 : (tid == m.nx) = false := beq_eq_false_iff_ne.2 (by omega)
    have look1 := fun (h : Nat → Option AObj) (hh : h wid = some (.map g (keysL W) (valsL W))) (x : Nat) => lookI99 (m := ⟨h, x⟩) ri.w4 ri.wi hd4 hh
    have look2 := fun (h : Nat → Option AObj) (hh : h wid = some (.map g (keysL W) (valsL W))) (x : Nat) => lookI99 (m := ⟨h, x⟩) ri.w4 ri.wi hc4 hh
    have hupd := fun (h : Nat → Option AObj) (hh : h lid = some (.map g' (keysL Lt) (valsL Lt))) (x : Nat) => upd99 (v := .bool true) (m := ⟨h, x⟩) hh ri.l4 hd4
    obtain ⟨m', W', Lt', q, q', a1, a2, a3, a4, a5, a6, a7, a8⟩ := ih (j + 1) ⟨upd (upd (upd m.h m.nx none) wid (some (.map (g2 + 1) (keysL (setL W d (.int .i64 (IntKind.wrap .i64 (gI W d + gI W c))))) (valsL (setL W d (.int .i64 (IntKind.wrap .i64 (gI W d + gI W c)))))))) lid (some (.map (g' + 1) (keysL (setL Lt d (.bool true))) (valsL (setL Lt d (.bool true))))), m.nx + 1 + 10⟩ _ _ (g2 + 1) (g' + 1) (by omega) rs (by simp [b4]) (by simp) (by simp [b2, b3, n3, mt]) (by show wid < m.nx + 1 + 10; omega) (by show lid < m.nx + 1 + 10; omega) (by show tid < m.nx + 1 + 10; omega)
    refine ⟨m', W', Lt', q, q', a1, a2, a3, a4, a5, a6, a7, ?_⟩
    simp only [Int.natCast_add, Int.cast_ofNat_Int] at a8
    obtain ⟨e1, e2⟩ := hent (hp := upd m.h m.nx none) (id := wid) (by simp [n1, mw]) (m.nx + 1 + 7)
    have e3 := e2 (upd (upd m.h m.nx none) wid (some (.map g2 ks vs))) (by simp) (m.nx + 1 + 9)
    have l1 := look1 (upd m.h m.nx none) (by simp [n1, mw])
    have l2 := look2 (upd m.h m.nx none) (by simp [n1, mw])
    have u1 := hupd (upd (upd m.h m.nx none) wid (some (.map (g2 + 1) (keysL (setL W d (.int .i64 (IntKind.wrap .i64 (gI W d + gI W c))))) (valsL (setL W d (.int .i64 (IntKind.wrap .i64 (gI W d + gI W c)))))))) (by simp [b1, n2, ml])
    rw [← a8, watch_Courses.L4_eq]
    simp [hjl, hidx, hld, hd4, htd, hc4, htc, l1, l2, e1, e3, u1, hwr, Mem.set]
    done
theorem RoundI.re {k : Nat} {Z : List (List Int)} {c c' : List Int} {W Lt : Ents} (r : RoundI D N K k Z c [] W Lt) : RoundI D N K k Z c' [] W Lt :=
  ⟨r.w4, r.wi, r.l4, r.old, fun d h1 h2 => by have := r.new d h1 h2; simpa using this, r.far, r.lt, r.nd⟩
theorem keysL_erase (R : Ents) (i : Nat) : (keysL R).eraseIdx i = keysL (R.eraseIdx i) := (erase_map _ R i).symm
theorem valsL_erase (R : Ents) (i : Nat) : (valsL R).eraseIdx i = valsL (R.eraseIdx i) := (erase_map _ R i).symm
theorem mem_erase {R : Ents} (hn : (R.map (·.1)).Nodup) {i : Nat} {e : List Int × AV} (h : R[i]? = some e) : ((R.eraseIdx i).map (·.1)).Nodup ∧ ∀ x, x ∈ R.map (·.1) ↔ x = e.1 ∨ x ∈ (R.eraseIdx i).map (·.1) ∧ True := by
  induction R generalizing i with
  | nil => simp at h
  | cons a R ih =>
    have hn' : a.1 ∉ R.map (·.1) ∧ (R.map (·.1)).Nodup := List.nodup_cons.1 hn
    cases i with
    | zero =>
      simp at h
      subst h
      exact ⟨hn'.2, fun x => by simp⟩
    | succ i =>
      have h' : R[i]? = some e := by simpa using h
      obtain ⟨i1, i2⟩ := ih hn'.2 h'
      refine ⟨?_, fun x => ?_⟩
      · rw [List.eraseIdx_cons_succ, List.map_cons, List.nodup_cons]
        exact ⟨fun x => hn'.1 ((i2 _).2 (.inr ⟨x, trivial⟩)), i1⟩
      · rw [List.eraseIdx_cons_succ, List.map_cons, List.map_cons, List.mem_cons, List.mem_cons, i2]
        constructor
        · rintro (x | x | ⟨x, _⟩)
          · exact .inr ⟨.inl x, trivial⟩
          · exact .inl x
          · exact .inr ⟨.inr x, trivial⟩
        · rintro (x | ⟨x | x, _⟩)
          · exact .inr (.inl x)
          · exact .inl x
          · exact .inr (.inr ⟨x, trivial⟩)
theorem not_erase {R : Ents} (hn : (R.map (·.1)).Nodup) {i : Nat} {e : List Int × AV} (h : R[i]? = some e) : e.1 ∉ (R.eraseIdx i).map (·.1) := by
  induction R generalizing i with
  | nil => simp at h
  | cons a R ih =>
    have hn' : a.1 ∉ R.map (·.1) ∧ (R.map (·.1)).Nodup := List.nodup_cons.1 hn
    cases i with
    | zero => simp at h; subst h; exact hn'.1
    | succ i =>
      have h' : R[i]? = some e := by simpa using h
      rw [List.eraseIdx_cons_succ, List.map_cons, List.mem_cons]
      rintro (x | x)
      · have : e.1 ∈ R.map (·.1) := List.mem_map.2 ⟨e, List.mem_of_getElem? h', rfl⟩
        rw [x] at this; exact hn'.1 this
      · exact ih hn'.2 h' x
theorem cou_range (kk : Clocks D N K) (s : IsStory sv D.length (pad D) K) {k : Nat} {W0 Lv : Ents} (lev : LevelI D N K k W0 Lv) {wid lid tid : Nat} (h1 : wid ≠ lid) (h2 : wid ≠ tid) (h3 : lid ≠ tid) (K0 : List Item) {res : Res}
    (post : ∀ (m' : Mem) (W' Lt' : Ents) (g g' : Nat), LevelI D N K (k + 1) W' Lt' → m'.h wid = some (.map g (keysL W') (valsL W')) → m'.h lid = some (.map g' (keysL Lt') (valsL Lt')) → wid < m'.nx → lid < m'.nx → watch_Courses.L0 sv (.map wid) (.map lid) m' K0 = some res) :
    ∀ (n : Nat) (R : Ents) (Z : List (List Int)) (m : Mem) (W Lt : Ents) (g g' : Nat) (cur : List AV), R.length = n → RoundI D N K k Z [] [] W Lt → Z.Nodup → (R.map (·.1)).Nodup → (∀ x ∈ Z, x ∉ R.map (·.1)) → (∀ x, x ∈ Lv.map (·.1) ↔ x ∈ Z ∨ x ∈ R.map (·.1)) →
    m.h wid = some (.map g (keysL W) (valsL W)) → m.h lid = some (.map g' (keysL Lt) (valsL Lt)) → m.h tid = some (.iter cur (keysL R) (valsL R)) → wid < m.nx → lid < m.nx → tid < m.nx →
    watch_Courses.L2 sv (.map wid) (.map lid) (.iter tid) m (.code watch_Courses.r17 :: .inBlock 1 :: .inLoop watch_Courses.l0 :: .inBlock 0 :: K0) = some res := by
  have hfz := s.frz
  have hscl := s.closed
  have b2 : (tid == wid) = false := beq_eq_false_iff_ne.2 (fun e => h2 e.symm)
  have b3 : (tid == lid) = false := beq_eq_false_iff_ne.2 (fun e => h3 e.symm)
  have c2 : (wid == tid) = false := beq_eq_false_iff_ne.2 h2
  have c3 : (lid == tid) = false := beq_eq_false_iff_ne.2 h3
  intro n
  induction n with
  | zero =>
    intro R Z m W Lt g g' cur hR ri hZ hRn hdis hcov mw ml mt w1 w2 w3
    have : R = [] := by simpa using hR
    subst this
    have l' := lev.next kk hZ (fun x => by rw [hcov]; simp) ri
    have := post m W Lt g g' l' mw ml w1 w2
    rw [watch_Courses.L2_eq, ← this]
    simp [nextM_nil (s := ⟨[(4, sv), (6, .map wid), (8, .map lid), (34, .iter tid)], 66, m⟩) mt]
    done
  | succ n ih =>
    intro R Z m W Lt g g' cur hR ri hZ hRn hdis hcov mw ml mt w1 w2 w3
    have hne : keysL R ≠ [] := by
      intro e
      have := congrArg List.length e
      simp [keysL, hR] at this
    rw [watch_Courses.L2_eq]
    simp only [watch_Courses.r9_eq]
    simp
    refine nextM_cons (s := ⟨[(4, sv), (6, .map wid), (8, .map lid), (34, .iter tid)], 66, m⟩) mt hne (by simp [keysL, valsL]) fun i a v ha hv => ?_
    obtain ⟨e, he⟩ : ∃ e, R[i]? = some e := by
      have hi := (List.getElem?_eq_some_iff.1 ha).1
      exact ⟨_, List.getElem?_eq_getElem (by simpa [keysL] using hi)⟩
    have ha' : a = .agg (ints e.1) := by
      simp only [keysL, List.getElem?_map, he, Option.map_some] at ha
      exact (Option.some.inj ha).symm
    subst ha'
    rw [keysL_erase, valsL_erase]
    have hmem : e.1 ∈ R.map (·.1) := List.mem_map.2 ⟨e, List.mem_of_getElem? he, rfl⟩
    obtain ⟨hc, hpos⟩ := (lev.mem e.1).1 ((hcov _).2 (.inr hmem))
    have hcs : dsum D e.1 = k := ways_sum kk.P.L hpos
    obtain ⟨q1, q2⟩ := mem_erase hRn he
    have q3 := not_erase hRn he
    have hnx := fun m => next_spec s hc m
    have hZe : e.1 ∉ Z := fun x => hdis _ x hmem
    have hlen : (R.eraseIdx i).length = n := by
      have := List.length_eraseIdx_of_lt (List.getElem?_eq_some_iff.1 he).1
      omega
    have hn1 : (wid == m.nx) = false := beq_eq_false_iff_ne.2 (by omega)
    have hn2 : (lid == m.nx) = false := beq_eq_false_iff_ne.2 (by omega)
    have hn3 : (tid == m.nx) = false := beq_eq_false_iff_ne.2 (by omega)
    generalize R.eraseIdx i = R' at *
    generalize e.1 = c at *
    have hc4 := hc.len
    have htc : (ints c).take 4 = ints c := List.take_of_length_le (by simp [hc4])
    simp at htc
    obtain ⟨m', W', Lt', p, p', a1, a2, a3, a4, a5, a6, a7, a8⟩ := cou_inner kk s (Z := Z) hc hcs h1 h2 h3 (O := some (.iter [.agg (ints c), v] (keysL R') (valsL R'))) (.code watch_Courses.r17 :: .inBlock 1 :: .inLoop watch_Courses.l0 :: .inBlock 0 :: K0) (nx4 D K c).length 0 ⟨upd (upd m.h tid (some (.iter [.agg (ints c), v] (keysL R') (valsL R')))) m.nx none, m.nx + 1⟩ W Lt g g' (by omega) (by rw [List.take_zero]; exact ri.re) (by simp [hn1, c2, mw]) (by simp [hn2, c3, ml]) (by simp [hn3]) (by show wid < m.nx + 1; omega) (by show lid < m.nx + 1; omega) (by show tid < m.nx + 1; omega)
    have fin := ih R' (c :: Z) m' W' Lt' p p' [.agg (ints c), v] hlen ((a1.done []).re) (List.nodup_cons.2 ⟨hZe, hZ⟩) q1 (fun x hx => by
        rcases List.mem_cons.1 hx with rfl | hx
        · exact q3
        · exact fun y => hdis x hx ((q2 x).2 (.inr ⟨y, trivial⟩))) (fun x => by
        rw [hcov, q2, List.mem_cons]
        constructor
        · rintro (y | y | ⟨y, _⟩)
          · exact .inl (.inr y)
          · exact .inl (.inl y)
          · exact .inr y
        · rintro ((y | y) | y)
          · exact .inr (.inl y)
          · exact .inl y
          · exact .inr (.inr ⟨y, trivial⟩)) a2 a3 a4 a5 a6 a7
    rw [← fin, ← a8]
    have hl := (nextV_is (nx4 D K c)).len
    simp [Mem.set, curA, hn3, hc4, htc, hscl, hnx, hl]
    done
theorem lk_nodup : ∀ {L : Ents} {e : List Int × AV}, (L.map (·.1)).Nodup → e ∈ L → lkL L e.1 = some e.2
  | a :: L, e, hn, he => by
    have hn' : a.1 ∉ L.map (·.1) ∧ (L.map (·.1)).Nodup := List.nodup_cons.1 hn
    rw [lkL]
    rcases List.mem_cons.1 he with rfl | he
    · rw [if_pos rfl]
    · rw [if_neg (fun x => hn'.1 (by rw [x]; exact List.mem_map.2 ⟨e, he, rfl⟩))]
      exact lk_nodup hn'.2 he
theorem LevelI.closed {k : Nat} {W Lv : Ents} (l : LevelI D N K k W Lv) : closedL (valsL Lv) = true := by
  have key : ∀ L : Ents, (∀ e ∈ L, e.2 = .bool true) → closedL (valsL L) = true := by
    intro L
    induction L with
    | nil => intro _; rfl
    | cons e L ih =>
      intro h
      have := ih fun x hx => h x (by simp [hx])
      simp only [valsL] at this
      simp [valsL, h e (by simp), this]
  refine key Lv fun e he => ?_
  have := lk_nodup l.nd he
  rw [l.lv] at this
  split at this
  · exact (Option.some.inj this).symm
  · cases this
theorem cou_levels (kk : Clocks D N K) (s : IsStory sv D.length (pad D) K) (rc : Reach D N D) : ∀ (n k : Nat) (m : Mem) (W Lv : Ents) (g g' wid lid : Nat), n + k = D.sum.toNat → LevelI D N K k W Lv → m.h wid = some (.map g (keysL W) (valsL W)) → m.h lid = some (.map g' (keysL Lv) (valsL Lv)) → wid ≠ lid → wid < m.nx → lid < m.nx →
    watch_Courses.L0 sv (.map wid) (.map lid) m [.code watch_Courses.r18, .code .ret] = some (.tup [.int .i64 (IntKind.wrap .i64 (waysN D N D.sum.toNat D)), .int .i64 0], Mem.empty) := by
  have hfz := s.frz
  have hscl := s.closed
  have hpc := isCut_pad kk.P
  have hp4 := hpc.len
  obtain ⟨V, e0, hV, hS⟩ := s.V
  have hld : loadF true 4 (.fptr (ints (pad D) ++ V)) = some (.agg (ints (pad D))) := by
    have hle : 4 ≤ (ints (pad D) ++ V).length := by simp [hp4]
    have ht : (ints (pad D) ++ V).take 4 = ints (pad D) := by rw [List.take_append_of_le_length (by simp [hp4]), List.take_of_length_le (by simp [hp4])]
    simp only [loadF, ht, cond_true, Nat.ble_eq_true_of_le hle]
  have hfa : fieldA 1 sv = some (.fptr (ints (pad D) ++ V)) := by rw [e0]; rfl
  have hni : nilA sv = some sv := by rw [e0]; rfl
  have hsum0 : 0 ≤ D.sum := by
    obtain ⟨w, g, e⟩ := word_reach kk.P rc
    have := cntW_sum D.length w (good_lt w g)
    rw [e] at this; omega
  intro n
  induction n with
  | zero =>
    intro k m W Lv g g' wid lid hk lev mw ml hne w1 w2
    have hks : (k : Int) = D.sum := by omega
    have hst := lev.stop kk.P rc
    rw [if_pos hks] at hst
    have l1 := lookM99 ml lev.l4 hp4 (.bool false) false
    rw [hst] at l1
    have l2 := lookI99 lev.w4 lev.wi hp4 mw
    rw [lev.old _ hpc (by rw [dsum, pad_takeD]; omega), W4, pad_takeD, show k = D.sum.toNat by omega] at l2
    simp only [cond_false] at l1
    rw [watch_Courses.L0_eq]
    simp [hni, hfa, hld, l1, l2]
    done
  | succ n ih =>
    intro k m W Lv g g' wid lid hk lev mw ml hne w1 w2
    have hks : ¬ (k : Int) = D.sum := by omega
    have hst := lev.stop kk.P rc
    rw [if_neg hks] at hst
    have l1 := lookM99 ml lev.l4 hp4 (.bool false) false
    rw [hst] at l1
    simp only [cond_false] at l1
    have n1 : (wid == m.nx) = false := beq_eq_false_iff_ne.2 (by omega)
    have n2 : (lid == m.nx) = false := beq_eq_false_iff_ne.2 (by omega)
    have n3 : (wid == m.nx + 1) = false := beq_eq_false_iff_ne.2 (by omega)
    have n4 : (wid == lid) = false := beq_eq_false_iff_ne.2 hne
    have n5 : (m.nx == lid) = false := beq_eq_false_iff_ne.2 (by omega)
    have n6 : (m.nx == m.nx + 1) = false := beq_eq_false_iff_ne.2 (by omega)
    have hcl := lev.closed
    have hck := keysL_closed Lv
    have fin := cou_range kk s lev (wid := wid) (lid := m.nx) (tid := m.nx + 1) (by omega) (by omega) (by omega) [.code watch_Courses.r18, .code .ret] (res := (.tup [.int .i64 (IntKind.wrap .i64 (waysN D N D.sum.toNat D)), .int .i64 0], Mem.empty)) (fun m' W' Lt' q q' l' a b w1 w2 => ih (k + 1) m' W' Lt' q q' wid m.nx (by omega) l' a b (by omega) w1 w2)
      Lv.length Lv [] ⟨upd (upd (upd m.h m.nx (some (.map 0 [] []))) lid none) (m.nx + 1) (some (.iter [] (keysL Lv) (valsL Lv))), m.nx + 1 + 1⟩ W [] g 0 [] rfl (lev.start []) List.nodup_nil lev.nd (fun _ h => by cases h) (fun x => by simp) (by simp [n1, n3, n4, mw]) (by simp [n5, n6, keysL, valsL]) (by simp) (by show wid < m.nx + 1 + 1; omega) (by show m.nx < m.nx + 1 + 1; omega) (by show m.nx + 1 < m.nx + 1 + 1; omega)
    rw [← fin, watch_Courses.L0_eq]
    simp [hni, hfa, hld, l1, frz1_map, frzM, n2, ml, hcl, hck, rangeA, Mem.set, Mem.new]
    done
end
structure CouRes (D : List Int) (N : List Note) (v : Int) (e : Int) : Prop where
  ok : ValidS D N → v = IntKind.wrap .i64 (waysN D N D.sum.toNat D) ∧ e = 0
  no : ¬ ValidS D N → v = 0 ∧ e = 1
theorem cou_spec {v : AV} {D : List Int} {N : List Note} (hs : IsTale v D N) (hl : D.length < 100000) (hn : N.length < 100000) :
    ∃ r e, CouRes D N r e ∧ ∀ m, denC prog ann 36 [v] m = some (.tup [.int .i64 r, .int .i64 e], m) := by
  have hs' := hs
  obtain ⟨r, hr, er⟩ := readV_spec hs hl hn
  obtain ⟨vD, vN, rfl, h1, h2⟩ := hs.ex
  have hcl : closedL [.agg [vD, vN]] = true := by simp [h1.closed, h2.closed]
  cases hr with
  | no h =>
    refine ⟨0, 1, ⟨fun v => absurd v h, fun _ => ⟨rfl, rfl⟩⟩, fun m => ?_⟩
    rw [watch_Courses.call_eq _ _ hcl]
    simp [h1.one, h2.one, h1.closed, h2.closed, er]
  | @ok sv K val kk s =>
    refine ⟨_, 0, ⟨fun _ => ⟨rfl, rfl⟩, fun h => absurd val h⟩, fun m => ?_⟩
    have fin := fun (m : Mem) (a : m.h 0 = some (.map 1 [.agg [.int .i64 0, .int .i64 0, .int .i64 0, .int .i64 0]] [.int .i64 1])) (b : m.h 1 = some (.map 1 [.agg [.int .i64 0, .int .i64 0, .int .i64 0, .int .i64 0]] [.bool true])) (c : 2 ≤ m.nx) => cou_levels kk s val.all D.sum.toNat 0 m _ _ 1 1 0 1 (by omega) (LevelI.zero kk.P) a b (by omega) (by omega) (by omega)
    have u1 := fun m => upd99 (L := []) (c := [0, 0, 0, 0]) (m := m) (id := 0) (g := 0) (v := .int .i64 1)
    have u2 := fun m => upd99 (L := []) (c := [0, 0, 0, 0]) (m := m) (id := 1) (g := 0) (v := .bool true)
    simp [keysL, valsL, setL, Keys4, Mem.set] at u1 u2
    rw [watch_Courses.call_eq _ _ hcl]
    simp [h1.one, h2.one, h1.closed, h2.closed, er, s.one, s.closed, u1, u2, fin]
    done
end Go.Proofs.Ytdkmepjedjclkaa

/-
  BODIES OF FUNCTIONS OF THE PROGRAM AS SMALL OPERATIONS (written by gen.py; checked by the kernel against the program). Conditions: none.
-/
namespace Go.Proofs.Ytdkmepjedjclkaa
open Go.AM
open Go.Proofs.Try (prog)
set_option maxRecDepth 100000
set_option linter.all false
end Go.Proofs.Ytdkmepjedjclkaa

/-
  WatchMattern RETURNS TRUE. Conditions: none.
-/
namespace Go.Proofs.Ytdkmepjedjclkaa
open Go.AM
open Go.Proofs.Try (prog)
set_option linter.all false
set_option maxRecDepth 100000
set_option maxHeartbeats 4000000
section
variable {D : List Int} {N : List Note} {K : List (List (List Int))}
variable {vD vN : AV}
end
end Go.Proofs.Ytdkmepjedjclkaa

/-
  BODIES OF FUNCTIONS OF THE PROGRAM AS SMALL OPERATIONS (written by gen.py; checked by the kernel against the program). Conditions: none.
-/
namespace Go.Proofs.Ytdkmepjedjclkaa
open Go.AM
open Go.Proofs.Try (prog)
set_option maxRecDepth 100000
set_option linter.all false
end Go.Proofs.Ytdkmepjedjclkaa

/-
  WatchBirkhoff RETURNS TRUE. Conditions: none.
-/
namespace Go.Proofs.Ytdkmepjedjclkaa
open Go.AM
open Go.Proofs.Try (prog)
set_option linter.all false
set_option maxRecDepth 100000
set_option maxHeartbeats 4000000
inductive CutsRes (D : List Int) (N : List Note) : Int → Int → Prop where
  | bad (h : ¬ ValidS D N) : CutsRes D N 0 1
  | ok (v : ValidS D N) : CutsRes D N (cutsL D N).length 0
section
variable {D : List Int} {N : List Note} {K : List (List (List Int))} {vD vN vl : AV} {l : List Int}
end
end Go.Proofs.Ytdkmepjedjclkaa

/-
  BODIES OF FUNCTIONS OF THE PROGRAM AS SMALL OPERATIONS (written by gen.py; checked by the kernel against the program). Conditions: none.
-/
namespace Go.Proofs.Ytdkmepjedjclkaa
open Go.AM
open Go.Proofs.Try (prog)
set_option maxRecDepth 100000
set_option linter.all false
end Go.Proofs.Ytdkmepjedjclkaa

/-
  WatchTurned RETURNS TRUE. Conditions: none.
-/
namespace Go.Proofs.Ytdkmepjedjclkaa
open Go.AM
open Go.Proofs.Try (prog)
set_option linter.all false
set_option maxRecDepth 100000
set_option maxHeartbeats 4000000
def nvX (oid : Nat) (acc : List Note) : AV := if acc = [] then .nils else .sl oid 4 0 acc.length (acc.length * 4)
structure TAt (m : Mem) (vD : AV) (acc : List Note) (oid : Nat) : Prop where
  r : m.h 1 = some (.cells [vD, nvX oid acc])
  o : acc ≠ [] → m.h oid = some (.cells (flatC noteC acc)) ∧ oid < m.nx ∧ oid ≠ 1
  l : 1 < m.nx
section
variable {D : List Int} {N : List Note} {vD vN : AV}
end
end Go.Proofs.Ytdkmepjedjclkaa
