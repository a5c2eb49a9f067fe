/-
  THE ABSTRACT MACHINE: equality, and keys of maps. Conditions: none.
-/
import Derived.Test.YtdkmepjedjclkaaAmOps2
import Derived.ChangeKeysEq
namespace Go.AM

theorem scV_T {P : Program} {t : TypeId} {a : AV} (h : scV P t a = true) : scT P t = true := by
  unfold scV at h
  unfold scT
  split at h <;> simp_all

theorem scT_agg {P : Program} {t : TypeId} (h : scT P t = true) : aggT P t = some false := by
  unfold scT at h
  unfold aggT
  split at h <;> simp_all

theorem part_sc {P : Program} {w : World} {t : TypeId} {vs : Array Value} {off : Nat} {x : Value} (h : scT P t = true) (hx : vs[off]? = some x) : (part t vs off).run P w = .ok x w := by
  have h1 : (isAgg t).run P w = .ok false w := run_isAgg (scT_agg h) w
  simp [part, h1, hx]

theorem eqSc_run {P : Program} {w : World} {N : Nat → Prop} {i : Pl} {t : TypeId} {a b : AV} {x y : Value} {r : Bool} (d : Nat) (ha : scV P t a = true) (hb : scV P t b = true) (hr : eqSc a b = some r) (hx : Rep w N i a x) (hy : Rep w N i b y) :
    (Op.equalIn (d + 1) t x y).run P w = .ok r w := by
  cases a <;> cases b <;> simp [eqSc] at hr
  · cases hx; cases hy
    subst hr
    have : P.underlying t = some .bool := by unfold scV at ha; split at ha <;> simp_all
    exact run_equalIn_bool' w d t _ _ this
  · cases hx; cases hy
    rename_i k n k' n'
    by_cases e : k = k'
    · subst e
      simp at hr
      subst hr
      have : ∃ q, P.underlying t = some (.int q) := by unfold scV at ha; split at ha <;> simp_all
      obtain ⟨q, hq⟩ := this
      exact run_equalIn_int w d t k q _ _ hq
    · simp [e] at hr
  · cases hx; cases hy
    subst hr
    have : P.underlying t = some .string := by unfold scV at ha; split at ha <;> simp_all
    rw [run_equalIn_string w d t _ _ this, str_toList, str_toList]

theorem eqFields_run {P : Program} {w : World} {N : Nat → Prop} {i : Pl} {vs us : Array Value} (d : Nat) : ∀ (fs : List Field) (k : Nat) (xs ys : List AV) (r : Bool),
    (fs.zipIdx k).all (fun p => p.1.name != "_" && (scT P p.1.type && p.1.offset == p.2)) = true → eqCs P (fs.map (·.type)) xs ys = some r →
    RepL w N i xs (vs.toList.drop k) → RepL w N i ys (us.toList.drop k) → (Op.eqFields (d + 1) vs us fs).run P w = .ok r w
  | [], k, xs, ys, r, _, h, _, _ => by
    cases xs <;> cases ys <;> simp [eqCs] at h
    subst h
    rfl
  | f :: fs, k, xs, ys, r, hall, h, hx, hy => by
    cases xs with
    | nil => simp [eqCs] at h
    | cons a as =>
      cases ys with
      | nil => simp [eqCs] at h
      | cons b bs =>
        simp only [List.map_cons, eqCs] at h
        cases hc : (scV P f.type a && scV P f.type b) with
        | false => simp [hc] at h
        | true =>
          simp only [hc, cond_true, Option.bind_eq_some_iff] at h
          obtain ⟨r0, h0, h⟩ := h
          simp only [Bool.and_eq_true] at hc
          simp only [List.zipIdx_cons, List.all_cons, Bool.and_eq_true, bne_iff_ne, ne_eq, beq_iff_eq] at hall
          obtain ⟨⟨hn, hs, ho⟩, hall⟩ := hall
          obtain ⟨x, xr, ex, hx1, hx2⟩ := hx
          obtain ⟨y, yr, ey, hy1, hy2⟩ := hy
          have gx : vs[k]? = some x := by
            have : (vs.toList.drop k)[0]? = some x := by rw [ex]; rfl
            simpa using this
          have gy : us[k]? = some y := by
            have : (us.toList.drop k)[0]? = some y := by rw [ey]; rfl
            simpa using this
          have tx : xr = vs.toList.drop (k + 1) := by rw [← List.drop_drop, ex]; rfl
          have ty : yr = us.toList.drop (k + 1) := by rw [← List.drop_drop, ey]; rfl
          rw [tx] at hx2
          rw [ty] at hy2
          have p1 := part_sc (P := P) (w := w) hs (off := f.offset) (ho ▸ gx)
          have p2 := part_sc (P := P) (w := w) hs (off := f.offset) (ho ▸ gy)
          have p3 := eqSc_run d hc.1 hc.2 h0 hx1 hy1
          simp only [Op.eqFields, if_pos hn, Sem.run_bind, p1, p2, p3, Result.andThen_ok]
          cases r0 with
          | false => simp at h; subst h; rfl
          | true => simpa using eqFields_run d fs (k + 1) as bs r hall h hx2 hy2

theorem eqItems_run {P : Program} {w : World} {N : Nat → Prop} {i : Pl} {vs us : Array Value} (d : Nat) {e : TypeId} (he : scT P e = true) : ∀ (n k : Nat) (xs ys : List AV) (r : Bool),
    eqCs P (List.replicate n e) xs ys = some r → RepL w N i xs (vs.toList.drop k) → RepL w N i ys (us.toList.drop k) → (Op.eqItems (d + 1) e 1 vs us (List.range' k n)).run P w = .ok r w
  | 0, k, xs, ys, r, h, _, _ => by
    cases xs <;> cases ys <;> simp [eqCs] at h
    subst h
    rfl
  | n + 1, k, xs, ys, r, h, hx, hy => by
    cases xs with
    | nil => simp [eqCs, List.replicate_succ] at h
    | cons a as =>
      cases ys with
      | nil => simp [eqCs, List.replicate_succ] at h
      | cons b bs =>
        simp only [List.replicate_succ, eqCs] at h
        cases hc : (scV P e a && scV P e b) with
        | false => simp [hc] at h
        | true =>
          simp only [hc, cond_true, Option.bind_eq_some_iff] at h
          obtain ⟨r0, h0, h⟩ := h
          simp only [Bool.and_eq_true] at hc
          obtain ⟨x, xr, ex, hx1, hx2⟩ := hx
          obtain ⟨y, yr, ey, hy1, hy2⟩ := hy
          have gx : vs[k]? = some x := by
            have : (vs.toList.drop k)[0]? = some x := by rw [ex]; rfl
            simpa using this
          have gy : us[k]? = some y := by
            have : (us.toList.drop k)[0]? = some y := by rw [ey]; rfl
            simpa using this
          have tx : xr = vs.toList.drop (k + 1) := by rw [← List.drop_drop, ex]; rfl
          have ty : yr = us.toList.drop (k + 1) := by rw [← List.drop_drop, ey]; rfl
          rw [tx] at hx2
          rw [ty] at hy2
          have p1 := part_sc (P := P) (w := w) he (off := k * 1) (by simpa using gx)
          have p2 := part_sc (P := P) (w := w) he (off := k * 1) (by simpa using gy)
          have p3 := eqSc_run d hc.1 hc.2 h0 hx1 hy1
          simp only [List.range'_succ, Op.eqItems, Sem.run_bind, p1, p2, p3, Result.andThen_ok]
          cases r0 with
          | false => simp at h; subst h; rfl
          | true => simpa using eqItems_run d he n (k + 1) as bs r h hx2 hy2

/-- Equality of two aggregates. -/
theorem eqAgg_run {P : Program} {w : World} {N : Nat → Prop} {i : Pl} {t : TypeId} {ts : List TypeId} {xs ys : List AV} {vs us : Array Value} {r : Bool} (d : Nat) (ht : flatT P t = some ts) (hr : eqCs P ts xs ys = some r)
    (hx : RepL w N i xs vs.toList) (hy : RepL w N i ys us.toList) : (Op.equalIn (d + 2) t (.agg vs) (.agg us)).run P w = .ok r w := by
  unfold flatT at ht
  split at ht
  · rename_i fs hu
    cases hc : (!P.stoodInHeld t && fs.toList.zipIdx.all (fun p => p.1.name != "_" && (scT P p.1.type && p.1.offset == p.2))) with
    | false => simp [hc] at ht
    | true =>
      simp only [hc, cond_true, Option.some.injEq] at ht
      subst ht
      simp only [Bool.and_eq_true, Bool.not_eq_true'] at hc
      have hf : P.fieldsOf t = fs := by simp [Program.fieldsOf, hu]
      rw [show d + 2 = (d + 1) + 1 from rfl, run_equalIn_struct w (d + 1) t vs us (by rw [hf]; exact hu) hc.1, hf]
      exact eqFields_run d fs.toList 0 xs ys r hc.2 hr (by simpa using hx) (by simpa using hy)
  · rename_i n e hu
    cases hc : (scT P e && ((P.info? e).map (·.size) == some 1)) with
    | false => simp [hc] at ht
    | true =>
      simp only [hc, cond_true, Option.some.injEq] at ht
      subst ht
      simp only [Bool.and_eq_true, beq_iff_eq] at hc
      obtain ⟨hs, h1⟩ := hc
      obtain ⟨j, hj, hj1⟩ := Option.map_eq_some_iff.1 h1
      have hce : P.cellsOf e = 1 := by simp [Program.cellsOf, hj, hj1]
      rw [show d + 2 = (d + 1) + 1 from rfl, run_equalIn_array w (d + 1) vs us hu hj, hce, List.range_eq_range']
      exact eqItems_run d hs n 0 xs ys r hr (by simpa using hx) (by simpa using hy)
  · cases ht

theorem eqGuardType_sc {P : Program} {t : TypeId} (d : Nat) (h : scT P t = true) : P.eqGuardType (d + 1) t = false := by
  unfold scT at h
  unfold Program.eqGuardType
  split at h <;> simp_all

theorem eqGuardType_flat {P : Program} {t : TypeId} {ts : List TypeId} (d : Nat) (ht : flatT P t = some ts) : P.eqGuardType (d + 2) t = false := by
  unfold flatT at ht
  unfold Program.eqGuardType
  split at ht
  · rename_i fs hu
    cases hc : (!P.stoodInHeld t && fs.toList.zipIdx.all (fun p => p.1.name != "_" && (scT P p.1.type && p.1.offset == p.2))) with
    | false => simp [hc] at ht
    | true =>
      simp only [Bool.and_eq_true, Bool.not_eq_true'] at hc
      rw [hu]
      simp only
      rw [← Array.any_toList, List.any_eq_false]
      intro f hf
      obtain ⟨j, hj, e⟩ := List.mem_iff_getElem.1 hf
      have := List.all_eq_true.1 hc.2 (f, j) (by rw [List.mem_zipIdx_iff_getElem?]; rw [List.getElem?_eq_getElem hj, e])
      simp only [Bool.and_eq_true] at this
      simp [eqGuardType_sc d this.2.1]
  · rename_i n e hu
    cases hc : (scT P e && ((P.info? e).map (·.size) == some 1)) with
    | false => simp [hc] at ht
    | true =>
      simp only [Bool.and_eq_true] at hc
      rw [hu]
      exact eqGuardType_sc d hc.1
  · cases ht

theorem eqA_run {P : Program} {w : World} {N : Nat → Prop} {i : Pl} {t : TypeId} {x y : AV} {v u : Value} {r : Bool} (xo yo : Operand) (op : BinOp) (ht : eqT P t x = true) (hr : eqA P t x y = some r) (hx : Rep w N i x v) (hy : Rep w N i y u) :
    (eqGuard op t xo yo v u).run P w = .ok () w ∧ (Op.equal t v u).run P w = .ok r w := by
  have plain : (∀ vs, v ≠ .agg vs) ∧ v ≠ .nilIface → (eqGuard op t xo yo v u).run P w = .ok () w := fun h => by rw [eqGuard_scalar h]; rfl
  have sl0 : ∀ d e, P.underlying t = some (.slice e) → ∀ a b n c n' c', (a = none ∨ b = none) → (Op.equalIn (d + 1) t (.slice a n c) (.slice b n' c')).run P w = .ok (a.isNone && b.isNone) w := by
    intro d e hu a b n c n' c' h
    cases a <;> cases b <;> simp [Op.equalIn, run_underlying hu] at h ⊢
  have pt0 : ∀ d e, P.underlying t = some (.pointer e) → ∀ a b, (a = none ∨ b = none) → (Op.equalIn (d + 1) t (.pointer a) (.pointer b)).run P w = .ok (a.isNone && b.isNone) w := by
    intro d e hu a b h
    cases a <;> cases b <;> simp [Op.equalIn, run_underlying hu] at h ⊢
  have sl : ∀ e, P.underlying t = some (.slice e) → ∀ a b n c n' c', (a = none ∨ b = none) → (Op.equal t (.slice a n c) (.slice b n' c')).run P w = .ok (a.isNone && b.isNone) w := sl0 9999
  have pt : ∀ e, P.underlying t = some (.pointer e) → ∀ a b, (a = none ∨ b = none) → (Op.equal t (.pointer a) (.pointer b)).run P w = .ok (a.isNone && b.isNone) w := pt0 9999
  clear sl0 pt0
  have ks : (x = .nils ∨ (∃ ex n cs, x = .fsl ex n cs) ∨ (∃ id es off n top, x = .sl id es off n top)) → ∃ e, P.underlying t = some (.slice e) := by
    rintro (rfl | ⟨_, _, _, rfl⟩ | ⟨_, _, _, _, _, rfl⟩) <;> (unfold eqT at ht; split at ht <;> simp_all)
  have kp : (x = .nilp ∨ (∃ cs, x = .fptr cs) ∨ (∃ id off top, x = .ptr id off top)) → ∃ e, P.underlying t = some (.pointer e) := by
    rintro (rfl | ⟨_, rfl⟩ | ⟨_, _, _, rfl⟩) <;> (unfold eqT at ht; split at ht <;> simp_all)
  cases x <;> cases y <;> simp only [eqA] at hr <;> try (cases hr; done)
  · -- bool
    cases hx; cases hy
    cases hr
    have : P.underlying t = some .bool := by unfold eqT at ht; split at ht <;> simp_all
    exact ⟨plain (by simp), run_equalIn_bool' w 9999 t _ _ this⟩
  · cases hr; cases hx; cases hy
    obtain ⟨e, he⟩ := kp (.inl rfl)
    exact ⟨plain (by simp), pt e he none none (.inl rfl)⟩
  · cases hr; cases hx; obtain ⟨b, o, c, _, rfl⟩ := hy
    obtain ⟨e, he⟩ := kp (.inl rfl)
    exact ⟨plain (by simp), pt e he none _ (.inl rfl)⟩
  · cases hr; cases hx; obtain ⟨b, o, c, _, rfl, _⟩ := hy
    obtain ⟨e, he⟩ := kp (.inl rfl)
    exact ⟨plain (by simp), pt e he none _ (.inl rfl)⟩
  · cases hr; cases hy; obtain ⟨b, o, c, _, rfl⟩ := hx
    obtain ⟨e, he⟩ := kp (.inr (.inr ⟨_, _, _, rfl⟩))
    exact ⟨plain (by simp), pt e he _ none (.inr rfl)⟩
  · cases hr; cases hy; obtain ⟨b, o, c, _, rfl, _⟩ := hx
    obtain ⟨e, he⟩ := kp (.inr (.inl ⟨_, rfl⟩))
    exact ⟨plain (by simp), pt e he _ none (.inr rfl)⟩
  · cases hr; cases hx; cases hy
    obtain ⟨e, he⟩ := ks (.inl rfl)
    exact ⟨plain (by simp), sl e he none none _ _ _ _ (.inl rfl)⟩
  · cases hr; cases hx; obtain ⟨b, o, c, off, cap, _, rfl, _⟩ := hy
    obtain ⟨e, he⟩ := ks (.inl rfl)
    exact ⟨plain (by simp), sl e he none _ _ _ _ _ (.inl rfl)⟩
  · cases hr; cases hx; obtain ⟨a, cap, vs, rfl, _⟩ := hy
    obtain ⟨e, he⟩ := ks (.inl rfl)
    exact ⟨plain (by simp), sl e he none _ _ _ _ _ (.inl rfl)⟩
  · cases hr; cases hy; obtain ⟨b, o, c, off, cap, _, rfl, _⟩ := hx
    obtain ⟨e, he⟩ := ks (.inr (.inr ⟨_, _, _, _, _, rfl⟩))
    exact ⟨plain (by simp), sl e he _ none _ _ _ _ (.inr rfl)⟩
  · cases hr; cases hy; obtain ⟨a, cap, vs, rfl, _⟩ := hx
    obtain ⟨e, he⟩ := ks (.inr (.inl ⟨_, _, _, rfl⟩))
    exact ⟨plain (by simp), sl e he _ none _ _ _ _ (.inr rfl)⟩
  · rename_i xs ys
    obtain ⟨vs, rfl, hx⟩ := hx
    obtain ⟨us, rfl, hy⟩ := hy
    simp only [Option.bind_eq_some_iff] at hr
    obtain ⟨ts, hts, hr⟩ := hr
    cases hc : (xs.length == ts.length && ys.length == ts.length) with
    | false => simp [hc] at hr
    | true =>
      simp only [hc, cond_true] at hr
      exact ⟨run_eqGuard_agg w op t xo yo vs us (eqGuardType_flat _ hts), eqAgg_run 9998 hts hr hx hy⟩

/-- Values at which '==' is the model's general equality. -/
def Plain : Value → Prop
  | .int .. | .float .. | .complex .. | .string _ => False
  | _ => True

theorem binOp_plain {t : TypeId} {v u : Value} (h : Plain v) : binOp .eql t v u = (do pure (.bool (← Op.equal t v u))) ∧ binOp .neq t v u = (do pure (.bool (!(← Op.equal t v u)))) := by
  cases v <;> first | exact h.elim | exact ⟨rfl, rfl⟩

theorem eqA_plain {P : Program} {w : World} {N : Nat → Prop} {i : Pl} {t : TypeId} {x y : AV} {v : Value} {r : Bool} (hr : eqA P t x y = some r) (hx : Rep w N i x v) : Plain v := by
  cases x <;> try (cases y <;> cases hr; done)
  · cases hx; trivial
  · cases hx; trivial
  · obtain ⟨_, _, _, _, rfl⟩ := hx; trivial
  · obtain ⟨_, _, _, _, rfl, _⟩ := hx; trivial
  · cases hx; trivial
  · obtain ⟨_, _, _, _, _, _, rfl, _⟩ := hx; trivial
  · obtain ⟨_, _, _, rfl, _⟩ := hx; trivial
  · obtain ⟨_, rfl, _⟩ := hx; trivial

theorem binA_run {P : Program} {w : World} {N : Nat → Prop} {i : Pl} {t : TypeId} {x y r : AV} {v u : Value} {op : BinOp} (xo yo : Operand) (hr : binA P op t x y = some r) (hx : Rep w N i x v) (hy : Rep w N i y u) :
    ∃ z, (eqGuard op t xo yo v u).run P w = .ok () w ∧ (binOp op t v u).run P w = .ok z w ∧ Rep w N i r z := by
  unfold binA at hr
  split at hr
  · rename_i k a k' b
    cases hx; cases hy
    have hg : (eqGuard op t xo yo (.int k a) (.int k' b)).run P w = .ok () w := by rw [eqGuard_scalar (by simp)]; rfl
    split at hr
    · obtain ⟨z, h1, h2⟩ := shiftA_run (P := P) (w := w) (k' := k') t (.inl rfl) hr
      exact ⟨z, hg, h1, h2 _ _⟩
    · obtain ⟨z, h1, h2⟩ := shiftA_run (P := P) (w := w) (k' := k') t (.inr rfl) hr
      exact ⟨z, hg, h1, h2 _ _⟩
    · rename_i h1 h2
      by_cases e : k = k'
      · subst e
        simp only [kk, decide_true, cond_true] at hr
        obtain ⟨z, h3, h4⟩ := arithA_run (P := P) (w := w) t (fun h => h1 h) (fun h => h2 h) hr
        exact ⟨z, hg, h3, h4 _ _⟩
      · simp [kk, e] at hr
  · cases hx; cases hy
    obtain ⟨z, h1, h2⟩ := strA_run (P := P) (w := w) t hr
    exact ⟨z, by rw [eqGuard_scalar (by simp)]; rfl, h1, h2 _ _⟩
  · split at hr
    · cases ht : eqT P t x with
      | false => simp [ht] at hr
      | true =>
        simp only [ht, cond_true, Option.map_eq_some_iff] at hr
        obtain ⟨b, h1, rfl⟩ := hr
        obtain ⟨h2, h3⟩ := eqA_run xo yo .eql ht h1 hx hy
        exact ⟨.bool b, h2, by rw [(binOp_plain (eqA_plain h1 hx)).1]; simp [h3], rfl⟩
    · cases ht : eqT P t x with
      | false => simp [ht] at hr
      | true =>
        simp only [ht, cond_true, Option.map_eq_some_iff] at hr
        obtain ⟨b, h1, rfl⟩ := hr
        obtain ⟨h2, h3⟩ := eqA_run xo yo .neq ht h1 hx hy
        exact ⟨.bool (!b), h2, by rw [(binOp_plain (eqA_plain h1 hx)).2]; simp [h3], rfl⟩
    · cases hr
end Go.AM
