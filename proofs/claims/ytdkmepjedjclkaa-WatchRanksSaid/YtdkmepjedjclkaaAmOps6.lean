/-
  THE ABSTRACT MACHINE: maps are looked up and written as the machine says. Conditions: none.
-/
import Derived.Test.YtdkmepjedjclkaaAmOps5
namespace Go.AM

theorem checkKey_sc {P : Program} {w : World} {t : TypeId} (h : scT P t = true) (em : Bool) (n : Nat) (v : Value) : (Instr.checkKey em (n + 1) t v).run P w = .ok () w := by
  unfold scT at h
  unfold Instr.checkKey
  split at h
  · rename_i k hu
    simp only [Sem.run_bind, run_underlying hu, Result.andThen_ok]
    rfl
  · rename_i hu
    simp only [Sem.run_bind, run_underlying hu, Result.andThen_ok]
    rfl
  · rename_i hu
    simp only [Sem.run_bind, run_underlying hu, Result.andThen_ok]
    rfl
  · cases h

theorem scT_lt {vs : Array Value} {off : Nat} (h : off < vs.size) : ∃ x, vs[off]? = some x := ⟨_, Array.getElem?_eq_getElem h⟩

theorem run_forIn_check {P : Program} {w : World} {α : Type} (f : α → PUnit → Sem (ForInStep PUnit)) : ∀ (l : List α), (∀ a ∈ l, ∀ u, (f a u).run P w = .ok (.yield ⟨⟩) w) → (forIn l (⟨⟩ : PUnit) f).run P w = .ok ⟨⟩ w
  | [], _ => by simp
  | a :: l, h => by
    simp only [List.forIn_cons, Sem.run_bind, h a (by simp), Result.andThen_ok]
    exact run_forIn_check f l (fun b hb => h b (by simp [hb]))

theorem flatT_agg {P : Program} {t : TypeId} {ts : List TypeId} (h : flatT P t = some ts) : (∃ fs, P.underlying t = some (.struct fs)) ∨ ∃ n e, P.underlying t = some (.array n e) := by
  unfold flatT at h
  split at h
  · rename_i fs hu; exact .inl ⟨fs, hu⟩
  · rename_i n e hu; exact .inr ⟨n, e, hu⟩
  · cases h

theorem checkKey_agg {P : Program} {w : World} {t : TypeId} {ts : List TypeId} (h : flatT P t = some ts) (em : Bool) (n : Nat) (vs : Array Value) (hl : vs.size = ts.length) : (Instr.checkKey em (n + 2) t (.agg vs)).run P w = .ok () w := by
  unfold flatT at h
  split at h
  · rename_i fs hu
    cases hc : (!P.stoodInHeld t && fs.toList.zipIdx.all (fun p => p.1.name != "_" && (scT P p.1.type && p.1.offset == p.2))) with
    | false => simp [hc] at h
    | true =>
      simp only [hc, cond_true, Option.some.injEq] at h
      subst h
      simp only [Bool.and_eq_true] at hc
      rw [show n + 2 = (n + 1) + 1 from rfl, Instr.checkKey]
      simp only [Sem.run_bind, run_underlying hu, Result.andThen_ok]
      rw [← Array.forIn_toList]
      rw [run_forIn_check]
      · rfl
      intro f hf u
      obtain ⟨j, hj, e⟩ := List.mem_iff_getElem.1 hf
      have := List.all_eq_true.1 hc.2 (f, j) (by rw [List.mem_zipIdx_iff_getElem?]; rw [List.getElem?_eq_getElem hj, e])
      simp only [Bool.and_eq_true, bne_iff_ne, ne_eq, beq_iff_eq] at this
      obtain ⟨h1, h2, h3⟩ := this
      obtain ⟨x, hx⟩ := scT_lt (vs := vs) (off := f.offset) (by rw [h3, hl]; simpa using hj)
      simp [h1, part_sc h2 hx, checkKey_sc h2 em n x]
  · rename_i len e hu
    cases hc : (scT P e && ((P.info? e).map (·.size) == some 1)) with
    | false => simp [hc] at h
    | true =>
      simp only [hc, cond_true, Option.some.injEq] at h
      subst h
      simp only [Bool.and_eq_true, beq_iff_eq] at hc
      obtain ⟨hs, h1⟩ := hc
      obtain ⟨j, hj, hj1⟩ := Option.map_eq_some_iff.1 h1
      have hsz : (sizeOf e).run P w = .ok 1 w := by simp [sizeOf, typeInfo, hj, hj1]
      rw [show n + 2 = (n + 1) + 1 from rfl, Instr.checkKey]
      simp only [Sem.run_bind, run_underlying hu, Result.andThen_ok]
      simp only [Std.Legacy.Range.forIn_eq_forIn_range', Std.Legacy.Range.size, Nat.sub_zero, Nat.add_one_sub_one, Nat.div_one]
      rw [run_forIn_check]
      · rfl
      intro q hq u
      simp at hq
      obtain ⟨x, hx⟩ := scT_lt (vs := vs) (off := q * 1) (by rw [hl]; simpa using hq)
      simp only [Sem.run_bind, hsz, Result.andThen_ok, part_sc hs hx, checkKey_sc hs em n x]
      rfl
  · cases h

theorem keyT_run {P : Program} {w : World} {N : Nat → Prop} {i : Pl} {t : TypeId} {k : AV} {v : Value} (hk : keyT P t k = true) (hv : Rep w N i k v) (em : Bool) : (Instr.checkKey em 10000 t v).run P w = .ok () w := by
  unfold keyT at hk
  split at hk
  · rename_i a
    split at hk
    · rename_i ts hts
      obtain ⟨vs, rfl, hl⟩ := hv
      have := hl.length
      exact checkKey_agg hts em 9998 vs (by simp at this hk; omega)
    · cases hk
  · exact checkKey_sc (scV_T hk) em 9999 v

/-- Two keys are compared. -/
theorem keyEq_run {P : Program} {w : World} {N : Nat → Prop} {i : Pl} {t : TypeId} {a b : AV} {x y : Value} {r : Bool} (hr : keyEq P t a b = some r) (hx : Rep w N i a x) (hy : Rep w N i b y) :
    (Op.equal t x y).run P w = .ok r w ∧ (r = true → Instr.sameBits 10000 y x = true) ∧ (∀ d, P.underlying t = some d → scT P t = true → Instr.sameNow d x y = some r) ∧ ((∃ vs, x = .agg vs) → ∃ ts, flatT P t = some ts) := by
  have bits : ∀ n a b x y, eqSc a b = some true → Rep w N i a x → Rep w N i b y → Instr.sameBits n y x = true := by
    intro n a b x y h hx hy
    cases a <;> cases b <;> simp [eqSc] at h
    · cases hx; cases hy; subst h; cases n <;> simp [Instr.sameBits]
    · cases hx; cases hy
      rename_i k z k' z'
      by_cases e : k = k'
      · subst e
        simp at h
        cases n <;> simp [Instr.sameBits, h]
      · simp [e] at h
    · cases hx; cases hy; subst h; cases n <;> simp [Instr.sameBits, MapKept.bytes_beq]
  have bitsL : ∀ n ts as bs xs ys, eqCs P ts as bs = some true → RepL w N i as xs → RepL w N i bs ys → xs.length = ys.length ∧ (ys.zip xs).all (fun (y, x) => Instr.sameBits n y x) = true := by
    intro n ts
    induction ts with
    | nil =>
      intro as bs xs ys h hx hy
      cases as <;> cases bs <;> simp [eqCs] at h
      cases hx; cases hy; exact ⟨rfl, rfl⟩
    | cons t ts ih =>
      intro as bs xs ys h hx hy
      cases as with
      | nil => simp [eqCs] at h
      | cons a as =>
        cases bs with
        | nil => simp [eqCs] at h
        | cons b bs =>
          simp only [eqCs] at h
          cases hc : (scV P t a && scV P t b) with
          | false => simp [hc] at h
          | true =>
            simp only [hc, cond_true, Option.bind_eq_some_iff] at h
            obtain ⟨r0, h0, h⟩ := h
            cases r0 with
            | false => simp at h
            | true =>
              simp only [cond_true] at h
              obtain ⟨x, xs', rfl, hx1, hx2⟩ := hx
              obtain ⟨y, ys', rfl, hy1, hy2⟩ := hy
              obtain ⟨g1, g2⟩ := ih as bs xs' ys' h hx2 hy2
              refine ⟨by simp [g1], ?_⟩
              simp only [List.zip_cons_cons, List.all_cons, Bool.and_eq_true]
              exact ⟨bits n a b x y h0 hx1 hy1, g2⟩
  unfold keyEq at hr
  split at hr
  · rename_i as bs
    simp only [Option.bind_eq_some_iff] at hr
    obtain ⟨ts, hts, hr⟩ := hr
    cases hc : (as.length == ts.length && bs.length == ts.length) with
    | false => simp [hc] at hr
    | true =>
      simp only [hc, cond_true] at hr
      obtain ⟨xs, rfl, hxl⟩ := hx
      obtain ⟨ys, rfl, hyl⟩ := hy
      refine ⟨eqAgg_run 9998 hts hr hxl hyl, ?_, ?_, fun _ => ⟨ts, hts⟩⟩
      · rintro rfl
        obtain ⟨g1, g2⟩ := bitsL 9999 ts as bs _ _ hr hxl hyl
        have : (ys.size == xs.size) = true := by simp at g1; simp [g1]
        show (ys.size == xs.size && (ys.toList.zip xs.toList).all fun (x, y) => Instr.sameBits 9999 x y) = true
        rw [this, Bool.true_and]
        exact g2
      · intro d hd hs
        rcases flatT_agg hts with ⟨fs, hu⟩ | ⟨n, e, hu⟩ <;> (unfold scT at hs; simp [hu] at hs)
  · rename_i hn
    cases hc : (scV P t a && scV P t b) with
    | false => simp [hc] at hr
    | true =>
      simp only [hc, cond_true] at hr
      simp only [Bool.and_eq_true] at hc
      refine ⟨eqSc_run 9999 hc.1 hc.2 hr hx hy, ?_, ?_, ?_⟩
      · rintro rfl; exact bits 10000 a b x y hr hx hy
      · intro d hd _
        obtain ⟨ha, hb⟩ := hc
        unfold scV at ha
        split at ha
        · rename_i q k n hu
          rw [hd] at hu
          cases hu
          cases b <;> simp [eqSc] at hr
          cases hx; cases hy
          rename_i k' n'
          by_cases e : k = k'
          · subst e; simp at hr; simp [Instr.sameNow, hr]
          · simp [e] at hr
        · rename_i s hu
          rw [hd] at hu
          cases hu
          cases b <;> simp [eqSc] at hr
          cases hx; cases hy
          rename_i s'
          have : ((⟨s.toArray⟩ : ByteArray) == ⟨s'.toArray⟩) = r := by
            subst hr
            by_cases e : s = s'
            · subst e; simp [MapKept.bytes_beq]
            · have h1 : (s == s') = false := by simpa using e
              rw [h1]
              cases h2 : ((⟨s.toArray⟩ : ByteArray) == ⟨s'.toArray⟩) with
              | false => rfl
              | true =>
                have := (MapKept.bytes_beq _ _).1 h2
                simp at this
                exact (e this).elim
          simp [Instr.sameNow, this]
        · rename_i b' hu
          rw [hd] at hu
          cases hu
          cases b <;> simp [eqSc] at hr
          cases hx; cases hy
          simp [Instr.sameNow, hr]
        · cases ha
      · rintro ⟨vs, rfl⟩
        obtain ⟨ha, _⟩ := hc
        unfold scV at ha
        split at ha
        · cases hx
        · cases hx
        · cases hx
        · cases ha

/-- Which entry a key stands in. -/
theorem findKey_run {P : Program} {w : World} {N : Nat → Prop} {i : Pl} {t : TypeId} {k : AV} {x : Value} (hk : keyT P t k = true) (hx : Rep w N i k x) : ∀ (ks : List AV) (es : List MapEntry) (n : Nat) (r : Option Nat), findI P t k ks n = some r → RepL w N i ks (es.map (·.key)) →
    (r = none ∨ ∃ j e, r = some (n + j) ∧ es[j]? = some e ∧ Instr.sameBits 10000 e.key x = true) ∧
    (scT P t = true → ∀ d, P.underlying t = some d → Instr.findNow d x es n = some (r.map fun j => (j, ((es[j - n]?).map (·.val)).getD undef))) ∧
    ((Instr.findAsking t x es n).run P w = .ok (r.map fun j => (j, ((es[j - n]?).map (·.val)).getD undef)) w)
  | [], es, n, r, h, hl => by
    simp [findI] at h
    subst h
    have : es = [] := by simpa [RepL] using hl
    subst this
    exact ⟨.inl rfl, fun _ _ _ => rfl, by simp [Instr.findAsking]⟩
  | a :: ks, es, n, r, h, hl => by
    cases es with
    | nil => obtain ⟨_, _, h, _⟩ := hl; simp at h
    | cons e es =>
      obtain ⟨v, q, h1, h2, h3⟩ := hl
      simp only [List.map_cons, List.cons.injEq] at h1
      obtain ⟨rfl, rfl⟩ := h1
      simp only [findI, Option.bind_eq_some_iff] at h
      obtain ⟨b, hb, h⟩ := h
      obtain ⟨g1, g2, g3, _⟩ := keyEq_run hb hx h2
      cases b with
      | true =>
        simp at h
        subst h
        refine ⟨.inr ⟨0, e, rfl, rfl, g2 rfl⟩, fun hs d hd => ?_, ?_⟩
        · simp [Instr.findNow, g3 d hd hs]
        · simp [Instr.findAsking, g1]
      | false =>
        simp only [cond_false] at h
        obtain ⟨k1, k2, k3⟩ := findKey_run hk hx ks es (n + 1) r h h3
        have hgt : ∀ j, r = some j → n + 1 ≤ j := by
          rintro j rfl
          rcases k1 with h | ⟨j', e', h, _⟩
          · cases h
          · cases h; omega
        have hmap : (r.map fun j => (j, (((e :: es)[j - n]?).map (·.val)).getD undef)) = (r.map fun j => (j, ((es[j - (n + 1)]?).map (·.val)).getD undef)) := by
          cases r with
          | none => rfl
          | some j =>
            have := hgt j rfl
            rw [Option.map_some, Option.map_some, show j - n = (j - (n + 1)) + 1 by omega]
            rfl
        rw [hmap]
        refine ⟨?_, fun hs d hd => ?_, ?_⟩
        · rcases k1 with h | ⟨j', e', h, h', h''⟩
          · exact .inl h
          · exact .inr ⟨j' + 1, e', by rw [h]; congr 1; omega, by simpa using h', h''⟩
        · simp [Instr.findNow, g3 d hd hs, k2 hs d hd]
        · simp only [Instr.findAsking, Sem.run_bind, g1, Result.andThen_ok]
          exact k3

theorem find_run {P : Program} {w : World} {N : Nat → Prop} {i : Pl} {t : TypeId} {k : AV} {x : Value} (hk : keyT P t k = true) (hx : Rep w N i k x) {ks : List AV} {es : List MapEntry} {r : Option Nat} (hr : findI P t k ks 0 = some r) (hl : RepL w N i ks (es.map (·.key))) :
    (Instr.findKey t x es).run P w = .ok (r.map fun j => (j, ((es[j]?).map (·.val)).getD undef)) w ∧ (r = none ∨ ∃ j e, r = some j ∧ es[j]? = some e ∧ Instr.sameBits 10000 e.key x = true) := by
  obtain ⟨h1, h2, h3⟩ := findKey_run hk hx ks es 0 r hr hl
  refine ⟨?_, by simpa using h1⟩
  cases hs : scT P t with
  | true =>
    have : ∃ d, P.underlying t = some d := by unfold scT at hs; split at hs <;> first | exact ⟨_, by assumption⟩ | cases hs
    obtain ⟨d, hd⟩ := this
    have := h2 hs d hd
    simp only [Nat.sub_zero] at this
    exact MapKept.run_findKey hd this
  | false =>
    have : ∃ ts, flatT P t = some ts := by
      unfold keyT at hk
      split at hk
      · split at hk
        · exact ⟨_, by assumption⟩
        · cases hk
      · rw [scV_T hk] at hs; cases hs
    obtain ⟨ts, hts⟩ := this
    rw [run_findKey_eq w (by rcases flatT_agg hts with ⟨fs, hu⟩ | ⟨n, e, hu⟩ <;> simp [hu])]
    simpa using h3

theorem findK_I {P : Program} {t : TypeId} {k : AV} : ∀ {ks vs : List AV} (n : Nat) {r : Option AV}, findK P t k ks vs = some r → (findI P t k ks n = some none ∧ r = none) ∨ ∃ j v, findI P t k ks n = some (some (n + j)) ∧ vs[j]? = some v ∧ r = some v
  | [], [], n, r, h => by simp [findK] at h; exact .inl ⟨rfl, h.symm⟩
  | a :: ks, v :: vs, n, r, h => by
    simp only [findK, Option.bind_eq_some_iff] at h
    obtain ⟨b, hb, h⟩ := h
    cases b with
    | true => simp at h; exact .inr ⟨0, v, by simp [findI, hb], rfl, h.symm⟩
    | false =>
      simp only [cond_false] at h
      rcases findK_I (n + 1) h with ⟨h1, h2⟩ | ⟨j, u, h1, h2, h3⟩
      · exact .inl ⟨by simp [findI, hb, h1], h2⟩
      · exact .inr ⟨j + 1, u, by simp [findI, hb, h1]; omega, by simpa using h2, h3⟩
  | [], _ :: _, n, r, h => by simp [findK] at h
  | _ :: _, [], n, r, h => by simp [findK] at h

theorem setK_I {P : Program} {t : TypeId} {k u : AV} : ∀ {ks vs : List AV} (n : Nat) {r : List AV × List AV}, setK P t k u ks vs = some r → (findI P t k ks n = some none ∧ r = (ks ++ [k], vs ++ [u])) ∨ ∃ j, findI P t k ks n = some (some (n + j)) ∧ j < ks.length ∧ j < vs.length ∧ r = (ks.set j k, vs.set j u)
  | [], [], n, r, h => by simp [setK] at h; exact .inl ⟨rfl, h.symm⟩
  | a :: ks, v :: vs, n, r, h => by
    simp only [setK, Option.bind_eq_some_iff] at h
    obtain ⟨b, hb, h⟩ := h
    cases b with
    | true => simp at h; exact .inr ⟨0, by simp [findI, hb], by simp, by simp, h.symm⟩
    | false =>
      simp only [cond_false, Option.bind_eq_some_iff] at h
      obtain ⟨⟨a', b'⟩, h, h'⟩ := h
      cases h'
      rcases setK_I (n + 1) h with ⟨h1, h2⟩ | ⟨j, h1, h2, h3, h4⟩
      · cases h2; exact .inl ⟨by simp [findI, hb, h1], rfl⟩
      · cases h4; exact .inr ⟨j + 1, by simp [findI, hb, h1]; omega, by simpa using h2, by simpa using h3, rfl⟩
  | [], _ :: _, n, r, h => by simp [setK] at h
  | _ :: _, [], n, r, h => by simp [setK] at h

theorem lookupA_run {P : Program} {m : Mem} {w : World} {N : Nat → Prop} {i : Pl} (hs : Sim m w N i) {t : TypeId} {x k r : AV} {ok : Bool} {v u : Value} (hr : lookupA P m t x k ok = some r) (hx : Rep w N i x v) (hk : Rep w N i k u) :
    ∃ z, (Instr.lookup t v u ok).run P w = .ok z w ∧ Rep w N i r z := by
  unfold lookupA at hr
  split at hr
  · rename_i kt et hu
    cases hkt : keyT P kt k with
    | false => simp [hkt] at hr
    | true =>
      simp only [hkt, cond_true, Option.bind_eq_some_iff] at hr
      obtain ⟨z, hz, q, hq, hr⟩ := hr
      obtain ⟨zv, hzrun, hzc, _⟩ := run_zero hz
      have main : ∀ (es : Array MapEntry) (ks vs : List AV), ((v = .map none ∧ es = #[]) ∨ ∃ b c, v = .map (some b) ∧ w.heap[b]? = some (.map es c)) → RepL w N i ks (es.toList.map (·.key)) → RepL w N i vs (es.toList.map (·.val)) → findK P kt k ks vs = some q →
          ∃ z, (Instr.lookup t v u ok).run P w = .ok z w ∧ Rep w N i r z := by
        intro es ks vs hes h1 h2 h3
        have hfin : ∀ (uv : Value) (av : AV) (b : Bool), Rep w N i av uv → r = (bif ok then .tup [av, .bool b] else av) → Rep w N i r (if ok then .tuple #[uv, .bool b] else uv) := by
          rintro uv av b hav rfl
          cases ok with
          | false => simpa using hav
          | true => exact ⟨_, rfl, _, _, rfl, hav, _, _, rfl, rfl, rfl⟩
        have fin : ∀ (fr : Option (Nat × Value)) (uv : Value) (av : AV) (b : Bool), (Instr.findKey kt u es.toList).run P w = .ok fr w → ((fr = none ∧ uv = zv ∧ b = false) ∨ ((∃ j, fr = some (j, uv)) ∧ b = true)) → Rep w N i av uv → r = (bif ok then .tup [av, .bool b] else av) →
            ∃ z, (Instr.lookup t v u ok).run P w = .ok z w ∧ Rep w N i r z := by
          intro fr uv av b e1 e2 e3 e4
          refine ⟨_, ?_, hfin uv av b e3 e4⟩
          rcases hes with ⟨rfl, rfl⟩ | ⟨bb, c, rfl, hh⟩ <;> rcases e2 with ⟨rfl, rfl, rfl⟩ | ⟨⟨j, rfl⟩, rfl⟩
          · simp only [List.toList_toArray] at e1; simp [Instr.lookup, run_underlying hu, keyT_run hkt hk, e1, hzrun]
          · simp only [List.toList_toArray] at e1; simp [Instr.lookup, run_underlying hu, keyT_run hkt hk, e1]
          · simp [Instr.lookup, run_underlying hu, MapKept.run_getObj_map hh, keyT_run hkt hk, e1, hzrun]
          · simp [Instr.lookup, run_underlying hu, MapKept.run_getObj_map hh, keyT_run hkt hk, e1]
        rcases findK_I 0 h3 with ⟨g1, rfl⟩ | ⟨j, av, g1, g2, rfl⟩
        · obtain ⟨e1, _⟩ := find_run hkt hk g1 h1
          exact fin _ zv z false e1 (.inl ⟨rfl, rfl, rfl⟩) (Rep_ofConst hzc) (by simpa using hr.symm)
        · rw [Nat.zero_add] at g1
          obtain ⟨e1, _⟩ := find_run hkt hk g1 h1
          obtain ⟨uv, hj, hav⟩ := h2.get g2
          have hval : (((es.toList[j]?).map (·.val)).getD undef) = uv := by
            rw [List.getElem?_map] at hj
            rw [hj]; rfl
          rw [Option.map_some, hval] at e1
          exact fin _ uv av true e1 (.inr ⟨⟨j, rfl⟩, rfl⟩) hav (by simpa using hr.symm)
      unfold lookA at hq
      split at hq
      · cases hx
        cases hq
        exact main #[] [] [] (.inl ⟨rfl, rfl⟩) rfl rfl rfl
      · rename_i ks vs
        obtain ⟨b, es, clock, _, rfl, h1, h2, h3⟩ := hx
        have l : Le w N P0 w N i := ⟨fun _ h => h, fun _ _ => rfl, fun _ _ _ h => by simp [P0] at h⟩
        exact main es ks vs (.inr ⟨_, _, rfl, h1⟩) (RepL.mono l _ h2) (RepL.mono l _ h3) hq
      · rename_i id
        split at hq
        · rename_i g ks vs ho
          obtain ⟨b, o, c, h1, rfl⟩ := hx
          obtain ⟨b', p', c', h2, h3, es, h4, h5, h6, h7, _⟩ := hs.live id _ ho
          have e0 : AObj.top (.map g ks vs) = 0 := rfl
          rw [e0, h1] at h2
          cases h2
          exact main es ks vs (.inr ⟨_, _, rfl, h4⟩) h6 h7 hq
        · cases hq
      · cases hq
  · cases hr
end Go.AM
