/-
  THE ABSTRACT MACHINE: what it computes, the model's machine computes. Conditions: none.
-/
import Derived.Test.YtdkmepjedjclkaaAmReg
namespace Go.AM

/-- Regions whose order is drawn. -/
def DrawSound (P : Program) : Prop := ∀ (pf : FuncId → Bool) (call : CallF), NoNum P → CallOk P pf call → ∀ (md : Nat → Nat) (id : Nat) (ops : Array Oper) (k : St → Option Res) (r : Res) (Q : Exit → Act → World → Prop) (m0 : Mem) (w0 : World) (N0 : Nat → Prop) (i0 : Pl), Fresh m0 i0 →
  (∀ s' a' w', k s' = some r → Good m0 w0 N0 i0 s' a' w' → Q .normal a' w') → ∀ s a w, drawOk pf md ops = true → opsA P pf call md ops (some s.m.nx) 0 ops.toList (s.nx (s.m.nx + ops.size)) k = some r → Good m0 w0 N0 i0 s a w → (Code.region id ops true).wp P Q a w

theorem keepAt_run {A : FnAnn} {id : Nat} {s : St} {a : Act} {w : World} {N : Nat → Prop} {i : Pl} (h : StSim w N i s a) : StSim w N i (keepAt A id s) a ∧ (keepAt A id s).m = s.m := by
  unfold keepAt
  split
  · rename_i l hl
    clear hl
    refine ⟨⟨fun j => ?_, h.size, h.dfr⟩, rfl⟩
    show Rep w N i (AM.get (l.map fun i => (i, s.get i)) j) _
    induction l with
    | nil => exact trivial
    | cons x l ih =>
      rw [List.map_cons, get_cons]
      split
      · rename_i e; subst e; exact h.slot j
      · exact ih
  · exact ⟨h, rfl⟩

theorem frzL_good {m0 : Mem} {w0 : World} {N0 : Nat → Prop} {i0 : Pl} {l : List Nat} {s s' : St} {a : Act} {w : World} (h : frzL l s = some s') (hg : Good m0 w0 N0 i0 s a w) : Good m0 w0 N0 i0 s' a w := by
  obtain ⟨N, i, h1, h2, h3⟩ := hg
  obtain ⟨N', k1, k2, k3, _⟩ := frzL_run h1 h3 h
  exact ⟨N', i, k1, h2.trans k2, k3⟩

theorem preAt_good {m0 : Mem} {w0 : World} {N0 : Nat → Prop} {i0 : Pl} {A : FnAnn} {id : Nat} {s s' : St} {a : Act} {w : World} (h : preAt A id s = some s') (hg : Good m0 w0 N0 i0 s a w) : Good m0 w0 N0 i0 s' a w := by
  unfold preAt at h
  split at h
  · exact frzL_good h hg
  · cases h; exact hg

theorem frzAt_good {m0 : Mem} {w0 : World} {N0 : Nat → Prop} {i0 : Pl} {A : FnAnn} {id : Nat} {s s' : St} {a : Act} {w : World} (h : frzAt A id s = some s') (hg : Good m0 w0 N0 i0 s a w) : Good m0 w0 N0 i0 s' a w := by
  unfold frzAt at h
  split at h
  · exact frzL_good h hg
  · cases h; exact hg

/-- What a frame hands back. -/
theorem resL_run {P : Program} {s : St} {a : Act} {w : World} {N : Nat → Prop} {i : Pl} (hs : Sim s.m w N i) (ha : StSim w N i s a) : ∀ {rs : List ResultVar} {vs : List AV}, resL P s rs = some vs →
    ∃ us : List Value, (rs.mapM (fun | .tmp t => pure (a.tmps.getD t undef) | .cell b t => do loadVar t (← asAddr (a.tmps.getD b undef)) : ResultVar → Sem Value)).run P w = .ok us w ∧ RepL w N i vs us
  | [], vs, h => by
    simp [resL] at h
    subst h
    exact ⟨[], by simp, rfl⟩
  | x :: rs, vs, h => by
    simp only [resL, Option.bind_eq_some_iff] at h
    obtain ⟨v, hv, vs', hvs, h⟩ := h
    cases h
    obtain ⟨us, k1, k2⟩ := resL_run hs ha hvs
    cases x with
    | tmp t =>
      simp only [resOf, Option.some.injEq] at hv
      subst hv
      exact ⟨a.tmps.getD t undef :: us, by simp only [List.mapM_cons, Sem.run_bind, Sem.run_pure, Result.andThen_ok, k1], _, _, rfl, ha.slot t, k2⟩
    | cell b t =>
      simp only [resOf, Option.bind_eq_some_iff] at hv
      obtain ⟨g, hg, n, hn, hv⟩ := hv
      obtain ⟨bl, off, z, h0, h1, h2⟩ := loadA_run (P := P) hs hg hn hv (ha.slot b)
      refine ⟨z :: us, ?_, _, _, rfl, h2, k2⟩
      have h9 : (asAddr (a.tmps.getD b undef)).run P w = .ok ⟨bl, off, none⟩ w := by rw [h0]; rfl
      simp only [List.mapM_cons, Sem.run_bind, h9, Sem.run_pure, Result.andThen_ok, h1, k1]

theorem results_run {P : Program} {fn : Func} {s : St} {a : Act} {w : World} {N : Nat → Prop} {i : Pl} (hs : Sim s.m w N i) (ha : StSim w N i s a) {vs : List AV} (h : resL P s fn.results.toList = some vs) :
    ∃ u, (results fn a.tmps).run P w = .ok u w ∧ Rep w N i (tupOf vs) u := by
  obtain ⟨us, h1, h2⟩ := resL_run (P := P) hs ha h
  have e : (results fn a.tmps).run P w = .ok (if h : us.toArray.size = 1 then us.toArray[0] else .tuple us.toArray) w := by
    unfold results
    rw [Array.mapM_eq_mapM_toList]
    rw [map_eq_pure_bind]
    simp only [Sem.run_bind]
    have h2 : ∀ (r : Result (List Value)), r = .ok us w → ((r.andThen fun x w => (pure x.toArray : Sem (Array Value)).run P w).andThen fun vs w => (pure (if h : vs.size = 1 then vs[0] else Value.tuple vs) : Sem Value).run P w) = .ok (if h : us.toArray.size = 1 then us.toArray[0] else .tuple us.toArray) w := by
      rintro r rfl
      rfl
    exact h2 _ h1
  refine ⟨_, e, ?_⟩
  have hl := h2.length
  unfold tupOf
  split
  · rename_i v
    obtain ⟨u, r, rfl, h3, h4⟩ := h2
    cases h4
    exact h3
  · rename_i hne
    have : us.toArray.size ≠ 1 := by
      intro e1
      simp at e1
      rw [e1] at hl
      match vs, hl with
      | [v], _ => exact hne v rfl
    rw [dif_neg this]
    exact ⟨us.toArray, rfl, by simpa using h2⟩

theorem init_get (args : List AV) : ∀ (n j : Nat), get ((args.zipIdx n).map fun (v, i) => (i, v)) (n + j) = (args[j]?).getD .undef := by
  induction args with
  | nil => intro n j; rfl
  | cons a as ih =>
    intro n j
    rw [List.zipIdx_cons, List.map_cons, get_cons]
    cases j with
    | zero => simp
    | succ j =>
      rw [if_neg (by omega), show n + (j + 1) = (n + 1) + j by omega, ih]
      simp

theorem init_low (args : List AV) : ∀ (n j : Nat), j < n → get ((args.zipIdx n).map fun (v, i) => (i, v)) j = .undef := by
  induction args with
  | nil => intro n j _; rfl
  | cons a as ih =>
    intro n j h
    rw [List.zipIdx_cons, List.map_cons, get_cons, if_neg (by omega)]
    exact ih (n + 1) j (by omega)

theorem initA_run {fn : Func} {args : List AV} {m : Mem} {us : List Value} {w : World} {N : Nat → Prop} {i : Pl} (h : RepL w N i args us) (hn : args.length ≤ fn.ntmps) :
    StSim w N i (initA fn args m) { tmps := us.toArray ++ Array.replicate (fn.ntmps - us.toArray.size) undef, defers := [] } := by
  have hl := h.length
  refine ⟨fun j => ?_, by simp [initA]; omega, rfl⟩
  show Rep w N i (AM.get (args.zipIdx.map fun (v, i) => (i, v)) j) _
  have e := init_get args 0 j
  rw [Nat.zero_add] at e
  rw [e]
  cases hj : args[j]? with
  | none => exact trivial
  | some a =>
    obtain ⟨u, hu, hr⟩ := h.get hj
    have hlt : j < us.length := (List.getElem?_eq_some_iff.1 hu).1
    have : (us.toArray ++ Array.replicate (fn.ntmps - us.toArray.size) undef).getD j undef = u := by
      rw [Array.getD_eq_getD_getElem?, Array.getElem?_append_left (by simpa using hlt)]
      simp [hu]
    rw [this]
    exact hr

/-- A frame's run. -/
def RunOk (P : Program) (A : Ann) (n : Nat) : Prop :=
  ∀ f K s r fn, runA P A n f K s = some r → P.funcs[f]? = some fn → ∀ m0 w0 N0 i0 a w, Fresh m0 i0 → Good m0 w0 N0 i0 s a w → ∀ (b : Frame) (cs : List Frame), ∃ s' a' w' K', Steps P (lone (b.at a K) cs w) (lone { b.at a' K' with mode := .returning } cs w') ∧ Good m0 w0 N0 i0 s' a' w' ∧ finA P (A f).pure fn s' = some r

theorem main (P : Program) (A : Ann) (hP : NoNum P) (hD : DrawSound P) : ∀ n, RunOk P A n ∧ CallOk P (fun g => (A g).pure) (fun g args m => callN P A n g args m)
  | 0 => ⟨fun f K s r fn h => by simp [runA] at h, fun g args m r h => by simp [callN] at h⟩
  | n + 1 => by
    obtain ⟨ihR, ihC⟩ := main P A hP hD n
    constructor
    · intro f K s r fn hr hfn m0 w0 N0 i0 a w hf0 hg b cs
      simp only [runA, hfn, Option.bind_some] at hr
      have next : ∀ K' s' a' w', runA P A n f K' s' = some r → Good m0 w0 N0 i0 s' a' w' → Steps P (lone (b.at a K) cs w) (lone (b.at a' K') cs w') →
          ∃ s' a' w' K', Steps P (lone (b.at a K) cs w) (lone { b.at a' K' with mode := .returning } cs w') ∧ Good m0 w0 N0 i0 s' a' w' ∧ finA P (A f).pure fn s' = some r := by
        intro K' s' a' w' h1 h2 h3
        obtain ⟨s2, a2, w2, K2, k1, k2, k3⟩ := ihR f K' s' r fn h1 hfn m0 w0 N0 i0 a' w' hf0 h2 b cs
        exact ⟨s2, a2, w2, K2, h3.trans k1, k2, k3⟩
      have good1 : ∀ {s1 : St}, s1.m = s.m → (∀ {N i}, StSim w N i s a → StSim w N i s1 a) → Good m0 w0 N0 i0 s1 a w := by
        intro s1 e1 e2
        obtain ⟨N, i, h1, h2, h3⟩ := hg
        exact ⟨N, i, by rw [e1]; exact h1, by rw [e1]; exact h2, e2 h3⟩
      unfold stepA at hr
      split at hr
      · exact ⟨s, a, w, [], .one step_end, hg, hr⟩
      · exact next _ _ a w hr hg (.one step_skip)
      · exact next _ _ a w hr hg (.one step_label)
      · exact next _ _ a w hr hg (.one step_seq)
      · rename_i c x y K
        split at hr
        · rename_i b' hb
          have hv : ∀ {N i}, StSim w N i s a → a.eval (.tmp c) = .bool b' := fun {N i} h => by
            have := h.slot c; rw [hb] at this; exact this
          obtain ⟨N, i, _, _, h3⟩ := hg
          have hev := hv h3
          split at hr
          · cases hlt : Nat.blt c s.nt with
            | false => simp [hlt] at hr
            | true =>
              simp only [hlt, cond_true] at hr
              exact next _ _ a w hr (good1 rfl (fun h => h.lit hb)) (.one (step_cond hev))
          · cases hlt : Nat.blt c s.nt with
            | false => simp [hlt] at hr
            | true =>
              simp only [hlt, cond_true] at hr
              exact next _ _ a w hr (good1 rfl (fun h => h.lit hb)) (.one (step_cond hev))
        · cases hr
      · rename_i b' x y K
        have hev : a.eval (.const (.bool b')) = .bool b' := rfl
        cases b' with
        | true => exact next _ _ a w (by simpa using hr) hg (.one (step_cond hev))
        | false => exact next _ _ a w (by simpa using hr) hg (.one (step_cond hev))
      · exact next _ _ a w hr hg (.one step_block)
      · exact next _ _ a w hr hg (.one step_inBlock)
      · exact next _ _ a w hr hg (.one step_loop)
      · exact next _ _ a w hr hg (.one step_inLoop)
      · split at hr
        · rename_i K' hx
          exact next _ _ a w hr hg (.one (step_exit hx))
        · cases hr
      · exact ⟨s, a, w, _, .one step_ret, hg, hr⟩
      · rename_i id ops draw K
        cases hdr : (draw && !(drawOk (fun g => (A g).pure) (modeOf (A f) id) ops)) with
        | true => simp [hdr] at hr
        | false =>
          simp only [hdr, cond_false, Option.bind_eq_some_iff] at hr
          obtain ⟨s1, hpre, hr⟩ := hr
          have hk : Good m0 w0 N0 i0 (keepAt (A f) id s) a w := by
            obtain ⟨N, i, h1, h2, h3⟩ := hg
            obtain ⟨k1, k2⟩ := keepAt_run (A := A f) (id := id) h3
            exact ⟨N, i, by rw [k2]; exact h1, by rw [k2]; exact h2, k1⟩
          have hg1 := preAt_good hpre hk
          have main : (Code.region id ops draw).wp P (fun e a' w' => e = .normal ∧ ∃ s2, ((frzAt (A f) id s2).bind fun s => runA P A n f K s) = some r ∧ Good m0 w0 N0 i0 s2 a' w') a w := by
            cases draw with
            | false => exact region_run hP ihC hf0 (fun s' a' w' h1 h2 => ⟨rfl, s', h1, h2⟩) hr hg1
            | true =>
              simp at hdr
              exact hD _ _ hP ihC _ id ops _ r _ m0 w0 N0 i0 hf0 (fun s' a' w' h1 h2 => ⟨rfl, s', h1, h2⟩) s1 a w hdr hr hg1
          obtain ⟨e, a', w', ⟨rfl, s2, h1, h2⟩, h3⟩ := main b K cs
          simp only [Option.bind_eq_some_iff] at h1
          obtain ⟨s3, h4, h5⟩ := h1
          exact next K s3 a' w' h5 (frzAt_good h4 h2) h3
      · cases hr
    · intro g args m r hr
      simp only [callN, Option.bind_eq_some_iff] at hr
      obtain ⟨fn, hfn, c, hb, hr⟩ := hr
      cases hle : Nat.ble args.length fn.ntmps with
      | false => simp [hle] at hr
      | true =>
        simp only [hle, cond_true] at hr
        rw [Nat.ble_eq] at hle
        refine ⟨⟨fn, hfn, by rw [hb]; rfl⟩, ?_⟩
        -- the call, from what the body's run gives
        have call : ∀ (m0 : Mem) (rr : Res) w N i (us : List Value), runA P A n g [.code c] (initA fn args m0) = some rr → Sim m0 w N i → Fresh m0 i → RepL w N i args us →
            Calls P g us.toArray w fun e w' => ∃ v N' i' s', e = .returned v ∧ Sim s'.m w' N' i' ∧ Ext m0 w N i s'.m w' N' i' ∧ ∃ vs, resL P s' fn.results.toList = some vs ∧ Rep w' N' i' (tupOf vs) v ∧ finA P (A g).pure fn s' = some rr := by
          intro m0 rr w N i us hrun hs hf ha cs
          have hst := initA_run (fn := fn) (m := m0) ha hle
          let b : Frame := { (default : Frame) with fn := g, kind := .normal }
          have henter : Frame.enter P g us.toArray .normal = b.at { tmps := us.toArray ++ Array.replicate (fn.ntmps - us.toArray.size) undef, defers := [] } [.code c] := by
            simp [Frame.enter, Frame.at, hfn, hb, b]
          obtain ⟨s', a', w', K', h1, ⟨N', i', h2, h3, h4⟩, h5⟩ := ihR g [.code c] (initA fn args m0) rr fn hrun hfn m0 w N i _ w hf ⟨N, i, hs, Ext.refl _ _ _ _, hst⟩ b cs
          have h5' := h5
          simp only [finA, Option.bind_eq_some_iff] at h5
          obtain ⟨vs, h6, h7⟩ := h5
          obtain ⟨u, k1, k2⟩ := results_run (P := P) (fn := fn) h2 h4 h6
          rw [henter]
          exact ⟨.returned u, w', _, ⟨u, N', i', s', rfl, h2, h3, vs, h6, k2, h5'⟩, h1, rfl, rfl, h4.dfr, rfl, fn, hfn, k1⟩
        cases hp : (A g).pure with
        | false =>
          simp only [hp, cond_false] at hr
          intro w N i us hs hf ha
          refine Calls.mono (call m r w N i us hr hs hf ha) ?_
          rintro e w' ⟨v, N', i', s', rfl, h1, h2, vs, h3, h4, h5⟩
          rw [hp] at h5
          simp [finA, h3] at h5
          subst h5
          exact ⟨v, N', i', rfl, h1, h2, h4, fun h => by have h' : (A g).pure = true := h; rw [hp] at h'; cases h'⟩
        | true =>
          simp only [hp, cond_true] at hr
          cases hcl : closedL args with
          | false => simp [hcl] at hr
          | true =>
            simp only [hcl, cond_true, Option.bind_eq_some_iff] at hr
            obtain ⟨rr, hr, h⟩ := hr
            cases h
            intro w N i us hs hf ha
            refine Calls.mono (call Mem.empty rr w N P0 us hr (sim_empty hs.nlt) (fun _ _ _ => rfl) (RepL.closed _ hcl ha)) ?_
            rintro e w' ⟨v, N', i', s', rfl, h1, h2, vs, h3, h4, h5⟩
            rw [hp] at h5
            simp only [finA, h3, Option.bind_some, cond_true, Option.bind_eq_some_iff] at h5
            obtain ⟨v', h6, h7⟩ := h5
            cases h7
            have hd := deep_rep h1 _ h6 h4
            have hnl : ∀ b, NL s'.m N' i' b → N b ∨ w.heap.size ≤ b := by
              rintro b (h | h)
              · exact (h2.newN b h).imp id (fun h => h.elim (fun h => (not_live_empty h).elim) id)
              · exact (h2.grow b h).elim (fun h => (not_live_empty h).elim) .inr
            obtain ⟨z1, z2⟩ := hs.below (w' := w') (N' := NL s'.m N' i') h2.size (fun b hb => h2.keep b hb not_live_empty) (fun b hb => .inl (h2.hN b hb)) hnl (fun b hb => by
              rcases hb with h | h
              · exact h1.nlt b h
              · exact (h1.liveN h).2) h2.os h2.tape h2.output
            exact ⟨v, _, i, rfl, z1, z2, Rep.closed _ (deep_closed _ h6) hd, fun _ => deep_closed _ h6⟩
end Go.AM
