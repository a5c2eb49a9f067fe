/-
  THE ABSTRACT MACHINE: one operation of a region, and regions in the order of the text. Conditions: none.
-/
import Derived.Test.YtdkmepjedjclkaaAmCall
import Derived.Orders
namespace Go.AM

/-- No function with a body bears the one name that the machine answers itself. -/
def NoNum (P : Program) : Prop := ∀ (g : FuncId) (fn : Func), P.funcs[g]? = some fn → fn.body.isSome = true → (fn.name == "runtime.NumGoroutine") = false

theorem Sim.nx {m : Mem} {w : World} {N : Nat → Prop} {i : Pl} (s : Sim m w N i) (k : Nat) : Sim ⟨m.h, k⟩ w N i := ⟨s.live, s.inj, s.top, s.nlt, s.bnd⟩

theorem StSim.mem {w : World} {N : Nat → Prop} {i : Pl} {s : St} {a : Act} (h : StSim w N i s a) (m : Mem) : StSim w N i (s.mem m) a := ⟨h.slot, h.size, h.dfr⟩

theorem St.lit_get {s : St} {d : Nat} {b : Bool} (h : s.get d = .bool b) (j : Nat) : (s.lit d b).get j = s.get j := by
  show AM.get ((d, .bool b) :: s.t) j = _
  rw [get_cons]
  split
  · rename_i e; subst e; exact h.symm
  · rfl

theorem StSim.lit {w : World} {N : Nat → Prop} {i : Pl} {s : St} {a : Act} (h : StSim w N i s a) {d : Nat} {b : Bool} (hd : s.get d = .bool b) : StSim w N i (s.lit d b) a :=
  ⟨fun j => by rw [St.lit_get hd]; exact h.slot j, h.size, h.dfr⟩

/-- What is appended to a value. -/
theorem appF_run {P : Program} {m : Mem} {w : World} {N : Nat → Prop} {i : Pl} (s : Sim m w N i) {t tx e ty : TypeId} {size by' : Nat} {z x y r : AV} {v u : Value} (hu : P.underlying t = some (.slice e)) (hk : (∃ e', P.underlying tx = some (.slice e')) ∨ P.underlying tx = some .string)
    (hn : sizeT P e = some size) (hb : bytesT P e = some by') (hz : zeroT P e = some z) (hzl : z.cells.length = size) (hcx : x.closed = true) (hcy : y.closed = true)
    (hr : appF size by' x y = some r) (hx : Rep w N i x v) (hy : Rep w N i y u) :
    ∃ q w' N', (Builtin.append_ #[t, tx] ty #[v, u]).run P w = .ok q w' ∧ Sim m w' N' i ∧ Ext m w N i m w' N' i ∧ Rep w' N' i r q := by
  simp only [appF, Option.bind_eq_some_iff] at hr
  obtain ⟨⟨r1, m1⟩, h1, ⟨r2, m2⟩, h2, h3⟩ := hr
  cases hc : r2.closed with
  | false => simp [hc] at h3
  | true =>
    simp only [hc, cond_true, Option.some.injEq] at h3
    subst h3
    obtain ⟨q, w', i', k1, k2, k3, k4⟩ := appendA_run (P := P) (ty := ty) (sim_empty s.nlt) (fun _ => rfl) hu hk hn hb hz hzl h1 (Rep.closed (i' := P0) _ hcx hx) (Rep.closed (i' := P0) _ hcy hy)
    obtain ⟨N', z1, z2, z3, _⟩ := frzV_run k2 h2 k4
    have e := k3.trans z2
    obtain ⟨y1, y2⟩ := s.below (w' := w') (N' := N') e.size (fun b hb => e.keep b hb not_live_empty) e.hN (fun b hb => (e.newN b hb).imp id (fun h => h.elim (fun h => (not_live_empty h).elim) id)) z1.nlt e.os e.tape e.output
    exact ⟨q, w', N', k1, y1, y2, Rep.closed _ hc z3⟩

/-- EVERY OPERATION THAT LOOKS AT NO MEMORY. -/
theorem pureA_run' {P : Program} {w : World} {N : Nat → Prop} {i : Pl} {s : St} {a : Act} (hs : Sim s.m w N i) (ha : StSim w N i s a) {o : Oper} {md : Nat} {pv : AV} (hr : pureA P md s o.op = some pv) : Got P o a s.m w N i pv s.m := by
  by_cases h : ∃ c, o.op = .call c ∧ (md == 3) = true
  · obtain ⟨c, hop, hm⟩ := h
    rw [hop] at hr
    simp only [pureA, hm, cond_true] at hr
    unfold appP at hr
    split at hr
    · rename_i hcal
      split at hr
      · rename_i x y t u hx hy
        cases hcl : (x.closed && y.closed) with
        | false => simp [hcl] at hr
        | true =>
          simp only [hcl, cond_true] at hr
          simp only [Bool.and_eq_true] at hcl
          split at hr
          · rename_i e hu
            simp only [Option.bind_eq_some_iff] at hr
            obtain ⟨n, hn, by', hb, z, hz, hr⟩ := hr
            cases hzl : (z.cells.length == n) with
            | false => simp [hzl] at hr
            | true =>
              simp only [hzl, cond_true] at hr
              have hk : ((∃ e', P.underlying u = some (.slice e')) ∨ P.underlying u = some .string) ∧ appF n by' x y = some pv := by
                split at hr
                · rename_i e' hu'; exact ⟨.inl ⟨e', hu'⟩, hr⟩
                · rename_i hu'; exact ⟨.inr hu', hr⟩
                · cases hr
              obtain ⟨xa, ya, hargs⟩ : ∃ xa ya, c.args = #[xa, ya] := by
                have hl : c.args.toList.length = 2 := by simpa using congrArg List.length hx
                match h : c.args.toList, hl with
                | [xa, ya], _ => exact ⟨xa, ya, by apply Array.ext'; simpa using h⟩
              have hty : c.argTypes = #[t, u] := by apply Array.ext'; simpa using hy
              rw [hargs] at hx
              simp only [List.map_cons, List.map_nil, List.cons.injEq, and_true] at hx
              obtain ⟨hx1, hx2⟩ := hx
              have r1 := ha.ev xa
              have r2 := ha.ev ya
              rw [hx1] at r1
              rw [hx2] at r2
              obtain ⟨q, w', N', k1, k2, k3, k4⟩ := appF_run (P := P) hs (ty := o.type) hu hk.1 hn hb hz (by simpa using hzl) hcl.1 hcl.2 hk.2 r1 r2
              refine ⟨⟨_, q, w', N', i, ?_, .inl rfl, k2, k3, k4⟩⟩
              simp [execOp, hop, resolve, hcal, invoke, builtin, hargs, hty, k1]
          · cases hr
      · cases hr
    · cases hr
  · exact pureA_run hs ha (fun c hc => by
      cases hm : (md == 3) with
      | false => rfl
      | true => exact absurd ⟨c, hc, hm⟩ h) hr

/-- What a step of the world must leave. -/
def Good (m0 : Mem) (w0 : World) (N0 : Nat → Prop) (i0 : Pl) (s : St) (a : Act) (w : World) : Prop := ∃ N i, Sim s.m w N i ∧ Ext m0 w0 N0 i0 s.m w N i ∧ StSim w N i s a

theorem opA_run {P : Program} {pf : FuncId → Bool} {call : CallF} (hP : NoNum P) (hc : CallOk P pf call) {md : Nat} {o : Oper} {s s' : St} {a : Act} {w : World} {N : Nat → Prop} {i : Pl} {K : Act → World → Prop} {Q : Exit → Act → World → Prop}
    (hs : Sim s.m w N i) (ha : StSim w N i s a) (hf : ∀ t, i s.m.nx t = none) (hf3 : classOf md o.op = 3 → Fresh s.m i) (hr : opA P pf call md o s = some s') (hK : ∀ a' w', Good s.m w N i s' a' w' → K a' w') : o.wp P a w K Q := by
  have finish : ∀ n v w' N' i' pv m' , (execOp a.eval o).run P w = .ok n w' → (n = .value v ∨ (n = .skip ∧ v = undef)) → Sim m' w' N' i' → Ext s.m w N i m' w' N' i' → Rep w' N' i' pv v → (s.mem m').put o.dst pv = some s' → o.wp P a w K Q := by
    intro n v w' N' i' pv m' h1 h2 h3 h4 h5 h6
    obtain ⟨hm, _⟩ := St.put_m h6
    have hm' : s'.m = m' := hm
    have good : Good s.m w N i s' (a.put o.dst v) w' := ⟨N', i', by rw [hm']; exact h3, by rw [hm']; exact h4, ((ha.mono (h4.le hs)).mem m').put h6 h5⟩
    unfold Oper.wp
    rw [h1]
    rcases h2 with rfl | ⟨rfl, rfl⟩
    · exact hK _ _ good
    · exact hK _ _ good
  have hmem : ∀ r, memA P s o.op = some r → Option.bind (bif md == 1 then frzV r.1 r.2 else some r) (fun r => (s.mem r.2).put o.dst r.1) = some s' → o.wp P a w K Q := by
    rintro ⟨pv, m'⟩ h1 h2
    obtain ⟨n, v, w', i', k1, k2, k3, k4, k5⟩ := memA_run (P := P) hs hf ha h1
    simp only [Option.bind_eq_some_iff] at h2
    obtain ⟨⟨pv2, m2⟩, h2, h3⟩ := h2
    cases hmd : md == 1 with
    | false =>
      simp only [hmd, cond_false, Option.some.injEq, Prod.mk.injEq] at h2
      obtain ⟨rfl, rfl⟩ := h2
      exact finish n v w' N i' pv m' k1 k2 k3 k4 k5 h3
    | true =>
      simp only [hmd, cond_true] at h2
      obtain ⟨N2, z1, z2, z3, _⟩ := frzV_run k3 h2 k5
      exact finish n v w' N2 i' pv2 m2 k1 k2 z1 (k4.trans z2) z3 h3
  unfold opA at hr
  split at hr
  · simp only [Option.bind_eq_some_iff] at hr
    obtain ⟨pv, h1, h2⟩ := hr
    obtain ⟨n, v, w', N', i', k1, k2, k3, k4, k5⟩ := (pureA_run' (P := P) hs ha h1).got
    exact finish n v w' N' i' pv s.m k1 k2 k3 k4 k5 h2
  · simp only [Option.bind_eq_some_iff] at hr
    obtain ⟨pv, h1, h2⟩ := hr
    obtain ⟨v, k1, k2⟩ := readA_run (P := P) hs ha h1
    exact finish _ v w N i pv s.m k1 (.inl rfl) hs (Ext.refl _ _ _ _) k2 h2
  · rw [Option.bind_eq_some_iff] at hr
    obtain ⟨r, h1, h2⟩ := hr
    exact hmem r h1 h2
  · rw [Option.bind_eq_some_iff] at hr
    obtain ⟨r, h1, h2⟩ := hr
    exact hmem r h1 h2
  · rename_i hcl
    split at hr
    · rename_i c hop
      split at hr
      · rename_i f hcal
        simp only [Option.bind_eq_some_iff] at hr
        obtain ⟨⟨pv, m'⟩, h1, h2⟩ := hr
        have hargs : RepL w N i (c.args.toList.map s.ev) (c.args.map a.eval).toList := by simpa using ha.evL c.args.toList
        obtain ⟨g, fs, cs, fn, k1, k2, k3, k4⟩ := callA_run hc hs (hf3 hcl) h1 (ha.ev f) hargs
        have hname := hP g fn k2 k3
        have hname' : ¬ fn.name = "runtime.NumGoroutine" := by simpa using hname
        have hbody : ¬ fn.body = none := by intro hb; rw [hb] at k3; cases k3
        have hex : (execOp a.eval o).run P w = .ok (.enter g (fs.toList ++ (c.args.map a.eval).toList ++ cs.toList).toArray) w := by
          have e : (fs.toList ++ (c.args.map a.eval).toList ++ cs.toList).toArray = fs ++ c.args.map a.eval ++ cs := by apply Array.ext'; simp
          rw [e]
          simp [execOp, hop, resolve, hcal, k1, Deferred.ofValue, invoke, callFunc, k2, hname', hbody]
        unfold Oper.wp
        rw [hex, Oper.upon_enter]
        refine Calls.mono k4 ?_
        rintro e w' ⟨v, N', i', rfl, z1, z2, z3⟩
        obtain ⟨hm, _⟩ := St.put_m h2
        have hm' : s'.m = m' := hm
        exact hK _ _ ⟨N', i', by rw [hm']; exact z1, by rw [hm']; exact z2, ((ha.mono (z2.le hs)).mem m').put h2 z3⟩
      · cases hr
    · cases hr
  · cases hr

/-- Is the operation wanted? -/
theorem guardA_run {R : Type} {ops : Array Oper} {o : Oper} {s : St} {kt kf : St → Option R} {r : R} {a : Act} {w : World} {N : Nat → Prop} {i : Pl} (ha : StSim w N i s a) (hr : guardA ops o s kt kf = some r) :
    ∃ s1, s1.m = s.m ∧ s1.nt = s.nt ∧ (∀ j, s1.get j = s.get j) ∧ StSim w N i s1 a ∧ ((Region.wanted o (yielded ops a.tmps) = true ∧ kt s1 = some r) ∨ (Region.wanted o (yielded ops a.tmps) = false ∧ kf s1 = some r)) := by
  unfold guardA at hr
  split at hr
  · rename_i hg
    exact ⟨s, rfl, rfl, fun _ => rfl, ha, .inl ⟨by simp [Region.wanted, hg], hr⟩⟩
  · rename_i j want hg
    split at hr
    · cases hr
    · rename_i d hd
      have hsl := ha.slot d
      split at hr
      · rename_i b hb
        rw [hb] at hsl
        have hy : Nat.blt d s.nt = true → yielded ops a.tmps j = some b := by
          intro hlt
          have hlt' : d < a.tmps.size := by rw [ha.size]; simpa [Nat.blt_eq] using hlt
          have : a.tmps[d]? = some (.bool b) := by
            have h1 : a.tmps.getD d undef = .bool b := hsl
            rw [Array.getD_eq_getD_getElem?, Array.getElem?_eq_getElem hlt'] at h1
            rw [Array.getElem?_eq_getElem hlt']
            exact congrArg some h1
          simp [yielded, hd, this]
        split at hr
        · cases hlt : Nat.blt d s.nt with
          | false => simp [hlt] at hr
          | true =>
            simp only [hlt, cond_true] at hr
            refine ⟨s.lit d true, rfl, rfl, St.lit_get hb, ha.lit hb, ?_⟩
            cases want with
            | true => exact .inl ⟨by simp [Region.wanted, hg, hy hlt], by simpa using hr⟩
            | false => exact .inr ⟨by simp [Region.wanted, hg, hy hlt], by simpa using hr⟩
        · cases hlt : Nat.blt d s.nt with
          | false => simp [hlt] at hr
          | true =>
            simp only [hlt, cond_true] at hr
            refine ⟨s.lit d false, rfl, rfl, St.lit_get hb, ha.lit hb, ?_⟩
            cases want with
            | true => exact .inr ⟨by simp [Region.wanted, hg, hy hlt], by simpa using hr⟩
            | false => exact .inl ⟨by simp [Region.wanted, hg, hy hlt], by simpa using hr⟩
      · rename_i hb
        rw [hb] at hsl
        obtain ⟨vs, h1, h2⟩ := hsl
        have hy : yielded ops a.tmps j = none := by
          unfold yielded
          simp only [hd, Option.bind_some]
          rw [Array.getD_eq_getD_getElem?] at h1
          cases h3 : a.tmps[d]? with
          | none => rfl
          | some x => rw [h3] at h1; simp at h1; subst h1; rfl
        exact ⟨s, rfl, rfl, fun _ => rfl, ha, .inr ⟨by simp [Region.wanted, hg, hy], hr⟩⟩
      · cases hr

theorem Fresh.nx {m : Mem} {i : Pl} (h : Fresh m i) : ∀ t, i m.nx t = none := h _ (Nat.le_refl _)

theorem Good.trans {m0 : Mem} {w0 : World} {N0 : Nat → Prop} {i0 : Pl} {s s' : St} {w : World} {N : Nat → Prop} {i : Pl} {a' : Act} {w' : World} (e : Ext m0 w0 N0 i0 s.m w N i) (h : Good s.m w N i s' a' w') : Good m0 w0 N0 i0 s' a' w' := by
  obtain ⟨N', i', h1, h2, h3⟩ := h
  exact ⟨N', i', h1, e.trans h2, h3⟩

/-- A REGION IN THE ORDER OF THE TEXT. -/
theorem opsA_run {P : Program} {pf : FuncId → Bool} {call : CallF} (hP : NoNum P) (hc : CallOk P pf call) {R : Type} {md : Nat → Nat} {ops : Array Oper} {k : St → Option R} {r : R} {Q : Exit → Act → World → Prop} {m0 : Mem} {w0 : World} {N0 : Nat → Prop} {i0 : Pl} (hf0 : Fresh m0 i0)
    (hQ : ∀ s' a' w', k s' = some r → Good m0 w0 N0 i0 s' a' w' → Q .normal a' w') :
    ∀ (l : List Oper) (n : Nat) (s : St) (a : Act) (w : World), (∀ j, l[j]? = ops[n + j]?) → opsA P pf call md ops none n l s k = some r → Good m0 w0 N0 i0 s a w → wpOps P ops Q (List.range' n l.length) a w
  | [], n, s, a, w, _, hr, hg => hQ s a w hr hg
  | o :: l, n, s, a, w, hl, hr, ⟨N, i, hs, he, ha⟩ => by
    have ho : ops[n]? = some o := by simpa using (hl 0).symm
    have hl' : ∀ j, l[j]? = ops[n + 1 + j]? := fun j => by have := hl (j + 1); simp at this; rw [this]; congr 1; omega
    simp only [opsA] at hr
    obtain ⟨s1, m1, n1, g1, ha1, hcase⟩ := guardA_run ha hr
    have hs1 : Sim s1.m w N i := by rw [m1]; exact hs
    have he1 : Ext m0 w0 N0 i0 s1.m w N i := by rw [m1]; exact he
    have hf : Fresh s1.m i := hf0.ext he1
    show wpOps P ops Q (n :: List.range' (n + 1) l.length) a w
    rw [wpOps_cons]
    unfold wpOp
    simp only [ho]
    rcases hcase with ⟨hw, hr⟩ | ⟨hw, hr⟩
    · simp only [hw, if_true]
      left
      split at hr
      · rename_i hcl
        exfalso
        unfold nextA at hr
        split at hr
        · split at hr
          · split at hr
            · rename_i id _ mp g cur ks vs hh
              obtain ⟨_, _, _, _, _, hf⟩ := hs1.live _ _ hh
              exact hf
            · cases hr
          · cases hr
        · cases hr
      · rw [Option.bind_eq_some_iff] at hr
        obtain ⟨s2, h1, h2⟩ := hr
        exact opA_run hP hc hs1 ha1 hf.nx (fun _ => hf) h1 (fun a' w' hg => opsA_run hP hc hf0 hQ l (n + 1) s2 a' w' hl' h2 (hg.trans he1))
    · simp only [hw, Bool.false_eq_true, if_false]
      rw [Option.bind_eq_some_iff] at hr
      obtain ⟨s2, h1, h2⟩ := hr
      obtain ⟨hm, _⟩ := St.put_m h1
      exact opsA_run hP hc hf0 hQ l (n + 1) s2 _ w hl' h2 ⟨N, i, by rw [hm]; exact hs1, by rw [hm]; exact he1, ha1.put h1 ⟨#[], rfl, rfl⟩⟩

theorem region_run {P : Program} {pf : FuncId → Bool} {call : CallF} (hP : NoNum P) (hc : CallOk P pf call) {R : Type} {md : Nat → Nat} {id : Nat} {ops : Array Oper} {k : St → Option R} {r : R} {Q : Exit → Act → World → Prop} {m0 : Mem} {w0 : World} {N0 : Nat → Prop} {i0 : Pl} (hf0 : Fresh m0 i0)
    (hQ : ∀ s' a' w', k s' = some r → Good m0 w0 N0 i0 s' a' w' → Q .normal a' w') {s : St} {a : Act} {w : World} (hr : opsA P pf call md ops none 0 ops.toList s k = some r) (hg : Good m0 w0 N0 i0 s a w) : (Code.region id ops false).wp P Q a w := by
  refine wp_region ?_
  have := opsA_run hP hc hf0 hQ ops.toList 0 s a w (fun j => by simp) hr hg
  rwa [Array.length_toList, ← List.range_eq_range'] at this
end Go.AM
