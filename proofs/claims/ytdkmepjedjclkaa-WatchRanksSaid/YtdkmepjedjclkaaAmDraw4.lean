/-
  THE ABSTRACT MACHINE: a region whose order is drawn: every order comes to the same end. Conditions: none.
-/
import Derived.Test.YtdkmepjedjclkaaAmDraw3
namespace Go.AM

/-- Along a region whose order is drawn: what is left to do has its numbers free. -/
def DInv (m0 : Mem) (w0 : World) (N0 : Nat → Prop) (i0 : Pl) (b n : Nat) (rest : List Nat) (s : St) (a : Act) (w : World) : Prop :=
  ∃ N pl, Sim s.m w N pl ∧ Ext m0 w0 N0 i0 s.m w N pl ∧ StSim w N pl s a ∧ (∀ j ∈ rest, ∀ t, pl (b + j) t = none) ∧ Fresh s.m pl ∧ b + n ≤ s.m.nx

theorem stepD {P : Program} {pf : FuncId → Bool} {call : CallF} (hP : NoNum P) (hc : CallOk P pf call) {md b n : Nat} {ops : Array Oper} {i : Nat} {o : Oper} {m0 : Mem} {w0 : World} {N0 : Nat → Prop} {i0 : Pl} (hb : m0.nx ≤ b) {rest rest' : List Nat} {s s' : St} {a : Act} {w : World}
    {K : Act → World → Prop} {Q : Exit → Act → World → Prop} (ho : ops[i]? = some o) (hin : i ∈ rest) (hlt : i < n) (hr' : ∀ j ∈ rest', j ∈ rest ∧ j ≠ i ∧ j < n) (hr : stepI P pf call md b ops i o s = some s') (hg : DInv m0 w0 N0 i0 b n rest s a w)
    (hK : ∀ a' w', DInv m0 w0 N0 i0 b n rest' s' a' w' → K a' w') : wpOp P ops Q i K a w := by
  obtain ⟨N, pl, hs, he, ha, hfree, hfr, hbn⟩ := hg
  obtain ⟨s1, m1, n1, g1, ha1, hcase⟩ := guardA_run ha hr
  have hs1 : Sim s1.m w N pl := by rw [m1]; exact hs
  have he1 : Ext m0 w0 N0 i0 s1.m w N pl := by rw [m1]; exact he
  have hf1 : Fresh s1.m pl := by rw [m1]; exact hfr
  have hbn1 : b + n ≤ s1.m.nx := by rw [m1]; exact hbn
  unfold wpOp
  simp only [ho]
  rcases hcase with ⟨hw, hr⟩ | ⟨hw, hr⟩
  · simp only [hw, if_true]
    left
    have plain : opA P pf call md o s1 = some s' → o.wp P a w K Q := by
      intro h
      refine opA_run hP hc hs1 ha1 hf1.nx (fun _ => hf1) h ?_
      rintro a' w' ⟨N', pl', k1, k2, k3⟩
      refine hK a' w' ⟨N', pl', k1, he1.trans k2, k3, fun j hj t => ?_, hf1.ext k2, Nat.le_trans hbn1 k2.nx⟩
      obtain ⟨h1, h2, h3⟩ := hr' j hj
      cases hx : pl' (b + j) t with
      | none => rfl
      | some x =>
        rcases k2.pl _ _ _ hx with ⟨t', y, h4⟩ | ⟨h4, _⟩
        · rw [hfree j h1] at h4; cases h4
        · omega
    have numbered : (classOf md o.op = 2 ∨ classOf md o.op = 6) → (opA P pf call md o (s1.nx (b + i))).map (fun s' => s'.nx s1.m.nx) = some s' → o.wp P a w K Q := by
      intro hcl h
      simp only [Option.map_eq_some_iff] at h
      obtain ⟨s2, h, rfl⟩ := h
      have hnx := opA_nx hcl h
      have hs2 : Sim (s1.nx (b + i)).m w N pl := hs1.nx _
      have ha2 : StSim w N pl (s1.nx (b + i)) a := ⟨ha1.slot, ha1.size, ha1.dfr⟩
      refine opA_run hP hc hs2 ha2 (fun t => hfree i hin t) (fun h3 => by rcases hcl with h | h <;> rw [h] at h3 <;> cases h3) h ?_
      rintro a' w' ⟨N', pl', k1, k2, k3⟩
      have hnx' : s2.m.nx ≤ b + i + 1 := hnx
      have hpl : ∀ id t x, pl' id t = some x → (∃ t' y, pl id t' = some y) ∨ id = b + i := by
        intro id t x h
        rcases k2.pl _ _ _ h with h | ⟨h1, h2⟩
        · exact .inl h
        · right
          have h1' : b + i ≤ id := h1
          omega
      have hext : Ext m0 w0 N0 i0 (s2.nx s1.m.nx).m w' N' pl' := by
        refine ⟨k2.os.trans he1.os, k2.tape.trans he1.tape, k2.output.trans he1.output, Nat.le_trans he1.size k2.size, fun b h => k2.hN b (he1.hN b h), fun id t x h => k2.hi _ _ _ (he1.hi _ _ _ h), ?_, ?_, ?_, he1.nx, ?_⟩
        · intro bb hbb hl
          rw [k2.keep bb (Nat.lt_of_lt_of_le hbb he1.size) (fun h => by rcases he1.grow bb h with h | h; exact hl h; omega), he1.keep bb hbb hl]
        · intro bb h
          rcases k2.grow bb h with h | h
          · exact he1.grow bb h
          · exact .inr (Nat.le_trans he1.size h)
        · intro bb h
          rcases k2.newN bb h with h | h | h
          · exact he1.newN bb h
          · rcases he1.grow bb h with h | h
            · exact .inr (.inl h)
            · exact .inr (.inr h)
          · exact .inr (.inr (Nat.le_trans he1.size h))
        · intro id t x h
          rcases hpl id t x h with ⟨t', y, h⟩ | h
          · exact he1.pl id t' y h
          · right
            show m0.nx ≤ id ∧ id < s1.m.nx
            omega
      refine hK a' w' ⟨N', pl', k1.nx _, hext, ⟨k3.slot, k3.size, k3.dfr⟩, fun j hj t => ?_, fun k hk t => ?_, hbn1⟩
      · obtain ⟨h1, h2, h3⟩ := hr' j hj
        cases hx : pl' (b + j) t with
        | none => rfl
        | some x =>
          rcases hpl _ _ _ hx with ⟨t', y, h4⟩ | h4
          · rw [hfree j h1] at h4; cases h4
          · omega
      · have hk' : s1.m.nx ≤ k := hk
        cases hx : pl' k t with
        | none => rfl
        | some x =>
          rcases hpl _ _ _ hx with ⟨t', y, h4⟩ | h4
          · rw [hf1 k hk'] at h4; cases h4
          · omega
    unfold opI at hr
    simp only at hr
    split at hr
    · rename_i h2; exact numbered (.inl h2) hr
    · rename_i h6; exact numbered (.inr h6) hr
    · exact plain hr
  · simp only [hw, Bool.false_eq_true, if_false]
    obtain ⟨hm, _⟩ := St.put_m hr
    refine hK _ w ⟨N, pl, by rw [hm]; exact hs1, by rw [hm]; exact he1, ha1.put hr ⟨#[], rfl, rfl⟩, fun j hj => hfree j (hr' j hj).1, by rw [hm]; exact hf1, by rw [hm]; exact hbn1⟩

/-- What is shown of every end shows that there is one. -/
theorem wp_exists {P : Program} {ops : Array Oper} {i : Nat} {K : Act → World → Prop} {a : Act} {w : World} (h : wpOp P ops (fun _ _ _ => False) i K a w) : ∃ a' w', K a' w' := by
  unfold wpOp at h
  split at h
  · exact ⟨_, _, h⟩
  · split at h
    · rcases h with h | ⟨_, _, _, h⟩
      · unfold Oper.wp at h
        generalize (execOp a.eval _).run P w = r at h
        cases r with
        | ok n w' =>
          cases n <;> simp only [Oper.upon] at h <;> try exact ⟨_, _, h⟩
          · obtain ⟨e, w'', fr, hR, _⟩ := h []
            cases e with
            | returned v => exact ⟨_, _, hR⟩
            | panicked c => exact hR.elim
            | outgrown => obtain ⟨_, _, hR⟩ := hR; exact hR.elim
          · obtain ⟨v, w'', hR, _⟩ := h default []
            exact ⟨_, _, hR⟩
        | halt x w' => cases x <;> simp only [Oper.upon] at h
      · exact h.elim
    · exact ⟨_, _, h⟩

/-- Steps one after the other. -/
def runP (P : Program) (pf : FuncId → Bool) (call : CallF) (md : Nat → Nat) (b : Nat) (ops : Array Oper) : List Nat → St → Option St
  | [], s => some s
  | i :: l, s => match ops[i]? with
    | none => none
    | some o => (stepI P pf call (md i) b ops i o s).bind (runP P pf call md b ops l)

section
variable {P : Program} {pf : FuncId → Bool} {call : CallF} {md : Nat → Nat} {b n : Nat} {ops : Array Oper} {m0 : Mem} {w0 : World} {N0 : Nat → Prop} {i0 : Pl}

theorem runP_app : ∀ (l k : List Nat) (s : St), runP P pf call md b ops (l ++ k) s = (runP P pf call md b ops l s).bind (runP P pf call md b ops k)
  | [], k, s => rfl
  | i :: l, k, s => by
    simp only [List.cons_append, runP]
    cases ops[i]? with
    | none => rfl
    | some o =>
      simp only
      cases stepI P pf call (md i) b ops i o s with
      | none => rfl
      | some s' => exact runP_app l k s'

theorem runP_eqv : ∀ {l : List Nat} {s t s' : St}, Eqv s t → runP P pf call md b ops l s = some s' → ∃ t', runP P pf call md b ops l t = some t' ∧ Eqv s' t'
  | [], s, t, s', h, hr => by cases hr; exact ⟨t, rfl, h⟩
  | i :: l, s, t, s', h, hr => by
    simp only [runP] at hr ⊢
    cases ho : ops[i]? with
    | none => rw [ho] at hr; cases hr
    | some o =>
      rw [ho] at hr
      simp only [Option.bind_eq_some_iff] at hr
      obtain ⟨s1, h1, h2⟩ := hr
      obtain ⟨t1, k1, k2⟩ := step_eqv h h1
      obtain ⟨t', k3, k4⟩ := runP_eqv k2 h2
      exact ⟨t', by simp only [k1, Option.bind_some, k3], k4⟩

/-- What may stand first is brought to the front. -/
theorem move (hP : NoNum P) (hc : CallOk P pf call) (hb : m0.nx ≤ b) {i : Nat} {oi : Oper} (hoi : ops[i]? = some oi) (hi : i < n) (hvi : Valid (md i) oi) : ∀ (pre rest : List Nat) (s s2 : St) (a : Act) (w : World), (i :: pre).Nodup → (∀ j ∈ i :: pre, j ∈ rest) →
    (∀ j ∈ pre, j < n ∧ ∃ oj, ops[j]? = some oj ∧ Valid (md j) oj ∧ pairOk (classD pf (md j) oj) (classD pf (md i) oi) = true ∧ oj.apart ops oi = true) → DInv m0 w0 N0 i0 b n rest s a w → runP P pf call md b ops (pre ++ [i]) s = some s2 →
    ∃ s1 s2', stepI P pf call (md i) b ops i oi s = some s1 ∧ runP P pf call md b ops pre s1 = some s2' ∧ Eqv s2' s2
  | [], rest, s, s2, a, w, _, _, _, _, hr => by
    simp only [List.nil_append, runP, hoi] at hr
    cases h : stepI P pf call (md i) b ops i oi s with
    | none => rw [h] at hr; cases hr
    | some s1 => rw [h] at hr; cases hr; exact ⟨_, _, rfl, rfl, Eqv.refl _⟩
  | j :: pre, rest, s, s2, a, w, hnd, hmem, hok, hg, hr => by
    obtain ⟨hjn, oj, hoj, hvj, hpair, hap⟩ := hok j (by simp)
    simp only [List.cons_append, runP, hoj, Option.bind_eq_some_iff] at hr
    obtain ⟨sj, h1, h2⟩ := hr
    have hnd' : i ≠ j ∧ i ∉ pre ∧ j ∉ pre ∧ pre.Nodup := by
      simp only [List.nodup_cons, List.mem_cons, not_or] at hnd
      exact ⟨hnd.1.1, hnd.1.2, hnd.2.1, hnd.2.2⟩
    -- the state behind j is real
    have hreal : ∃ a' w', DInv m0 w0 N0 i0 b n (i :: pre) sj a' w' := wp_exists (stepD (Q := fun _ _ _ => False) hP hc hb hoj (hmem j (by simp)) hjn (fun k hk => by
        rcases List.mem_cons.1 hk with rfl | hk
        · exact ⟨hmem k (by simp), hnd'.1, hi⟩
        · exact ⟨hmem k (by simp [hk]), fun e => hnd'.2.2.1 (e ▸ hk), (hok k (by simp [hk])).1⟩) h1 hg (fun a' w' h => h))
    obtain ⟨a', w', hg'⟩ := hreal
    obtain ⟨s1', s2', k1, k2, k3⟩ := move hP hc hb hoi hi hvi pre (i :: pre) sj s2 a' w' (by simp [hnd'.2.1, hnd'.2.2.2]) (fun k hk => hk) (fun k hk => hok k (by simp [hk])) hg' h2
    obtain ⟨N, pl, hs, he, ha, hfree, hfr, hbn⟩ := hg
    obtain ⟨t1, t2, q1, q2, q3⟩ := comm h1 k1 hap (indep hs ha (hfree i (hmem i (by simp))) (hfree j (hmem j (by simp))) hnd'.1 hvi hvj hpair)
    obtain ⟨t3, r1, r2⟩ := runP_eqv q3.symm k2
    refine ⟨t1, t3, q1, ?_, r2.symm.trans k3⟩
    simp only [runP, hoj, q2, Option.bind_some, r1]
end
end Go.AM
