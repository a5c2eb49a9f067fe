/-
  THE ABSTRACT MACHINE: a region whose order is drawn, whole. Conditions: none.
-/
import Derived.Test.YtdkmepjedjclkaaAmDraw4
namespace Go.AM

theorem anc_prefix : ∀ (l : List Oper) (acc : List Nat), ∃ t, anc l acc = acc ++ t
  | [], acc => ⟨[], by simp [anc]⟩
  | o :: l, acc => by
    obtain ⟨t, h⟩ := anc_prefix l (acc ++ [o.after.toList.foldl (fun s e => bif Region.binds .any e then s ||| 2 ^ e.on ||| acc.getD e.on 0 else s) 0])
    exact ⟨_ :: t, by rw [anc, h, List.append_assoc]; rfl⟩

theorem anc_old (l : List Oper) (acc : List Nat) (j : Nat) (h : j < acc.length) : (anc l acc).getD j 0 = acc.getD j 0 := by
  obtain ⟨t, e⟩ := anc_prefix l acc
  rw [e]
  simp only [List.getD_eq_getElem?_getD, List.getElem?_append_left h]

theorem anc_fold (acc : List Nat) (a : Nat) : ∀ (es : List Edge) (s : Nat), (es.foldl (fun s e => bif Region.binds .any e then s ||| 2 ^ e.on ||| acc.getD e.on 0 else s) s).testBit a = true →
    s.testBit a = true ∨ ∃ e ∈ es, Region.binds .any e = true ∧ (e.on = a ∨ (acc.getD e.on 0).testBit a = true)
  | [], s, h => .inl h
  | e :: es, s, h => by
    rw [List.foldl_cons] at h
    rcases anc_fold acc a es _ h with h | ⟨e', h1, h2⟩
    · cases hb : Region.binds .any e with
      | false => rw [hb] at h; exact .inl h
      | true =>
        rw [hb, cond_true, Nat.testBit_or, Nat.testBit_or] at h
        simp only [Bool.or_eq_true] at h
        rcases h with (h | h) | h
        · exact .inl h
        · rw [Nat.testBit_two_pow] at h
          exact .inr ⟨e, by simp, hb, .inl (by simpa using h)⟩
        · exact .inr ⟨e, by simp, hb, .inr h⟩
    · exact .inr ⟨e', by simp [h1], h2⟩

theorem anc_spec : ∀ (l : List Oper) (acc : List Nat) (j : Nat) (o : Oper), l[j]? = some o → ∀ a, ((anc l acc).getD (acc.length + j) 0).testBit a = true →
    ∃ e ∈ o.after.toList, Region.binds .any e = true ∧ (e.on = a ∨ ((anc l acc).getD e.on 0).testBit a = true)
  | [], acc, j, o, h, a, _ => by simp at h
  | o' :: l, acc, 0, o, h, a, ht => by
    simp at h
    subst h
    rw [anc, anc_old _ _ _ (by simp)] at ht
    rw [show (acc ++ [o'.after.toList.foldl (fun s e => bif Region.binds .any e then s ||| 2 ^ e.on ||| acc.getD e.on 0 else s) 0]).getD (acc.length + 0) 0 = o'.after.toList.foldl (fun s e => bif Region.binds .any e then s ||| 2 ^ e.on ||| acc.getD e.on 0 else s) 0 by
      simp only [List.getD_eq_getElem?_getD, Nat.add_zero, List.getElem?_append_right (Nat.le_refl _), Nat.sub_self]; rfl] at ht
    rcases anc_fold acc a _ _ ht with h | ⟨e, h1, h2, h3⟩
    · simp at h
    · refine ⟨e, h1, h2, h3.imp id fun h => ?_⟩
      have hlt : e.on < acc.length := by
        rcases Nat.lt_or_ge e.on acc.length with h' | h'
        · exact h'
        · simp [List.getD_eq_getElem?_getD, List.getElem?_eq_none h'] at h
      rw [anc_old (o' :: l) acc _ hlt]
      exact h
  | o' :: l, acc, j + 1, o, h, a, ht => by
    have h' : l[j]? = some o := by simpa using h
    rw [anc] at ht ⊢
    have := anc_spec l (acc ++ [o'.after.toList.foldl (fun s e => bif Region.binds .any e then s ||| 2 ^ e.on ||| acc.getD e.on 0 else s) 0]) j o h' a (by
      rw [List.length_append]
      simp only [List.length_cons, List.length_nil]
      rw [show acc.length + (0 + 1) + j = acc.length + (j + 1) by omega]
      exact ht)
    exact this

/-- What drawOk says. -/
structure DrawRight (pf : FuncId → Bool) (md : Nat → Nat) (ops : Array Oper) : Prop where
  deps : ∀ (j : Nat) o, ops[j]? = some o → ∀ e ∈ o.after.toList, Region.binds .any e = true → e.on < j
  free : ∀ (i j : Nat) oi oj, ops[i]? = some oi → ops[j]? = some oj → i < j → ((anc ops.toList []).getD j 0).testBit i = true ∨ (pairOk (classD pf (md i) oi) (classD pf (md j) oj) = true ∧ oi.apart ops oj = true)
  valid : ∀ (j : Nat) o, ops[j]? = some o → Valid (md j) o

theorem drawRight {pf : FuncId → Bool} {md : Nat → Nat} {ops : Array Oper} (h : drawOk pf md ops = true) : DrawRight pf md ops := by
  unfold drawOk freeA at h
  simp only [Bool.and_eq_true] at h
  obtain ⟨h1, h2⟩ := h
  rw [List.all_eq_true] at h1 h2
  have hz : ∀ (j : Nat) (o : Oper), ops[j]? = some o → (o, j) ∈ ops.toList.zipIdx := fun j o h => by rw [List.mem_zipIdx_iff_getElem?]; simpa using h
  refine ⟨fun j o ho e he hb => ?_, fun i j oi oj hi hj hlt => ?_, fun j o ho => ?_⟩
  · have := h1 (o, j) (hz j o ho)
    simp only [Bool.and_eq_true] at this
    have h3 := Array.all_eq_true_iff_forall_mem.1 this.1 e (by simpa using he)
    simp only [hb, Bool.not_true, Bool.false_or, Nat.blt_eq] at h3
    exact h3
  · have := h1 (oj, j) (hz j oj hj)
    simp only [Bool.and_eq_true] at this
    have h3 := List.all_eq_true.1 this.2 (oi, i) (by
      rw [List.mem_zipIdx_iff_getElem?]
      simp only [List.getElem?_take]
      rw [if_pos hlt]
      simpa using hi)
    simp only [Bool.or_eq_true, Bool.and_eq_true] at h3
    exact h3
  · have := h2 (o, j) (hz j o ho)
    simp only [Bool.or_eq_true, Bool.and_eq_true, Nat.blt_eq, beq_iff_eq, Bool.not_eq_true', beq_eq_false_iff_ne, ne_eq] at this
    unfold Valid
    rcases this with ⟨h3, h4⟩ | h3
    · refine ⟨.inl h3, fun h5 => ?_⟩
      rcases h4 with h4 | h4
      · exact (h4 h5).elim
      · simpa using h4
    · exact ⟨.inr h3, fun h5 => by rw [h3] at h5; cases h5⟩

/-- All that must come before has come. -/
theorem anc_listed {pf : FuncId → Bool} {md : Nat → Nat} {ops : Array Oper} (hd : DrawRight pf md ops) {listed : Array Bool} (hsz : listed.size = ops.size) (hcl : ∀ (j : Nat) o, ops[j]? = some o → listed.getD j false = true → ∀ e ∈ o.after, Region.binds .any e = true → listed.getD e.on false = true) (a : Nat) :
    ∀ (j : Nat) o, ops[j]? = some o → (∀ e ∈ o.after, Region.binds .any e = true → listed.getD e.on false = true) → ((anc ops.toList []).getD j 0).testBit a = true → listed.getD a false = true := by
  intro j
  induction j using Nat.strongRecOn with
  | ind j ih =>
    intro o ho hall ht
    obtain ⟨e, h1, h2, h3⟩ := anc_spec ops.toList [] j o (by simpa using ho) a (by simpa using ht)
    have he : e ∈ o.after := by simpa using h1
    have hl := hall e he h2
    rcases h3 with rfl | h3
    · exact hl
    · have hlt := hd.deps j o ho e h1 h2
      have hon : e.on < ops.size := Nat.lt_trans hlt (Array.getElem?_eq_some_iff.1 ho).1
      exact ih e.on hlt ops[e.on] (Array.getElem?_eq_getElem hon) (hcl e.on _ (Array.getElem?_eq_getElem hon) hl) h3

section
variable {P : Program} {pf : FuncId → Bool} {call : CallF} {md : Nat → Nat} {b : Nat} {ops : Array Oper} {m0 : Mem} {w0 : World} {N0 : Nat → Prop} {i0 : Pl} {Q : Exit → Act → World → Prop}

theorem drawn (hP : NoNum P) (hc : CallOk P pf call) (hb : m0.nx ≤ b) (hd : DrawRight pf md ops) {send : St} (hQ : ∀ s a w, Eqv s send → DInv m0 w0 N0 i0 b ops.size [] s a w → Q .normal a w) :
    ∀ (fuel : Nat) (listed : Array Bool) (rest : List Nat) (s se : St) (a : Act) (w : World), rest.length = fuel → listed.size = ops.size → rest.Pairwise (· < ·) → (∀ j, j ∈ rest ↔ j < ops.size ∧ listed.getD j true = false) →
      (∀ (j : Nat) o, ops[j]? = some o → listed.getD j false = true → ∀ e ∈ o.after, Region.binds .any e = true → listed.getD e.on false = true) →
      runP P pf call md b ops rest s = some se → Eqv se send → DInv m0 w0 N0 i0 b ops.size rest s a w → wpAny P .any ops Q fuel listed a w := by
  intro fuel
  induction fuel with
  | zero =>
    intro listed rest s se a w hl hsz hpw hmem hcl hr he hg
    obtain rfl : rest = [] := List.eq_nil_of_length_eq_zero hl
    cases hr
    refine ⟨?_, hQ s a w he hg⟩
    cases hrd : Region.ready .any ops listed with
    | nil => rfl
    | cons j _ =>
      have hj : j ∈ Region.ready .any ops listed := by rw [hrd]; simp
      obtain ⟨h0, o, ho, _⟩ := mem_ready.1 hj
      have := (hmem j).2 ⟨(Array.getElem?_eq_some_iff.1 ho).1, h0⟩
      cases this
  | succ fuel ih =>
    intro listed rest s se a w hl hsz hpw hmem hcl hr he hg
    have hget : ∀ j, j < ops.size → listed.getD j false = listed.getD j true := fun j hj => by simp [hsz, hj]
    constructor
    · intro hnil
      exfalso
      cases rest with
      | nil => cases hl
      | cons j rest =>
        obtain ⟨hj, hu⟩ := (hmem j).1 (by simp)
        have : j ∈ Region.ready .any ops listed := mem_ready.2 ⟨hu, ops[j], Array.getElem?_eq_getElem hj, fun e he hb => by
          have hlt := hd.deps j _ (Array.getElem?_eq_getElem hj) e (by simpa using he) hb
          have hon : e.on < ops.size := by omega
          rw [hget _ hon]
          cases hx : listed.getD e.on true with
          | true => rfl
          | false =>
            have := (hmem e.on).2 ⟨hon, hx⟩
            rcases List.mem_cons.1 this with h | h
            · omega
            · have := List.rel_of_pairwise_cons hpw h
              omega⟩
        rw [hnil] at this
        cases this
    · intro i hi
      obtain ⟨hu, oi, hoi, hall⟩ := mem_ready.1 hi
      have hilt : i < ops.size := (Array.getElem?_eq_some_iff.1 hoi).1
      have hir : i ∈ rest := (hmem i).2 ⟨hilt, hu⟩
      obtain ⟨pre, post, hsplit⟩ := List.append_of_mem hir
      subst hsplit
      have hpw' := List.pairwise_append.1 hpw
      have hprelt : ∀ j ∈ pre, j < i := fun j hj => hpw'.2.2 j hj i (by simp)
      have hpostgt : ∀ j ∈ post, i < j := fun j hj => List.rel_of_pairwise_cons hpw'.2.1 hj
      have hok : ∀ j ∈ pre, j < ops.size ∧ ∃ oj, ops[j]? = some oj ∧ Valid (md j) oj ∧ pairOk (classD pf (md j) oj) (classD pf (md i) oi) = true ∧ oj.apart ops oi = true := by
        intro j hj
        obtain ⟨hjlt, hju⟩ := (hmem j).1 (by simp [hj])
        have hoj : ops[j]? = some ops[j] := Array.getElem?_eq_getElem hjlt
        refine ⟨hjlt, ops[j], hoj, hd.valid j _ hoj, ?_⟩
        rcases hd.free j i _ oi hoj hoi (hprelt j hj) with h | h
        · have := anc_listed hd hsz hcl j i oi hoi hall h
          rw [hget j hjlt, hju] at this
          cases this
        · exact h
      have hr' : ((runP P pf call md b ops (pre ++ [i]) s).bind (runP P pf call md b ops post)) = some se := by
        rw [← runP_app, List.append_assoc]
        exact hr
      simp only [Option.bind_eq_some_iff] at hr'
      obtain ⟨s2, h1, h2⟩ := hr'
      have hnd : (i :: pre).Nodup := by
        rw [List.nodup_cons]
        exact ⟨fun h => by have := hprelt i h; omega, hpw'.1.imp fun h => Nat.ne_of_lt h⟩
      obtain ⟨s1, s2', k1, k2, k3⟩ := move hP hc hb hoi hilt (hd.valid i oi hoi) pre (pre ++ i :: post) s s2 a w hnd (fun j hj => by
        rcases List.mem_cons.1 hj with rfl | hj
        · exact hir
        · exact List.mem_append_left _ hj) hok hg h1
      obtain ⟨se', q1, q2⟩ := runP_eqv k3.symm h2
      refine stepD hP hc hb hoi hir hilt (rest' := pre ++ post) (fun j hj => ?_) k1 hg (fun a' w' hg' => ?_)
      · rcases List.mem_append.1 hj with h | h
        · exact ⟨by simp [h], by have := hprelt j h; omega, (hok j h).1⟩
        · exact ⟨by simp [h], by have := hpostgt j h; omega, ((hmem j).1 (by simp [h])).1⟩
      · have hset : ∀ j d, i ≠ j → (listed.setIfInBounds i true).getD j d = listed.getD j d := fun j d h => getD_set_ne d h
        have hsi : (listed.setIfInBounds i true).getD i true = true := by
          simp [hsz, hilt]
        refine ih (listed.setIfInBounds i true) (pre ++ post) s1 se' a' w' (by simp at hl ⊢; omega) (by simp [hsz]) ?_ (fun j => ?_) (fun j o ho hlj e he hb => ?_) (by rw [runP_app, k2]; exact q1) (q2.symm.trans he) hg'
        · exact List.pairwise_append.2 ⟨hpw'.1, (List.pairwise_cons.1 hpw'.2.1).2, fun x hx y hy => hpw'.2.2 x hx y (by simp [hy])⟩
        · by_cases e : i = j
          · subst e
            rw [hsi]
            constructor
            · intro h
              rcases List.mem_append.1 h with h | h
              · have := hprelt i h; omega
              · have := hpostgt i h; omega
            · rintro ⟨_, h⟩; cases h
          · rw [hset j true e, ← hmem j]
            simp [List.mem_append, Ne.symm e]
        · by_cases e2 : i = j
          · subst e2
            rw [hoi] at ho
            cases ho
            exact getD_set_true (hall e he hb)
          · rw [hset j false e2] at hlj
            exact getD_set_true (hcl j o ho hlj e he hb)
end

/-- The region in the order of the text, as steps one after the other. -/
theorem opsA_runP {P : Program} {pf : FuncId → Bool} {call : CallF} {md : Nat → Nat} {b : Nat} {ops : Array Oper} {R : Type} {k : St → Option R} {r : R} (hv : ∀ (j : Nat) o, ops[j]? = some o → classOf (md j) o.op ≠ 4) :
    ∀ (l : List Oper) (n : Nat) (s : St), (∀ j, l[j]? = ops[n + j]?) → opsA P pf call md ops (some b) n l s k = some r → ∃ se, runP P pf call md b ops (List.range' n l.length) s = some se ∧ k se = some r
  | [], n, s, _, h => ⟨s, rfl, h⟩
  | o :: l, n, s, hl, h => by
    have ho : ops[n]? = some o := by simpa using (hl 0).symm
    have hl' : ∀ j, l[j]? = ops[n + 1 + j]? := fun j => by have := hl (j + 1); simp at this; rw [this]; congr 1; omega
    have h4 := hv n o ho
    have hstep : ∃ s1, stepI P pf call (md n) b ops n o s = some s1 ∧ opsA P pf call md ops (some b) (n + 1) l s1 k = some r := by
      have key : ∀ s', (match classOf (md n) o.op with
          | 4 => nextA s' o fun s => opsA P pf call md ops (some b) (n + 1) l s k
          | _ => (opI P pf call (md n) (some b) n o s').bind fun s => opsA P pf call md ops (some b) (n + 1) l s k) = (opI P pf call (md n) (some b) n o s').bind fun s => opsA P pf call md ops (some b) (n + 1) l s k := by
        intro s'
        split
        · rename_i h; exact (h4 h).elim
        · rfl
      simp only [opsA] at h
      unfold stepI
      unfold guardA at h ⊢
      cases hg : o.guard with
      | none =>
        rw [hg] at h
        simp only [key, Option.bind_eq_some_iff] at h
        exact h
      | some jw =>
        obtain ⟨j, want⟩ := jw
        rw [hg] at h
        simp only at h ⊢
        cases hd : (ops[j]?).bind (·.dst) with
        | none => rw [hd] at h; cases h
        | some d =>
          rw [hd] at h
          simp only at h ⊢
          cases hv : s.get d with
          | bool b' =>
            rw [hv] at h
            cases hlt : Nat.blt d s.nt with
            | false => cases b' <;> (simp only [hlt, cond_false] at h; cases h)
            | true =>
              cases b' <;> cases want <;> (simp only [hlt, cond_true, cond_false, key, Option.bind_eq_some_iff] at h ⊢; exact h)
          | tup vs =>
            rw [hv] at h
            cases vs with
            | nil => simp only [Option.bind_eq_some_iff] at h; exact h
            | cons => cases h
          | _ => rw [hv] at h; cases h
    obtain ⟨s1, h1, h2⟩ := hstep
    obtain ⟨se, h3, h4'⟩ := opsA_runP hv l (n + 1) s1 hl' h2
    refine ⟨se, ?_, h4'⟩
    show runP P pf call md b ops (n :: List.range' (n + 1) l.length) s = some se
    simp only [runP, ho, h1, Option.bind_some, h3]

theorem drawSound (P : Program) (hm : P.follows .mixedOrders = true) : DrawSound P := by
  intro pf call hP hc md id ops k r Q m0 w0 N0 i0 hf0 hQ s a w hdr hr hg
  have hd := drawRight hdr
  have hno4 : ∀ (j : Nat) o, ops[j]? = some o → classOf (md j) o.op ≠ 4 := fun j o ho h => by
    rcases (hd.valid j o ho).1 with h' | h' <;> omega
  obtain ⟨se, h1, h2⟩ := opsA_runP (b := s.m.nx) hno4 ops.toList 0 _ (fun j => by simp) hr
  rw [Array.length_toList] at h1
  obtain ⟨N, i, hs, he, ha⟩ := hg
  have hfr : Fresh s.m i := hf0.ext he
  refine wp_region_any hm ?_
  have hs2 : Sim (s.nx (s.m.nx + ops.size)).m { w with drawn := w.drawn + 1 } N i := (Sim.drew hs).nx _
  have he2 : Ext m0 w0 N0 i0 (s.nx (s.m.nx + ops.size)).m { w with drawn := w.drawn + 1 } N i := by
    refine ⟨he.os, he.tape, he.output, he.size, he.hN, he.hi, he.keep, he.grow, he.newN, Nat.le_trans he.nx (Nat.le_add_right _ _), fun id t x h => (he.pl id t x h).imp_right fun h => ⟨h.1, Nat.lt_of_lt_of_le h.2 (Nat.le_add_right _ _)⟩⟩
  have l : Le w N i { w with drawn := w.drawn + 1 } N i := ⟨fun _ h => h, fun _ _ => rfl, fun _ _ _ h => h⟩
  have ha2 : StSim { w with drawn := w.drawn + 1 } N i (s.nx (s.m.nx + ops.size)) a := ⟨fun j => Rep.mono l _ (ha.slot j), ha.size, ha.dfr⟩
  refine drawn (b := s.m.nx) (send := se) hP hc he.nx hd (fun s' a' w' heq hg' => ?_) ops.size (Array.replicate ops.size false) (List.range' 0 ops.size) _ se a _ (by simp) (by simp) List.pairwise_lt_range' (fun j => ?_) (fun j o ho hl => ?_) h1 (Eqv.refl _) ⟨N, i, hs2, he2, ha2, fun j hj t => hfr _ (Nat.le_add_right _ _) t, fun k hk t => hfr k (Nat.le_trans (Nat.le_add_right _ _) hk) t, Nat.le_refl _⟩
  · obtain ⟨N', pl', k1, k2, k3, _⟩ := hg'
    exact hQ se a' w' h2 ⟨N', pl', by rw [← heq.m]; exact k1, by rw [← heq.m]; exact k2, ⟨fun j => by rw [← heq.get]; exact k3.slot j, by rw [← heq.nt]; exact k3.size, k3.dfr⟩⟩
  · simp only [List.mem_range'_1, Nat.zero_le, true_and, Nat.zero_add]
    constructor
    · intro h; exact ⟨h, by simp [h]⟩
    · exact fun h => h.1
  · exfalso
    have : j < ops.size := (Array.getElem?_eq_some_iff.1 ho).1
    simp [this] at hl
end Go.AM
