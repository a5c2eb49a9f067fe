/-
  THE ABSTRACT MACHINE: a region whose order is drawn. Conditions: none.
-/
import Derived.Test.YtdkmepjedjclkaaAmDraw2
namespace Go.AM

section
variable {P : Program} {pf : FuncId → Bool} {call : CallF} {md b : Nat} {ops : Array Oper} {i : Nat} {o : Oper}

def Valid (md : Nat) (o : Oper) : Prop := (classOf md o.op < 4 ∨ classOf md o.op = 6) ∧ (classOf md o.op = 2 → (md == 1) = false)

theorem classD_ne {c : Nat} (h : classD pf md o = c) (hc : c ≠ 1) : classOf md o.op = c := by
  unfold classD at h
  split at h
  · rename_i h3
    rw [h3]
    split at h
    · split at h
      · rename_i g _
        cases hb : (pf g && !(md == 2)) with
        | true => rw [hb] at h; exact (hc h.symm).elim
        | false => rw [hb] at h; exact h
      · exact h
    · exact h
  · exact h

theorem frameG {s : St} {a : Act} {w : World} {N : Nat → Prop} {pl : Pl} (hs : Sim s.m w N pl) (ha : StSim w N pl s a) {k : Nat} {X : Option AObj} (hk : ∀ t, pl k t = none) (hki : k ≠ b + i) (hv : Valid md o) (hc : classD pf md o ≠ 3) :
    effI P pf call md b ops i o (s.mem (s.m.fr k X)) = (effI P pf call md b ops i o s).map fun r => (r.1, r.2.fr k X) := by
  have hself : effI P pf call md b ops i o s = effI P pf call md b ops i o (s.mem s.m) := rfl
  by_cases h1 : classD pf md o = 1
  · exact frame hs ha hk hki (.inr (.inl h1))
  · have h2 := classD_ne (c := classD pf md o) rfl h1
    rcases hv with ⟨h3, h4⟩
    have : classOf md o.op = 0 ∨ classOf md o.op = 1 ∨ classOf md o.op = 2 ∨ classOf md o.op = 6 := by
      rw [h2] at h3 ⊢
      omega
    rcases this with h | h | h | h
    · exact frame hs ha hk hki (.inl h)
    · exact (h1 (h2 ▸ h)).elim
    · exact frame hs ha hk hki (.inr (.inr ⟨h, h4 h⟩))
    · rcases kind6 (P := P) (pf := pf) (call := call) (b := b) (ops := ops) (i := i) h s with ⟨v, Y, hE⟩ | ⟨ov, hE⟩
      · rw [hself, hE s.m rfl, hE (s.m.fr k X) rfl]
        show some (v, (s.m.fr k X).fr (b + i) Y) = some (v, (s.m.fr (b + i) Y).fr k X)
        simp only [Mem.fr, upd_swap _ _ _ hki]
      · rw [hself, hE s.m rfl, hE (s.m.fr k X) rfl]
        cases ov <;> rfl

theorem effI_nx (hv : Valid md o) (hc : classD pf md o ≠ 3) (s : St) {r : AV × Mem} (h : effI P pf call md b ops i o s = some r) : r.2.nx = s.m.nx := by
  have h' : effI P pf call md b ops i o (s.mem s.m) = some r := h
  by_cases h1 : classD pf md o = 1
  · rw [kind1 h1 s s.m r h']
  · have h2 := classD_ne (c := classD pf md o) rfl h1
    rcases hv with ⟨h3, h4⟩
    have : classOf md o.op = 0 ∨ classOf md o.op = 1 ∨ classOf md o.op = 2 ∨ classOf md o.op = 6 := by
      rw [h2] at h3 ⊢
      omega
    rcases this with h | h | h | h
    · obtain ⟨ov, hE⟩ := kind0 (P := P) (pf := pf) (call := call) (b := b) (ops := ops) (i := i) h s
      rw [hE] at h'
      cases ov with
      | none => cases h'
      | some v => cases h'; rfl
    · exact (h1 (h2 ▸ h)).elim
    · rcases effI_cases (P := P) (pf := pf) (call := call) (md := md) (b := b) (ops := ops) (i := i) (o := o) s with g | g | g
      · rw [g] at h'
        unfold effB at h'
        rw [h] at h'
        simp only [Option.map_eq_some_iff] at h'
        obtain ⟨q, _, rfl⟩ := h'
        rfl
      · rw [g] at h'; cases h'; rfl
      · rw [g] at h'; cases h'
    · rcases kind6 (P := P) (pf := pf) (call := call) (b := b) (ops := ops) (i := i) h s with ⟨v, Y, hE⟩ | ⟨ov, hE⟩
      · rw [hE _ rfl] at h'; cases h'; rfl
      · rw [hE _ rfl] at h'
        cases ov with
        | none => cases h'
        | some v => cases h'; rfl
end

/-- Two operations leave each other alone. -/
theorem indep {P : Program} {pf : FuncId → Bool} {call : CallF} {mdi mdj b : Nat} {ops : Array Oper} {i j : Nat} {oi oj : Oper} {s : St} {a : Act} {w : World} {N : Nat → Prop} {pl : Pl} (hs : Sim s.m w N pl) (ha : StSim w N pl s a) (hi : ∀ t, pl (b + i) t = none) (hj : ∀ t, pl (b + j) t = none) (hij : i ≠ j)
    (vi : Valid mdi oi) (vj : Valid mdj oj) (hp : pairOk (classD pf mdj oj) (classD pf mdi oi) = true) :
    ∀ uj mj ui m2, effI P pf call mdj b ops j oj s = some (uj, mj) → effI P pf call mdi b ops i oi (s.mem mj) = some (ui, m2) → ∃ mi, effI P pf call mdi b ops i oi s = some (ui, mi) ∧ effI P pf call mdj b ops j oj (s.mem mi) = some (uj, m2) := by
  intro uj mj ui m2 e1 e2
  have e1' : effI P pf call mdj b ops j oj (s.mem s.m) = some (uj, mj) := e1
  have eself : effI P pf call mdi b ops i oi s = effI P pf call mdi b ops i oi (s.mem s.m) := rfl
  have case0j : classOf mdj oj.op = 0 → ∃ mi, effI P pf call mdi b ops i oi s = some (ui, mi) ∧ effI P pf call mdj b ops j oj (s.mem mi) = some (uj, m2) := by
    intro h
    obtain ⟨ov, hE⟩ := kind0 (P := P) (pf := pf) (call := call) (b := b) (ops := ops) (i := j) h s
    rw [hE] at e1'
    cases ov with
    | none => cases e1'
    | some v =>
      cases e1'
      exact ⟨m2, e2, by rw [hE]; rfl⟩
  have case0i : classOf mdi oi.op = 0 → ∃ mi, effI P pf call mdi b ops i oi s = some (ui, mi) ∧ effI P pf call mdj b ops j oj (s.mem mi) = some (uj, m2) := by
    intro h
    obtain ⟨ov, hE⟩ := kind0 (P := P) (pf := pf) (call := call) (b := b) (ops := ops) (i := i) h s
    rw [hE] at e2
    cases ov with
    | none => cases e2
    | some v =>
      cases e2
      exact ⟨s.m, by rw [eself, hE]; rfl, e1'⟩
  have case6j : classOf mdj oj.op = 6 → classD pf mdi oi ≠ 3 → ∃ mi, effI P pf call mdi b ops i oi s = some (ui, mi) ∧ effI P pf call mdj b ops j oj (s.mem mi) = some (uj, m2) := by
    intro h h3
    rcases kind6 (P := P) (pf := pf) (call := call) (b := b) (ops := ops) (i := j) h s with ⟨v, X, hE⟩ | ⟨ov, hE⟩
    · rw [hE _ rfl] at e1'
      cases e1'
      rw [frameG hs ha hj (by omega) vi h3] at e2
      simp only [Option.map_eq_some_iff] at e2
      obtain ⟨⟨u, mi⟩, hq, he⟩ := e2
      cases he
      have hnx := effI_nx vi h3 s hq
      exact ⟨mi, hq, hE mi hnx⟩
    · rw [hE _ rfl] at e1'
      cases ov with
      | none => cases e1'
      | some v =>
        cases e1'
        have hnx := effI_nx vi h3 s (r := (ui, m2)) e2
        exact ⟨m2, e2, by rw [hE _ hnx]; rfl⟩
  have case6i : classOf mdi oi.op = 6 → classD pf mdj oj ≠ 3 → ∃ mi, effI P pf call mdi b ops i oi s = some (ui, mi) ∧ effI P pf call mdj b ops j oj (s.mem mi) = some (uj, m2) := by
    intro h h3
    have hnx := effI_nx vj h3 s e1
    rcases kind6 (P := P) (pf := pf) (call := call) (b := b) (ops := ops) (i := i) h s with ⟨v, X, hE⟩ | ⟨ov, hE⟩
    · rw [hE _ hnx] at e2
      cases e2
      refine ⟨s.m.fr (b + i) X, by rw [eself, hE _ rfl], ?_⟩
      rw [frameG hs ha hi (by omega) vj h3, e1]
      rfl
    · rw [hE _ hnx] at e2
      cases ov with
      | none => cases e2
      | some v =>
        cases e2
        exact ⟨s.m, by rw [eself, hE _ rfl]; rfl, e1'⟩
  unfold pairOk at hp
  simp only [Bool.or_eq_true, Bool.and_eq_true, beq_iff_eq, Bool.not_eq_true'] at hp
  rcases hp with (((h | h) | h) | h) | h
  · exact case0j (classD_ne h (by decide))
  · exact case0i (classD_ne h (by decide))
  · have hm : mj = s.m := kind1 h.1 s s.m (uj, mj) e1'
    subst hm
    have hm2 : m2 = s.m := kind1 h.2 s s.m (ui, m2) e2
    subst hm2
    exact ⟨s.m, e2, e1'⟩
  · exact case6j (classD_ne h.1 (by decide)) (by simpa using h.2)
  · exact case6i (classD_ne h.1 (by decide)) (by simpa using h.2)

/-! ### How far the numbers go -/
theorem writeN_nx {m m' : Mem} {cs : List AV} {a : AV} (h : writeN m cs a = some m') : m'.nx = m.nx := by
  cases a <;> simp only [writeN] at h <;> try (cases h; done)
  split at h
  · rename_i id off top _ xs _
    cases hc : (xs.length == top && (Nat.ble (off + cs.length) top && oneL cs)) with
    | false => rw [hc] at h; cases h
    | true => rw [hc] at h; cases h; rfl
  · cases h
theorem write1_nx {m m' : Mem} {c a : AV} (h : write1 m c a = some m') : m'.nx = m.nx := by
  cases a <;> simp only [write1] at h <;> try (cases h; done)
  split at h
  · rename_i id off top _ xs _
    cases hc : (xs.length == top && (Nat.blt off top && c.one)) with
    | false => rw [hc] at h; cases h
    | true => rw [hc] at h; cases h; rfl
  · cases h
theorem storeA_nx {g : Bool} {n : Nat} {m m' : Mem} {a v : AV} (h : storeA g n m a v = some m') : m'.nx = m.nx := by
  cases g <;> simp only [storeA, cond_true, cond_false] at h
  · cases hn : n == 1 with
    | false => rw [hn] at h; cases h
    | true => rw [hn] at h; exact write1_nx h
  · split at h
    · rename_i cs
      cases hn : cs.length == n with
      | false => rw [hn] at h; cases h
      | true => rw [hn] at h; exact writeN_nx h
    · cases h
theorem updA_nx {P : Program} {t : TypeId} {m m' : Mem} {a x v : AV} (h : updA P m t a x v = some m') : m'.nx = m.nx := by
  unfold updA at h
  split at h
  · rename_i kt et _
    cases hk : keyT P kt x with
    | false => rw [hk] at h; cases h
    | true =>
      rw [hk] at h
      simp only [cond_true] at h
      split at h
      · split at h
        · simp only [Option.bind_eq_some_iff] at h
          obtain ⟨r, _, h⟩ := h
          cases h; rfl
        · cases h
      · cases h
  · cases h
theorem entryA_nx {P : Program} {t : TypeId} {m m' : Mem} {a x v : AV} (h : entryA P m t a x = some (v, m')) : m'.nx = m.nx := by
  unfold entryA at h
  split at h
  · rename_i kt et _
    cases hk : keyT P kt x with
    | false => rw [hk] at h; cases h
    | true =>
      rw [hk] at h
      simp only [cond_true, Option.bind_eq_some_iff] at h
      obtain ⟨z, _, h⟩ := h
      split at h
      · split at h
        · simp only [Option.bind_eq_some_iff] at h
          obtain ⟨r, _, h⟩ := h
          split at h
          · simp only [Option.bind_eq_some_iff] at h
            obtain ⟨r, _, h⟩ := h
            cases h; rfl
          · cases h; rfl
        · cases h
      · cases h
  · cases h
theorem entryStA_nx {m m' : Mem} {a st v : AV} (h : entryStA m a st v = some m') : m'.nx = m.nx := by
  unfold entryStA at h
  split at h
  · rename_i id _ j
    split at h
    · rename_i g ks vs _
      cases hi : inR j vs.length with
      | false => rw [hi] at h; cases h
      | true => rw [hi] at h; cases h; rfl
    · cases h
  · cases h
theorem appendA_nx {size bytes : Nat} {m m' : Mem} {a x v : AV} (h : appendA size bytes m a x = some (v, m')) : m'.nx ≤ m.nx + 1 := by
  unfold appendA at h
  cases h0 : size == 0 with
  | true => rw [h0] at h; cases h
  | false =>
    rw [h0] at h
    simp only [cond_false, Option.bind_eq_some_iff] at h
    obtain ⟨⟨n, news⟩, _, h⟩ := h
    split at h
    · cases hn : n == 0 with
      | true => rw [hn] at h; cases h; exact Nat.le_succ _
      | false =>
        rw [hn] at h
        cases hr : room n bytes with
        | false => rw [hr] at h; cases h
        | true => rw [hr] at h; cases h; exact Nat.le_refl _
    · rename_i n0 cells
      cases hn : n == 0 with
      | true => rw [hn] at h; cases h; exact Nat.le_succ _
      | false =>
        rw [hn] at h
        cases hr : (room (n0 + n) bytes && cells.length == n0 * size) with
        | false => simp only [hr, cond_false] at h; cases h
        | true => simp only [hr, cond_true, cond_false] at h; cases h; exact Nat.le_refl _
    · rename_i id es off n0 top
      split at h
      · rename_i xs _
        cases hc : (xs.length == top && (es == size && off + n0 * size == top)) with
        | false => rw [hc] at h; cases h
        | true =>
          rw [hc] at h
          cases hn : n == 0 with
          | true => rw [hn] at h; cases h; exact Nat.le_succ _
          | false =>
            rw [hn] at h
            cases hr : room (n0 + n) bytes with
            | false => rw [hr] at h; cases h
            | true =>
              rw [hr] at h
              cases ho : off == 0 with
              | false => rw [ho] at h; cases h; exact Nat.le_refl _
              | true => rw [ho] at h; cases h; exact Nat.le_succ _
      · cases h
    · cases h
theorem copyA_nx {size : Nat} {m m' : Mem} {a x v : AV} (h : copyA size m a x = some (v, m')) : m'.nx = m.nx := by
  unfold copyA at h
  cases h0 : (size == 1 && !x.isStr) with
  | false => rw [h0] at h; cases h
  | true =>
    rw [h0] at h
    simp only [cond_true, Option.bind_eq_some_iff] at h
    obtain ⟨⟨n, news⟩, _, h⟩ := h
    split at h
    · cases h; rfl
    · rename_i id es off n0 top
      split at h
      · rename_i xs _
        cases hc : (xs.length == top && (es == size && Nat.ble (off + n0 * size) top)) with
        | false => rw [hc] at h; cases h
        | true => rw [hc] at h; cases h; rfl
      · cases h
    · cases h

theorem memA_nx {P : Program} {md : Nat} {s : St} {op : Op} {v : AV} {m' : Mem} (hc : classOf md op = 2 ∨ classOf md op = 6) (h : memA P s op = some (v, m')) : m'.nx ≤ s.m.nx + 1 := by
  rcases hc with hc | hc
  · cases op <;> simp only [classOf] at hc <;> try (cases hc; done)
    case box => cases hmd : md == 1 <;> simp [hmd] at hc
    case buildSlice => cases hmd : md == 1 <;> simp [hmd] at hc
    case load => cases hmd : md == 1 <;> simp [hmd] at hc
    case next _ y => cases y <;> cases hc
    case store t a v =>
      simp only [memA, Option.bind_eq_some_iff, Option.map_eq_some_iff] at h
      obtain ⟨g, _, n, _, m1, h, e⟩ := h
      cases e; rw [storeA_nx h]; exact Nat.le_succ _
    case mapUpdate t x q v =>
      simp only [memA, Option.map_eq_some_iff] at h
      obtain ⟨m1, h, e⟩ := h
      cases e; rw [updA_nx h]; exact Nat.le_succ _
    case insert t x q v =>
      simp only [memA, Option.map_eq_some_iff] at h
      obtain ⟨m1, h, e⟩ := h
      cases e; rw [updA_nx h]; exact Nat.le_succ _
    case mapEntry t x q =>
      simp only [memA] at h
      rw [entryA_nx h]; exact Nat.le_succ _
    case entryStore t x st v =>
      simp only [memA, Option.map_eq_some_iff] at h
      obtain ⟨m1, h, e⟩ := h
      cases e; rw [entryStA_nx h]; exact Nat.le_succ _
    case range => cases h
    case call c =>
      simp only [memA, memCall] at h
      split at h
      · split at h
        · split at h
          · simp only [Option.bind_eq_some_iff] at h
            obtain ⟨n, _, b', _, z, _, h⟩ := h
            cases hz : z.cells.length == n with
            | false => rw [hz] at h; cases h
            | true =>
              rw [hz] at h
              simp only [cond_true] at h
              split at h
              · exact appendA_nx h
              · exact appendA_nx h
              · cases h
          · cases h
        · cases h
      · split at h
        · split at h
          · simp only [Option.bind_eq_some_iff] at h
            obtain ⟨n, _, h⟩ := h
            rw [copyA_nx h]; exact Nat.le_succ _
          · cases h
        · cases h
      · cases h
  · obtain ⟨ob, rfl, _⟩ := memA_new hc h
    exact Nat.le_refl _

theorem frzV_nx {v v' : AV} {m m' : Mem} (h : frzV v m = some (v', m')) : m'.nx = m.nx := by
  unfold frzV at h
  split at h
  · split at h
    · rename_i id off top _ xs _
      cases hc : xs.length == top with
      | false => rw [hc] at h; cases h
      | true => rw [hc] at h; cases h; rfl
    · cases h
  · split at h
    · rename_i id es off n top _ xs _
      cases hc : (xs.length == top && (closedL xs && Nat.ble (off + n * es) top)) with
      | false => rw [hc] at h; cases h
      | true => rw [hc] at h; cases h; rfl
    · cases h
  · cases h; rfl

theorem opA_nx {P : Program} {pf : FuncId → Bool} {call : CallF} {md : Nat} {o : Oper} {s s' : St} (hc : classOf md o.op = 2 ∨ classOf md o.op = 6) (h : opA P pf call md o s = some s') : s'.m.nx ≤ s.m.nx + 1 := by
  have key : ((memA P s o.op).bind fun r => (bif md == 1 then frzV r.1 r.2 else some r).bind fun r => (s.mem r.2).put o.dst r.1) = some s' := by
    unfold opA at h
    rcases hc with hc | hc <;> rw [hc] at h <;> exact h
  simp only [Option.bind_eq_some_iff] at key
  obtain ⟨⟨v, m1⟩, h1, ⟨v2, m2⟩, h2, h3⟩ := key
  have hm : s'.m = m2 := (St.put_m h3).1
  have hn := memA_nx hc h1
  rw [hm]
  cases hmd : md == 1 with
  | false => rw [hmd] at h2; cases h2; exact hn
  | true => rw [hmd] at h2; rw [frzV_nx h2]; exact hn
end Go.AM
