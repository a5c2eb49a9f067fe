/-
  THE ABSTRACT MACHINE: maps are written; every operation that makes or writes memory does what the machine says. Conditions: none.
-/
import Derived.Test.YtdkmepjedjclkaaAmOps8
namespace Go.AM

theorem setObj_get {w : World} {b : Nat} {o : Obj} (h : b < w.heap.size) : (w.heap.setIfInBounds b o)[b]? = some o := by simp [h]
theorem setObj_other {w : World} {b k : Nat} {o : Obj} (h : k ≠ b) : (w.heap.setIfInBounds b o)[k]? = w.heap[k]? := by
  have h' : ¬ b = k := fun e => h e.symm
  simp [h']

/-- A map's block gets new entries. -/
theorem Sim.setMap {m : Mem} {w : World} {N : Nat → Prop} {i : Pl} (s : Sim m w N i) {id g g' b o c : Nat} {ks vs ks' vs' : List AV} {es' : Array MapEntry} (ho : m.h id = some (.map g ks vs)) (hp : i id 0 = some (b, o, c))
    (hborn : ∀ (k : Nat) e, es'[k]? = some e → e.born = k) (hk : RepL w N i ks' (es'.toList.map (·.key))) (hv : RepL w N i vs' (es'.toList.map (·.val))) :
    Sim (m.set id (some (.map g' ks' vs'))) { w with heap := w.heap.setIfInBounds b (.map es' es'.size) } N i ∧ Ext m w N i (m.set id (some (.map g' ks' vs'))) { w with heap := w.heap.setIfInBounds b (.map es' es'.size) } N i := by
  obtain ⟨b', o', c', g1, g2, g3⟩ := s.live id _ ho
  have e0 : AObj.top (.map g ks vs) = 0 := rfl
  rw [e0, hp] at g1
  cases g1
  have hlt := g3.lt
  obtain ⟨es, h1, h2, h3, h4, h5⟩ := g3
  have hi : updPl i id 0 (b, o, c) = i := by
    funext id1 t
    by_cases e : id1 = id ∧ t = 0
    · obtain ⟨rfl, rfl⟩ := e; rw [updPl_same]; exact hp.symm
    · rw [updPl_ne _ _ e]
  have hN : ∀ k, N k → k ≠ b := fun k hk e => g2 (e ▸ hk)
  have l : Le w N i { w with heap := w.heap.setIfInBounds b (.map es' es'.size) } N i := ⟨fun _ h => h, fun k hk => setObj_other (hN k hk), fun _ _ _ h => h⟩
  have := s.replace (w' := { w with heap := w.heap.setIfInBounds b (.map es' es'.size) }) (o' := .map g' ks' vs') (b' := b) (p' := o) (c' := c) (by simp) ho hp (.inr ⟨rfl, rfl⟩) (.inl rfl) (fun k _ hk => setObj_other hk)
    ⟨es', setObj_get hlt, hborn, by rw [show AObj.top (.map g' ks' vs') = 0 from rfl, hi]; exact RepL.mono l _ hk, by rw [show AObj.top (.map g' ks' vs') = 0 from rfl, hi]; exact RepL.mono l _ hv, h5⟩
  rw [show AObj.top (.map g' ks' vs') = 0 from rfl, hi] at this
  exact ⟨this.1, ⟨rfl, rfl, rfl, by simp, fun _ h => h, fun _ _ _ h => h, fun k _ hk => setObj_other (fun e => hk (e ▸ ⟨id, _, o, c, ho, hp⟩)), this.2.1, fun _ h => .inl h, Nat.le_refl _, fun _ t x h => .inl ⟨t, x, h⟩⟩⟩

theorem Sim.mapAt {m : Mem} {w : World} {N : Nat → Prop} {i : Pl} (s : Sim m w N i) {id g : Nat} {ks vs : List AV} {v : Value} (ho : m.h id = some (.map g ks vs)) (hx : Rep w N i (.map id) v) :
    ∃ b o c, ∃ es : Array MapEntry, i id 0 = some (b, o, c) ∧ v = .map (some b) ∧ w.heap[b]? = some (.map es es.size) ∧ (∀ (k : Nat) e, es[k]? = some e → e.born = k) ∧ RepL w N i ks (es.toList.map (·.key)) ∧ RepL w N i vs (es.toList.map (·.val)) := by
  obtain ⟨b, o, c, h1, rfl⟩ := hx
  obtain ⟨b', o', c', g1, g2, es, h4, h5, h6, h7, _⟩ := s.live id _ ho
  have e0 : AObj.top (.map g ks vs) = 0 := rfl
  rw [e0, h1] at g1
  cases g1
  exact ⟨b, o, c, es, h1, rfl, h4, h5, h6, h7⟩

theorem modify_born {es : Array MapEntry} {j : Nat} {f : MapEntry → MapEntry} (hf : ∀ e, (f e).born = e.born) (h : ∀ (k : Nat) e, es[k]? = some e → e.born = k) : ∀ (k : Nat) e, (es.modify j f)[k]? = some e → e.born = k := by
  intro k e he
  rw [Array.getElem?_modify] at he
  split at he
  · rw [Option.map_eq_some_iff] at he
    obtain ⟨e', h1, rfl⟩ := he
    rw [hf]; exact h k e' h1
  · exact h k e he

theorem push_born {es : Array MapEntry} {x : MapEntry} (hx : x.born = es.size) (h : ∀ (k : Nat) e, es[k]? = some e → e.born = k) : ∀ (k : Nat) e, (es.push x)[k]? = some e → e.born = k := by
  intro k e he
  rw [Array.getElem?_push] at he
  split at he
  · cases he; rename_i hk; rw [hk]; exact hx
  · exact h k e he

theorem modify_list {es : Array MapEntry} {j : Nat} {f : MapEntry → MapEntry} : (es.modify j f).toList = es.toList.modify j f := by simp

theorem map_modify {α : Type} (g : MapEntry → α) (f : MapEntry → MapEntry) : ∀ (es : List MapEntry) (j : Nat) (y : α), (∀ e, es[j]? = some e → g (f e) = y) → (es.modify j f).map g = (es.map g).set j y
  | [], j, y, _ => by simp
  | e :: es, 0, y, h => by simp [h e rfl]
  | e :: es, j + 1, y, h => by simpa using map_modify g f es j y (fun e' he => h e' (by simpa using he))

theorem map_modify_same {α : Type} (g : MapEntry → α) (f : MapEntry → MapEntry) (hf : ∀ e, g (f e) = g e) : ∀ (es : List MapEntry) (j : Nat), (es.modify j f).map g = es.map g
  | [], j => by simp
  | e :: es, 0 => by simp [hf]
  | e :: es, j + 1 => by simpa using map_modify_same g f hf es j

theorem modify_size (es : Array MapEntry) (j : Nat) (f : MapEntry → MapEntry) : (es.modify j f).size = es.size := by simp

theorem keyStays {P : Program} {w : World} {k u : Value} (h : Instr.sameBits 10000 k u = true) : (Instr.keyThatStays k u).run P w = .ok u w := by
  simp [Instr.keyThatStays, h]

theorem updA_run {P : Program} {m m' : Mem} {w : World} {N : Nat → Prop} {i : Pl} (hs : Sim m w N i) {t : TypeId} {x k y : AV} {v u z : Value} (hr : updA P m t x k y = some m') (hx : Rep w N i x v) (hk : Rep w N i k u) (hy : Rep w N i y z) :
    ∃ w', (Instr.mapUpdate t v u z).run P w = .ok () w' ∧ Sim m' w' N i ∧ Ext m w N i m' w' N i := by
  unfold updA at hr
  split at hr
  · rename_i kt et hu
    cases hkt : keyT P kt k with
    | false => simp [hkt] at hr
    | true =>
      simp only [hkt, cond_true] at hr
      split at hr
      · rename_i id
        split at hr
        · rename_i g ks vs ho
          simp only [Option.bind_eq_some_iff] at hr
          obtain ⟨⟨a, b⟩, hset, hr⟩ := hr
          cases hr
          obtain ⟨bl, o, c, es, h1, rfl, h2, h3, h4, h5⟩ := hs.mapAt ho hx
          rcases setK_I 0 hset with ⟨g1, g2⟩ | ⟨j, g1, g2, g3, g4⟩
          · cases g2
            obtain ⟨e1, _⟩ := find_run hkt hk g1 h4
            have := hs.setMap (g' := g + 1) (ks' := ks ++ [k]) (vs' := vs ++ [y]) (es' := es.push { key := u, val := z, born := es.size }) ho h1 (push_born rfl h3) (by simpa using h4.append (RepL.cons hk RepL.nil)) (by simpa using h5.append (RepL.cons hy RepL.nil))
            refine ⟨_, ?_, this.1, this.2⟩
            simp [Instr.mapUpdate, run_underlying hu, MapKept.run_getObj_map h2, keyT_run hkt hk, e1, MapKept.run_setObj_map _ h2]
          · cases g4
            rw [Nat.zero_add] at g1
            obtain ⟨e1, e2⟩ := find_run hkt hk g1 h4
            rcases e2 with e2 | ⟨j', e, e2, e3, e4⟩
            · cases e2
            · cases e2
              have hj : es[j]? = some e := by simpa using e3
              have := hs.setMap (g' := g + 1) (ks' := ks.set j k) (vs' := vs.set j y) (es' := es.modify j fun e => { e with key := u, val := z }) ho h1 (modify_born (fun _ => rfl) h3)
                (by rw [modify_list, map_modify (·.key) _ _ _ u (fun _ _ => rfl)]; exact h4.set j hk) (by rw [modify_list, map_modify (·.val) _ _ _ z (fun _ _ => rfl)]; exact h5.set j hy)
              rw [modify_size] at this
              refine ⟨_, ?_, this.1, this.2⟩
              simp [Instr.mapUpdate, run_underlying hu, MapKept.run_getObj_map h2, keyT_run hkt hk, e1, hj, keyStays e4, MapKept.run_setObj_map _ h2]
        · cases hr
      · cases hr
  · cases hr

theorem entryA_run {P : Program} {m m' : Mem} {w : World} {N : Nat → Prop} {i : Pl} (hs : Sim m w N i) {t : TypeId} {x k r : AV} {v u : Value} (hr : entryA P m t x k = some (r, m')) (hx : Rep w N i x v) (hk : Rep w N i k u) :
    ∃ q w', (Instr.mapEntry t v u).run P w = .ok q w' ∧ Sim m' w' N i ∧ Ext m w N i m' w' N i ∧ Rep w' N i r q := by
  unfold entryA at hr
  split at hr
  · rename_i kt et hu
    cases hkt : keyT P kt k with
    | false => simp [hkt] at hr
    | true =>
      simp only [hkt, cond_true, Option.bind_eq_some_iff] at hr
      obtain ⟨z, hz, hr⟩ := hr
      obtain ⟨zv, hzrun, hzc, _⟩ := run_zero hz
      split at hr
      · rename_i id
        split at hr
        · rename_i g ks vs ho
          simp only [Option.bind_eq_some_iff] at hr
          obtain ⟨q, hq, hr⟩ := hr
          obtain ⟨bl, o, c, es, h1, rfl, h2, h3, h4, h5⟩ := hs.mapAt ho hx
          obtain ⟨e1, e2⟩ := find_run hkt hk hq h4
          split at hr
          · rename_i j
            simp only [Option.bind_eq_some_iff] at hr
            obtain ⟨av, hav, hr⟩ := hr
            simp only [Option.some.injEq, Prod.mk.injEq] at hr
            obtain ⟨rfl, rfl⟩ := hr
            rcases e2 with e2 | ⟨j', e, e2, e3, e4⟩
            · cases e2
            · cases e2
              have hj : es[j]? = some e := by simpa using e3
              obtain ⟨uv, huv, hrv⟩ := h5.get hav
              have huv' : e.val = uv := by simpa [hj] using huv
              have := hs.setMap (g' := g + 1) (ks' := ks.set j k) (vs' := vs) (es' := es.modify j fun e => { e with key := u }) ho h1 (modify_born (fun _ => rfl) h3)
                (by rw [modify_list, map_modify (·.key) _ _ _ u (fun _ _ => rfl)]; exact h4.set j hk) (by rw [modify_list, map_modify_same (·.val) (fun e => { e with key := u }) (fun _ => rfl)]; exact h5)
              rw [modify_size] at this
              have hb : e.born = j := h3 j e hj
              refine ⟨.tuple #[uv, goInt j], _, ?_, this.1, this.2, _, rfl, _, _, rfl, Rep.mono (this.2.le hs) _ hrv, _, _, rfl, rfl, rfl⟩
              simp [Instr.mapEntry, run_underlying hu, MapKept.run_getObj_map h2, keyT_run hkt hk, e1, hj, keyStays e4, MapKept.run_setObj_map _ h2, hb, huv']
          · simp only [Option.some.injEq, Prod.mk.injEq] at hr
            obtain ⟨rfl, rfl⟩ := hr
            have hlen : ks.length = es.size := by have := h4.length; simp at this; omega
            have := hs.setMap (g' := g + 1) (ks' := ks ++ [k]) (vs' := vs ++ [z]) (es' := es.push { key := u, val := zv, born := es.size }) ho h1 (push_born rfl h3) (by simpa using h4.append (RepL.cons hk RepL.nil)) (by simpa using h5.append (RepL.cons (Rep_ofConst hzc) RepL.nil))
            refine ⟨.tuple #[zv, goInt es.size], _, ?_, this.1, this.2, _, rfl, _, _, rfl, Rep_ofConst hzc, _, _, rfl, by rw [hlen]; rfl, rfl⟩
            simp [Instr.mapEntry, run_underlying hu, MapKept.run_getObj_map h2, keyT_run hkt hk, e1, hzrun, MapKept.run_setObj_map _ h2]
        · cases hr
      · cases hr
  · cases hr

theorem entryStA_run {P : Program} {m m' : Mem} {w : World} {N : Nat → Prop} {i : Pl} (hs : Sim m w N i) {t : TypeId} {x k y : AV} {v u z : Value} (hr : entryStA m x k y = some m') (hx : Rep w N i x v) (hk : Rep w N i k u) (hy : Rep w N i y z) :
    ∃ w', (Instr.entryStore t v u z).run P w = .ok () w' ∧ Sim m' w' N i ∧ Ext m w N i m' w' N i := by
  unfold entryStA at hr
  split at hr
  · rename_i id kd j
    split at hr
    · rename_i g ks vs ho
      cases hc : inR j vs.length with
      | false => simp [hc] at hr
      | true =>
        simp only [hc, cond_true, Option.some.injEq] at hr
        subst hr
        rw [inR_iff] at hc
        obtain ⟨bl, o, c, es, h1, rfl, h2, h3, h4, h5⟩ := hs.mapAt ho hx
        cases hk
        have hlen : vs.length = es.size := by have := h5.length; simp at this; omega
        have hfi : es.findIdx? (fun e => (e.born : Int) == j) = some j.toNat := by
          rw [Array.findIdx?_eq_some_iff_getElem]
          have hlt : j.toNat < es.size := by omega
          refine ⟨hlt, ?_, ?_⟩
          · have := h3 j.toNat _ (Array.getElem?_eq_getElem hlt)
            simp [this]; omega
          · intro q hq
            have := h3 q _ (Array.getElem?_eq_getElem (by omega))
            simp [this]; omega
        have := hs.setMap (g' := g + 1) (ks' := ks) (vs' := vs.set j.toNat y) (es' := es.modify j.toNat fun e => { e with val := z }) ho h1 (modify_born (fun _ => rfl) h3)
          (by rw [modify_list, map_modify_same (·.key) (fun e => { e with val := z }) (fun _ => rfl)]; exact h4) (by rw [modify_list, map_modify (·.val) _ _ _ z (fun _ _ => rfl)]; exact h5.set _ hy)
        rw [modify_size] at this
        refine ⟨_, ?_, this.1, this.2⟩
        simp [Instr.entryStore, MapKept.run_getObj_map h2, asInt, asIntOf, hfi, MapKept.run_setObj_map _ h2]
    · cases hr
  · cases hr

/-- EVERY OPERATION THAT ONLY READS. -/
theorem readA_run {P : Program} {w : World} {N : Nat → Prop} {i : Pl} {s : St} {a : Act} (hs : Sim s.m w N i) (ha : StSim w N i s a) {o : Oper} {pv : AV} (hr : readA P s o.op = some pv) : ∃ v, (execOp a.eval o).run P w = .ok (.value v) w ∧ Rep w N i pv v := by
  obtain ⟨dst, op, type, pos, after, guard⟩ := o
  simp only at hr
  unfold readA at hr
  split at hr
  · rename_i t x
    simp only [Option.bind_eq_some_iff] at hr
    obtain ⟨g, hg, n, hn, hr⟩ := hr
    obtain ⟨b, off, z, h0, h1, h2⟩ := loadA_run (P := P) hs hg hn hr (ha.ev x)
    exact ⟨z, by simp [execOp, h0, Instr.loadAt, Instr.sureAddr, h1], h2⟩
  · rename_i t x k ok
    obtain ⟨z, h1, h2⟩ := lookupA_run (P := P) hs hr (ha.ev x) (ha.ev k)
    exact ⟨z, by simp [execOp, h1], h2⟩
  · rename_i src dst x
    obtain ⟨z, h1, h2⟩ := convA_run (P := P) hs hr (ha.ev x)
    exact ⟨z, by simp [execOp, h1], h2⟩
  · rename_i x
    unfold curA at hr
    split at hr
    · split at hr
      · rename_i id mp g k v _ _ ho
        obtain ⟨_, _, _, _, _, hf⟩ := hs.live _ _ ho
        exact hf.elim
      · cases hr
    · cases hr
  · cases hr

/-- EVERY OPERATION THAT MAKES OR WRITES MEMORY. -/
theorem memA_run {P : Program} {w : World} {N : Nat → Prop} {i : Pl} {s : St} {a : Act} (hs : Sim s.m w N i) (hf : ∀ t, i s.m.nx t = none) (ha : StSim w N i s a) {o : Oper} {pv : AV} {m' : Mem} (hr : memA P s o.op = some (pv, m')) :
    ∃ n v w' i', (execOp a.eval o).run P w = .ok n w' ∧ (n = .value v ∨ (n = .skip ∧ v = undef)) ∧ Sim m' w' N i' ∧ Ext s.m w N i m' w' N i' ∧ Rep w' N i' pv v := by
  obtain ⟨dst, op, type, pos, after, guard⟩ := o
  simp only at hr
  unfold memA at hr
  split at hr
  · rename_i t
    simp only [Option.bind_eq_some_iff] at hr
    obtain ⟨z, hz, hr⟩ := hr
    obtain ⟨zv, hzrun, hzc, _⟩ := run_zero hz
    obtain ⟨i', h1, h2, h3⟩ := newPtr_run (e := t) hs hf hr (ofConst_agg (w := w) (N := N) (i := i) hzc)
    exact ⟨_, _, _, i', by simp [execOp, Instr.alloc, hzrun, newVar, newRow], .inl rfl, h1, h2, h3⟩
  · rename_i e x
    have hone : oneL (s.ev x).cells = true := by
      unfold newPtr at hr
      cases h : oneL (s.ev x).cells with
      | true => rfl
      | false => simp [h] at hr
    obtain ⟨h0, _⟩ := Rep.cells hone (ha.ev x)
    obtain ⟨i', h1, h2, h3⟩ := newPtr_run (e := e) hs hf hr h0
    exact ⟨_, _, _, i', by simp [execOp, Instr.box, newVar, newRow], .inl rfl, h1, h2, h3⟩
  · rename_i t n parts
    simp only [Option.bind_eq_some_iff] at hr
    obtain ⟨⟨es, cs⟩, hb, hr⟩ := hr
    simp only [Option.some.injEq, Prod.mk.injEq] at hr
    obtain ⟨rfl, rfl⟩ := hr
    obtain ⟨p1, p2⟩ := parts_rep ha parts
    obtain ⟨us, e, h1, h2, h3, h4⟩ := buildSl_run (P := P) hb p1 p2
    obtain ⟨i', k1, k2, k3⟩ := hs.make' hf (elem := e) h2 h3
    have hlen := h2.length
    simp only [Array.length_toList] at hlen h4
    have hcl : cs.length = n * es := by omega
    exact ⟨_, _, _, i', by simp [execOp, h1], .inl rfl, k1, k2, w.heap.size, 0, _, 0, n, k3, rfl, fun _ => rfl, Nat.le_refl _, by simp only [hcl]; omega⟩
  · rename_i t x y
    simp only [Option.bind_eq_some_iff, Option.map_eq_some_iff] at hr
    obtain ⟨g, hg, n, hn, m1, hr, h⟩ := hr
    cases h
    obtain ⟨b, off, w', i', h0, _, h1, h2, h3⟩ := storeA_run (P := P) hs hn hr (ha.ev x) (ha.ev y)
    exact ⟨.skip, undef, w', i', by simp [execOp, h0, Instr.storeAt, Instr.sureAddr, h1], .inr ⟨rfl, rfl⟩, h2, h3, #[], rfl, rfl⟩
  · rename_i t l c
    split at hr
    · rename_i e hu
      simp only [Option.bind_eq_some_iff] at hr
      obtain ⟨n, hn, b, hb, z, hz, hr⟩ := hr
      obtain ⟨q, w', i', h1, h2, h3, h4⟩ := makeA_run (P := P) hs hf hu hn hb hz hr (ha.ev l) (ha.ev c)
      exact ⟨_, q, w', i', by simp [execOp, h1], .inl rfl, h2, h3, h4⟩
    · cases hr
  · rename_i t
    simp only [Option.some.injEq, Prod.mk.injEq] at hr
    obtain ⟨rfl, rfl⟩ := hr
    have hNn : ¬ N w.heap.size := fun h => by have := hs.nlt _ h; omega
    have hnl : ¬ Live s.m i w.heap.size := fun h => by have := (hs.liveN h).2; omega
    have hi : ∀ id t x, i id t = some x → updPl i s.m.nx 0 (w.heap.size, 0, 0) id t = some x := fun id t x h => by
      rw [updPl_ne _ _ (fun hh => by rw [hh.1, hf] at h; cases h)]; exact h
    have hsim := hs.new hf (w' := w.alloc (.map #[] 0)) (o := .map 0 [] []) (b := w.heap.size) (p := 0) (c := 0) (by simp) (fun k hk => alloc_get w _ k (by
      rcases hk with h | h
      · exact hs.nlt k h
      · exact (hs.liveN h).2)) hNn hnl ⟨#[], alloc_new w _, fun k e h => by simp at h, rfl, rfl, Nat.le_refl _⟩
    refine ⟨_, .map (some w.heap.size), w.alloc (.map #[] 0), _, by simp [execOp, Instr.makeMap], .inl rfl, hsim, ⟨rfl, rfl, rfl, by simp, fun _ h => h, hi, fun k hk _ => alloc_get w _ k hk, fun k hk => ?_, fun _ h => .inl h, Nat.le_succ _, pl_new⟩, w.heap.size, 0, 0, updPl_same .., rfl⟩
    rcases livenew hk with h | h
    · exact .inl h
    · exact .inr (by omega)
  · rename_i t x k y
    simp only [Option.map_eq_some_iff] at hr
    obtain ⟨m1, hr, h⟩ := hr
    cases h
    obtain ⟨w', h1, h2, h3⟩ := updA_run (P := P) hs hr (ha.ev x) (ha.ev k) (ha.ev y)
    exact ⟨.skip, undef, w', i, by simp [execOp, h1], .inr ⟨rfl, rfl⟩, h2, h3, #[], rfl, rfl⟩
  · rename_i t x k y
    simp only [Option.map_eq_some_iff] at hr
    obtain ⟨m1, hr, h⟩ := hr
    cases h
    obtain ⟨w', h1, h2, h3⟩ := updA_run (P := P) hs hr (ha.ev x) (ha.ev k) (ha.ev y)
    exact ⟨.skip, undef, w', i, by simp [execOp, h1], .inr ⟨rfl, rfl⟩, h2, h3, #[], rfl, rfl⟩
  · rename_i t x k
    obtain ⟨q, w', h1, h2, h3, h4⟩ := entryA_run (P := P) hs hr (ha.ev x) (ha.ev k)
    exact ⟨_, q, w', i, by simp [execOp, h1], .inl rfl, h2, h3, h4⟩
  · rename_i t x st y
    simp only [Option.map_eq_some_iff] at hr
    obtain ⟨m1, hr, h⟩ := hr
    cases h
    obtain ⟨w', h1, h2, h3⟩ := entryStA_run (P := P) (t := t) hs hr (ha.ev x) (ha.ev st) (ha.ev y)
    exact ⟨.skip, undef, w', i, by simp [execOp, h1], .inr ⟨rfl, rfl⟩, h2, h3, #[], rfl, rfl⟩
  · rename_i c
    obtain ⟨callee, args, argTypes⟩ := c
    unfold memCall at hr
    simp only at hr
    split at hr
    · split at hr
      · rename_i x y t u hx' ht'
        obtain rfl : args = #[x, y] := by cases args; simpa using hx'
        obtain rfl : argTypes = #[t, u] := by cases argTypes; simpa using ht'
        split at hr
        · rename_i e hu
          simp only [Option.bind_eq_some_iff] at hr
          obtain ⟨n, hn, b, hb, z, hz, hr⟩ := hr
          cases hzl : z.cells.length == n with
          | false => simp [hzl] at hr
          | true =>
            simp only [hzl, cond_true] at hr
            have hk : ((∃ e', P.underlying u = some (.slice e')) ∨ P.underlying u = some .string) ∧ appendA n b s.m (s.ev x) (s.ev y) = some (pv, m') := by
              split at hr
              · exact ⟨.inl ⟨_, by assumption⟩, hr⟩
              · exact ⟨.inr (by assumption), hr⟩
              · cases hr
            obtain ⟨q, w', i', h1, h2, h3, h4⟩ := appendA_run (P := P) (ty := type) hs hf hu hk.1 hn hb hz (by simpa using hzl) hk.2 (ha.ev x) (ha.ev y)
            exact ⟨_, q, w', i', by simp [execOp, resolve, invoke, builtin, h1], .inl rfl, h2, h3, h4⟩
        · cases hr
      · cases hr
    · split at hr
      · rename_i x y t u hx' ht'
        obtain rfl : args = #[x, y] := by cases args; simpa using hx'
        obtain rfl : argTypes = #[t, u] := by cases argTypes; simpa using ht'
        split at hr
        · rename_i e e2 hu hu2
          simp only [Option.bind_eq_some_iff] at hr
          obtain ⟨n, hn, hr⟩ := hr
          obtain ⟨q, w', i', h1, h2, h3, h4⟩ := copyA_run (P := P) (ty := type) (tx := u) hs hu hn hr (ha.ev x) (ha.ev y)
          exact ⟨_, q, w', i', by simp [execOp, resolve, invoke, builtin, h1], .inl rfl, h2, h3, h4⟩
        · cases hr
      · cases hr
    · cases hr
  · cases hr
end Go.AM
