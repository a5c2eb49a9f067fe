/-
  THE ABSTRACT MACHINE: what one operation looks at, and what it leaves alone. Conditions: none.
-/
import Derived.Test.YtdkmepjedjclkaaAmMain
namespace Go.AM

/-! ### Operands -/
theorem pureA_congr {P : Program} {md : Nat} {s t : St} {op : Op} (h : ∀ x ∈ op.operands, s.ev x = t.ev x) : pureA P md s op = pureA P md t op := by
  have pairs : ∀ ps : Array (Nat × Operand), (∀ x ∈ (ps.toList.map (·.2)).toArray, s.ev x = t.ev x) → (ps.toList.map fun p => (p.1, s.ev p.2)) = (ps.toList.map fun p => (p.1, t.ev p.2)) := fun ps hp =>
    List.map_congr_left fun p hm => by rw [hp p.2 (by simp; exact ⟨p.1, by simpa using hm⟩)]
  have evO : ∀ x : Option Operand, (∀ y ∈ x.toArray, s.ev y = t.ev y) → s.evO x = t.evO x := by
    intro x hx
    cases x with
    | none => rfl
    | some y => simp only [St.evO]; rw [hx y (by simp)]
  cases op <;> simp only [Op.operands] at h <;> simp only [pureA]
  case build ty ps => rw [pairs ps h]
  case buildSlice ty n ps => rw [pairs ps h]
  case makeFunc fn first caps =>
    cases fn <;> simp only [pureA]
    rw [List.map_congr_left (l := first.toList) (f := s.ev) (g := t.ev) fun x hx => h x (by simp at hx; simp [hx]), List.map_congr_left (l := caps.toList) (f := s.ev) (g := t.ev) fun x hx => h x (by simp at hx; simp [hx])]
  case slice ty x lo hi mx =>
    cases mx with
    | some _ => rfl
    | none =>
      simp only [pureA]
      rw [h x (by simp), evO lo (fun y hy => h y (by simp at hy ⊢; simp [hy])), evO hi (fun y hy => h y (by simp at hy ⊢; simp [hy]))]
  case call c =>
    obtain ⟨callee, args, ats⟩ := c
    have ha : args.toList.map s.ev = args.toList.map t.ev := List.map_congr_left fun x hx => h x (by simp at hx; simp [Call.operands, hx])
    have h1 : ∀ x l, args.toList = x :: l → s.ev x = t.ev x ∧ l.map s.ev = l.map t.ev := by
      intro x l e
      rw [e] at ha
      simpa using ha
    simp only [ha]
    congr 1
    unfold pureCall
    simp only
    split
    · split
      · rename_i x ty e _
        rw [(h1 x [] e).1]
      · rfl
    · split
      · rename_i x l e
        rw [(h1 x l e).1, (h1 x l e).2]
      · rfl
    · split
      · rename_i x l e
        rw [(h1 x l e).1, (h1 x l e).2]
      · rfl
    · rfl
  all_goals (first | rfl | (simp_all; done))

theorem readA_congr {P : Program} {s t : St} {op : Op} (hm : s.m = t.m) (h : ∀ x ∈ op.operands, s.ev x = t.ev x) : readA P s op = readA P t op := by
  cases op <;> simp only [Op.operands] at h <;> simp only [readA] <;> (first | rfl | (simp_all; done))

theorem memA_congr {P : Program} {s t : St} {op : Op} (hm : s.m = t.m) (h : ∀ x ∈ op.operands, s.ev x = t.ev x) : memA P s op = memA P t op := by
  have pairs : ∀ ps : Array (Nat × Operand), (∀ x ∈ (ps.toList.map (·.2)).toArray, s.ev x = t.ev x) → (ps.toList.map fun p => (p.1, s.ev p.2)) = (ps.toList.map fun p => (p.1, t.ev p.2)) := fun ps hp =>
    List.map_congr_left fun p hm => by rw [hp p.2 (by simp; exact ⟨p.1, by simpa using hm⟩)]
  cases op <;> simp only [Op.operands] at h
  case makeMap ty r => cases r <;> simp only [memA, hm]
  all_goals simp only [memA]
  case buildSlice ty n ps => rw [pairs ps h, hm]
  case call c =>
    obtain ⟨callee, args, ats⟩ := c
    have ha : args.toList.map s.ev = args.toList.map t.ev := List.map_congr_left fun x hx => h x (by simp at hx; simp [Call.operands, hx])
    have h1 : ∀ x y, args.toList = [x, y] → s.ev x = t.ev x ∧ s.ev y = t.ev y := by
      intro x y e
      rw [e] at ha
      simpa using ha
    unfold memCall
    simp only
    split
    · split
      · rename_i x y _ _ e _
        rw [(h1 x y e).1, (h1 x y e).2, hm]
      · rfl
    · split
      · rename_i x y _ _ e _
        rw [(h1 x y e).1, (h1 x y e).2, hm]
      · rfl
    · rfl
  all_goals (first | rfl | (simp_all; done))

/-! ### An object that nobody knows -/
def Mem.fr (m : Mem) (k : Nat) (X : Option AObj) : Mem := ⟨upd m.h k X, m.nx⟩

def AV.ne (k : Nat) : AV → Prop
  | .ptr id _ _ => id ≠ k
  | .sl id _ _ _ _ => id ≠ k
  | .map id => id ≠ k
  | .iter id => id ≠ k
  | _ => True

theorem Rep.ne {w : World} {N : Nat → Prop} {i : Pl} {a : AV} {v : Value} {k : Nat} (hk : ∀ t, i k t = none) (h : Rep w N i a v) : a.ne k := by
  have no : ∀ {id t b o c}, i id t = some (b, o, c) → id ≠ k := fun {id t b o c} h e => by rw [e, hk] at h; cases h
  cases a <;> first
    | exact trivial
    | (obtain ⟨b, o, c, h1, _⟩ := h; exact no h1)
    | (obtain ⟨b, o, c, off', cap, h1, _⟩ := h; exact no h1)

theorem upd_swap (h : Nat → Option AObj) {j k : Nat} (a b : Option AObj) (hne : j ≠ k) : upd (upd h j a) k b = upd (upd h k b) j a := by
  funext x
  by_cases e1 : x = j
  · subst e1; rw [upd_ne _ _ hne, upd_same, upd_same]
  · by_cases e2 : x = k
    · subst e2; rw [upd_same, upd_ne _ _ e1, upd_same]
    · rw [upd_ne _ _ e2, upd_ne _ _ e1, upd_ne _ _ e1, upd_ne _ _ e2]

theorem upd_upd (h : Nat → Option AObj) (k : Nat) (a b : Option AObj) : upd (upd h k a) k b = upd h k b := by
  funext x
  by_cases e : x = k
  · subst e; rw [upd_same, upd_same]
  · rw [upd_ne _ _ e, upd_ne _ _ e, upd_ne _ _ e]

theorem map_bif {α β : Type} (f : α → β) (b : Bool) (x : Option α) : (bif b then x else none).map f = bif b then x.map f else none := by cases b <;> rfl

section
variable {m : Mem} {k : Nat} {X : Option AObj}
theorem fr_h {id : Nat} (h : id ≠ k) : (m.fr k X).h id = m.h id := upd_ne _ _ h
theorem fr_set {id : Nat} (o : Option AObj) (h : id ≠ k) : (m.fr k X).set id o = (m.set id o).fr k X := by
  simp only [Mem.fr, Mem.set, upd_swap _ _ _ h]
theorem fr_new (o : AObj) (h : m.nx ≠ k) : (m.fr k X).new o = (m.new o).fr k X := by
  simp only [Mem.fr, Mem.new, upd_swap _ _ _ h]

theorem readN_fr {n : Nat} {a : AV} (ha : a.ne k) : readN (m.fr k X) n a = readN m n a := by
  cases a <;> simp only [readN]
  rw [fr_h ha]
theorem read1_fr {a : AV} (ha : a.ne k) : read1 (m.fr k X) a = read1 m a := by
  cases a <;> simp only [read1]
  rw [fr_h ha]
theorem loadA_fr {g : Bool} {n : Nat} {a : AV} (ha : a.ne k) : loadA g n (m.fr k X) a = loadA g n m a := by
  cases g <;> simp only [loadA, readN_fr ha, read1_fr ha]
theorem writeN_fr {cs : List AV} {a : AV} (ha : a.ne k) : writeN (m.fr k X) cs a = (writeN m cs a).map (·.fr k X) := by
  cases a <;> simp only [writeN, Option.map_none]
  rw [fr_h ha]
  split
  · simp only [map_bif, fr_set _ ha, Option.map_some]
  · rfl
theorem write1_fr {c a : AV} (ha : a.ne k) : write1 (m.fr k X) c a = (write1 m c a).map (·.fr k X) := by
  cases a <;> simp only [write1, Option.map_none]
  rw [fr_h ha]
  split
  · rename_i off top _ xs _
    cases (xs.length == top && (Nat.blt off top && c.one)) <;> simp [fr_set _ ha]
  · rfl
theorem storeA_fr {g : Bool} {n : Nat} {a v : AV} (ha : a.ne k) : storeA g n (m.fr k X) a v = (storeA g n m a v).map (·.fr k X) := by
  cases g <;> simp only [storeA, cond_true, cond_false]
  · cases n == 1 <;> simp [write1_fr ha]
  · split
    · rename_i cs
      cases cs.length == n <;> simp [writeN_fr ha]
    · rfl
theorem srcA_fr {size : Nat} {a : AV} (ha : a.ne k) : srcA (m.fr k X) size a = srcA m size a := by
  cases a <;> simp only [srcA]
  rw [fr_h ha]
theorem lookA_fr {P : Program} {t : TypeId} {a x : AV} (ha : a.ne k) : lookA P (m.fr k X) t a x = lookA P m t a x := by
  cases a <;> simp only [lookA]
  rw [fr_h ha]
theorem lookupA_fr {P : Program} {t : TypeId} {a x : AV} {ok : Bool} (ha : a.ne k) : lookupA P (m.fr k X) t a x ok = lookupA P m t a x ok := by
  simp only [lookupA, lookA_fr ha]
theorem convA_fr {P : Program} {s d : TypeId} {a : AV} (ha : a.ne k) : convA P (m.fr k X) s d a = convA P m s d a := by
  unfold convA
  split <;> first
    | rfl
    | (simp only [srcA_fr ha]; done)
    | (split <;> first | rfl | (simp only [srcA_fr ha]; done))
theorem updA_fr {P : Program} {t : TypeId} {a x v : AV} (ha : a.ne k) : updA P (m.fr k X) t a x v = (updA P m t a x v).map (·.fr k X) := by
  unfold updA
  split
  · rename_i kt et _
    cases keyT P kt x
    · rfl
    · simp only [cond_true]
      split
      · rename_i id
        rw [fr_h ha]
        split
        · rename_i g ks vs _
          cases setK P kt x v ks vs with
          | none => rfl
          | some r => simp [fr_set _ ha]
        · rfl
      · rfl
  · rfl
theorem entryA_fr {P : Program} {t : TypeId} {a x : AV} (ha : a.ne k) : entryA P (m.fr k X) t a x = (entryA P m t a x).map fun r => (r.1, r.2.fr k X) := by
  unfold entryA
  split
  · rename_i kt et _
    cases keyT P kt x
    · rfl
    · simp only [cond_true]
      cases zeroT P et with
      | none => rfl
      | some z =>
        simp only [Option.bind_some]
        split
        · rename_i id
          rw [fr_h ha]
          split
          · rename_i g ks vs _
            cases findI P kt x ks 0 with
            | none => rfl
            | some r =>
              cases r with
              | none => simp [fr_set _ ha]
              | some j =>
                simp only [Option.bind_some]
                cases vs[j]? <;> simp [fr_set _ ha]
          · rfl
        · rfl
  · rfl
theorem entryStA_fr {a st v : AV} (ha : a.ne k) : entryStA (m.fr k X) a st v = (entryStA m a st v).map (·.fr k X) := by
  unfold entryStA
  split
  · rename_i id _ j
    rw [fr_h ha]
    split
    · rename_i g ks vs _
      cases inR j vs.length <;> simp [fr_set _ ha]
    · rfl
  · rfl
theorem appendA_fr {size bytes : Nat} {a x : AV} (ha : a.ne k) (hx : x.ne k) (hn : m.nx ≠ k) : appendA size bytes (m.fr k X) a x = (appendA size bytes m a x).map fun r => (r.1, r.2.fr k X) := by
  have e0 : (m.fr k X).nx = m.nx := rfl
  unfold appendA
  rw [srcA_fr hx, e0]
  cases size == 0
  · simp only [cond_false]
    cases srcA m size x with
    | none => rfl
    | some q =>
      obtain ⟨n, news⟩ := q
      simp only [Option.bind_some]
      split
      · cases n == 0 <;> simp
        cases room n bytes <;> simp [fr_new _ hn]
      · rename_i n0 cells
        cases n == 0 <;> simp
        cases (room (n0 + n) bytes && cells.length == n0 * size) <;> simp [fr_new _ hn]
      · rename_i id es off n0 top
        rw [fr_h ha]
        split
        · rename_i xs _
          cases (xs.length == top && (es == size && off + n0 * size == top))
          · rfl
          · cases n == 0
            · cases room (n0 + n) bytes
              · rfl
              · cases off == 0
                · have : ((m.set id none).nx) ≠ k := hn
                  simp [fr_set _ ha, fr_new _ this]
                · simp [fr_set _ ha]
            · rfl
        · rfl
      · rfl
  · rfl
theorem copyA_fr {size : Nat} {a x : AV} (ha : a.ne k) (hx : x.ne k) : copyA size (m.fr k X) a x = (copyA size m a x).map fun r => (r.1, r.2.fr k X) := by
  unfold copyA
  rw [srcA_fr hx]
  cases (size == 1 && !x.isStr)
  · rfl
  · simp only [cond_true]
    cases srcA m size x with
    | none => rfl
    | some q =>
      obtain ⟨n, news⟩ := q
      simp only [Option.bind_some]
      split
      · rfl
      · rename_i id es off n0 top
        rw [fr_h ha]
        split
        · rename_i xs _
          cases (xs.length == top && (es == size && Nat.ble (off + n0 * size) top)) <;> simp [fr_set _ ha]
        · rfl
      · rfl
end

theorem memA_fr {P : Program} {md : Nat} {s : St} {op : Op} {k : Nat} {X : Option AObj} (hc : classOf md op = 2) (hv : ∀ x ∈ op.operands, (s.ev x).ne k) (hn : s.m.nx ≠ k) :
    memA P (s.mem (s.m.fr k X)) op = (memA P s op).map fun r => (r.1, r.2.fr k X) := by
  have hev : ∀ x, (s.mem (s.m.fr k X)).ev x = s.ev x := fun x => by cases x <;> rfl
  have hm : (s.mem (s.m.fr k X)).m = s.m.fr k X := rfl
  have map2 : ∀ (q : Option Mem), (q.map (·.fr k X)).map (fun m => ((.tup [] : AV), m)) = (q.map fun m => ((.tup [] : AV), m)).map fun r => (r.1, r.2.fr k X) := fun q => by cases q <;> rfl
  cases op <;> simp only [classOf] at hc <;> try (cases hc; done)
  case box => cases hmd : md == 1 <;> simp [hmd] at hc
  case buildSlice => cases hmd : md == 1 <;> simp [hmd] at hc
  case load => cases hmd : md == 1 <;> simp [hmd] at hc
  case store t a v =>
    have ha := hv a (by simp [Op.operands])
    simp only [memA, hev, hm]
    cases aggT P t with
    | none => rfl
    | some g =>
      cases sizeT P t with
      | none => rfl
      | some n =>
        simp only [Option.bind_some, storeA_fr ha]
        exact map2 _
  case mapUpdate t x q v =>
    have ha := hv x (by simp [Op.operands])
    simp only [memA, hev, hm, updA_fr ha]
    exact map2 _
  case insert t x q v =>
    have ha := hv x (by simp [Op.operands])
    simp only [memA, hev, hm, updA_fr ha]
    exact map2 _
  case mapEntry t x q =>
    have ha := hv x (by simp [Op.operands])
    simp only [memA, hev, hm, entryA_fr ha]
  case entryStore t x st v =>
    have ha := hv x (by simp [Op.operands])
    simp only [memA, hev, hm, entryStA_fr ha]
    exact map2 _
  case range => rfl
  case next _ y => cases y <;> cases hc
  case call c =>
    obtain ⟨callee, args, ats⟩ := c
    simp only [memA, memCall, hev, hm]
    split
    · split
      · rename_i x y t u hx ht
        have h1 := hv x (by have : x ∈ args.toList := by rw [hx]; simp
                            simp [Op.operands, Call.operands]; simpa using this)
        have h2 := hv y (by have : y ∈ args.toList := by rw [hx]; simp
                            simp [Op.operands, Call.operands]; simpa using this)
        split
        · rename_i e _
          cases sizeT P e with
          | none => rfl
          | some n =>
            cases bytesT P e with
            | none => rfl
            | some by' =>
              cases zeroT P e with
              | none => rfl
              | some z =>
                simp only [Option.bind_some, map_bif]
                congr 1
                split
                · exact appendA_fr h1 h2 hn
                · exact appendA_fr h1 h2 hn
                · rfl
        · rfl
      · rfl
    · split
      · rename_i x y t u hx ht
        have h1 := hv x (by have : x ∈ args.toList := by rw [hx]; simp
                            simp [Op.operands, Call.operands]; simpa using this)
        have h2 := hv y (by have : y ∈ args.toList := by rw [hx]; simp
                            simp [Op.operands, Call.operands]; simpa using this)
        split
        · rename_i e _ _ _
          cases sizeT P e with
          | none => rfl
          | some n =>
            simp only [Option.bind_some]
            exact copyA_fr h1 h2
        · rfl
      · rfl
    · rfl

/-! ### An object is made -/
theorem frzV_new {m : Mem} {ob : AObj} {n : Nat} {v : AV} (hv : v = .ptr n 0 ob.top ∨ (∃ es l, v = .sl n es 0 l ob.top) ∨ v = .map n) (hn : n = m.nx) {v' : AV} {m' : Mem} (h : frzV v (m.new ob) = some (v', m')) :
    ∃ X, m' = ⟨upd m.h m.nx X, m.nx + 1⟩ ∧ ∀ m2 : Mem, m2.nx = m.nx → frzV v (m2.new ob) = some (v', ⟨upd m2.h m2.nx X, m2.nx + 1⟩) := by
  subst hn
  have hget : ∀ m2 : Mem, m2.nx = m.nx → (m2.new ob).h m.nx = some ob := fun m2 e => by rw [← e]; exact upd_same _ _ _
  have hset : ∀ m2 : Mem, m2.nx = m.nx → (m2.new ob).set m.nx none = ⟨upd m2.h m2.nx none, m2.nx + 1⟩ := fun m2 e => by
    rw [← e]; simp only [Mem.set, Mem.new, upd_upd]
  rcases hv with rfl | ⟨es, l, rfl⟩ | rfl
  · simp only [frzV, hget m rfl] at h
    cases ob with
    | cells xs =>
      simp only at h
      cases hc : (xs.length == (AObj.cells xs).top) with
      | false => simp [hc] at h
      | true =>
        simp only [hc, cond_true, Option.some.injEq, Prod.mk.injEq] at h
        obtain ⟨rfl, rfl⟩ := h
        exact ⟨none, hset m rfl, fun m2 e => by simp only [frzV, hget m2 e, hc, cond_true, hset m2 e]⟩
    | map => cases h
    | iter => cases h
  · simp only [frzV, hget m rfl] at h
    cases ob with
    | cells xs =>
      simp only at h
      cases hc : (xs.length == (AObj.cells xs).top && (closedL xs && Nat.ble (0 + l * es) (AObj.cells xs).top)) with
      | false => rw [hc] at h; cases h
      | true =>
        rw [hc] at h
        simp only [cond_true, Option.some.injEq, Prod.mk.injEq] at h
        obtain ⟨rfl, rfl⟩ := h
        exact ⟨none, hset m rfl, fun m2 e => by simp only [frzV, hget m2 e, hc, cond_true, hset m2 e]⟩
    | map => cases h
    | iter => cases h
  · simp only [frzV, Option.some.injEq, Prod.mk.injEq] at h
    obtain ⟨rfl, rfl⟩ := h
    exact ⟨some ob, rfl, fun m2 _ => rfl⟩

theorem memA_new {P : Program} {md : Nat} {s : St} {op : Op} {v : AV} {m' : Mem} (hc : classOf md op = 6) (h : memA P s op = some (v, m')) :
    ∃ ob, m' = s.m.new ob ∧ (v = .ptr s.m.nx 0 ob.top ∨ (∃ es l, v = .sl s.m.nx es 0 l ob.top) ∨ v = .map s.m.nx) ∧ ∀ t : St, t.m.nx = s.m.nx → (∀ x ∈ op.operands, s.ev x = t.ev x) → memA P t op = some (v, t.m.new ob) := by
  have hp : ∀ cs, newPtr s.m cs = some (v, m') → ∃ ob, m' = s.m.new ob ∧ (v = .ptr s.m.nx 0 ob.top ∨ (∃ es l, v = .sl s.m.nx es 0 l ob.top) ∨ v = .map s.m.nx) ∧ ∀ m2 : Mem, m2.nx = s.m.nx → newPtr m2 cs = some (v, m2.new ob) := by
    intro cs h
    unfold newPtr at h
    cases ho : oneL cs with
    | false => simp [ho] at h
    | true =>
      simp only [ho, cond_true, Option.some.injEq, Prod.mk.injEq] at h
      obtain ⟨rfl, rfl⟩ := h
      exact ⟨.cells cs, rfl, .inl rfl, fun m2 e => by simp [newPtr, ho, e]⟩
  cases op <;> simp only [classOf] at hc <;> try (cases hc; done)
  case load => cases hmd : md == 1 <;> simp [hmd] at hc
  case next _ y => cases y <;> cases hc
  case call c =>
    cases hm : (md == 3) with
    | true => simp [hm] at hc
    | false => simp only [hm, cond_false] at hc; unfold callClass at hc; split at hc <;> cases hc
  case alloc t =>
    simp only [memA, Option.bind_eq_some_iff] at h
    obtain ⟨z, hz, h⟩ := h
    obtain ⟨ob, h1, h2, h3⟩ := hp _ h
    exact ⟨ob, h1, h2, fun t e _ => by simp only [memA, hz, Option.bind_some, h3 _ e]⟩
  case box e x =>
    simp only [memA] at h
    obtain ⟨ob, h1, h2, h3⟩ := hp _ h
    exact ⟨ob, h1, h2, fun t e he => by simp only [memA, ← he x (by simp [Op.operands]), h3 _ e]⟩
  case buildSlice ty n ps =>
    simp only [memA, Option.bind_eq_some_iff] at h
    obtain ⟨⟨es, cs⟩, hb, h⟩ := h
    simp only [Option.some.injEq, Prod.mk.injEq] at h
    obtain ⟨rfl, rfl⟩ := h
    refine ⟨.cells cs, rfl, .inr (.inl ⟨es, n, rfl⟩), fun t e he => ?_⟩
    have pairs : (ps.toList.map fun p => (p.1, s.ev p.2)) = (ps.toList.map fun p => (p.1, t.ev p.2)) :=
      List.map_congr_left fun p hm => by rw [he p.2 (by simp [Op.operands]; exact ⟨p.1, by simpa using hm⟩)]
    simp only [memA, ← pairs, hb, Option.bind_some, e]
  case makeSlice t l c =>
    simp only [memA] at h
    split at h
    · rename_i e hu
      simp only [Option.bind_eq_some_iff] at h
      obtain ⟨n, hn, b, hb, z, hz, h⟩ := h
      have hm : ∃ ob, m' = s.m.new ob ∧ (v = .ptr s.m.nx 0 ob.top ∨ (∃ es l, v = .sl s.m.nx es 0 l ob.top) ∨ v = .map s.m.nx) ∧ ∀ m2 : Mem, m2.nx = s.m.nx → makeA n b z m2 (s.ev l) (s.ev c) = some (v, m2.new ob) := by
        unfold makeA at h
        split at h
        · rename_i l' c' hl hc'
          cases hcc : (decide (0 ≤ l') && (decide (l' = c') && (room l'.toNat b && (z.cells.length == n && oneL z.cells)))) with
          | false => rw [hcc] at h; cases h
          | true =>
            rw [hcc] at h
            simp only [cond_true, Option.some.injEq, Prod.mk.injEq] at h
            obtain ⟨rfl, rfl⟩ := h
            exact ⟨.cells (repl l'.toNat z.cells), rfl, .inr (.inl ⟨n, l'.toNat, rfl⟩), fun m2 e => by simp only [makeA, hl, hc', hcc, cond_true, e]⟩
        · cases h
      obtain ⟨ob, h1, h2, h3⟩ := hm
      exact ⟨ob, h1, h2, fun t' e' he => by simp only [memA, hu, hn, hb, hz, Option.bind_some, ← he l (by simp [Op.operands]), ← he c (by simp [Op.operands]), h3 _ e']⟩
    · cases h
  case makeMap t r =>
    cases r with
    | some _ => simp [memA] at h
    | none =>
      simp only [memA, Option.some.injEq, Prod.mk.injEq] at h
      obtain ⟨rfl, rfl⟩ := h
      exact ⟨.map 0 [] [], rfl, .inr (.inr rfl), fun t e _ => by simp only [memA, e]⟩
end Go.AM
