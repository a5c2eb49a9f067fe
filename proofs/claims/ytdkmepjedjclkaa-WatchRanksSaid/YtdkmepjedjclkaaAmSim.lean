/-
  THE ABSTRACT MACHINE: when a world bears a heap of objects, and how it may go on. Conditions: none.
-/
import Derived.Test.YtdkmepjedjclkaaAmRep
namespace Go.AM

/-- The object o lies at block b from cell p on; the block has c cells. -/
def ObjRep (w : World) (N : Nat → Prop) (i : Pl) (b p c : Nat) : AObj → Prop
  | .cells xs => ∃ arr elem fr vs, w.heap[b]? = some (.cells arr elem fr) ∧ arr.size = c ∧ (∀ k, k < c → ¬ (fr.1 ≤ k ∧ k < fr.2)) ∧ p + xs.length ≤ c ∧ CellsAt w b p vs ∧ One vs ∧ RepL w N i xs vs
  | .map _ ks us => ∃ es : Array MapEntry, w.heap[b]? = some (.map es es.size) ∧ (∀ (k : Nat) e, es[k]? = some e → e.born = k) ∧ RepL w N i ks (es.toList.map (·.key)) ∧ RepL w N i us (es.toList.map (·.val)) ∧ p ≤ c
  | .iter .. => False

def Live (m : Mem) (i : Pl) (b : Nat) : Prop := ∃ id o p c, m.h id = some o ∧ i id o.top = some (b, p, c)

/-- The world bears the heap. -/
structure Sim (m : Mem) (w : World) (N : Nat → Prop) (i : Pl) : Prop where
  live : ∀ id o, m.h id = some o → ∃ b p c, i id o.top = some (b, p, c) ∧ ¬ N b ∧ ObjRep w N i b p c o
  inj : ∀ id id' o o' b p c p' c', m.h id = some o → m.h id' = some o' → i id o.top = some (b, p, c) → i id' o'.top = some (b, p', c') → id = id'
  top : ∀ id o t x, m.h id = some o → i id t = some x → t ≤ o.top
  nlt : ∀ b, N b → b < w.heap.size
  bnd : ∀ id t b p c, i id t = some (b, p, c) → p + t ≤ c

/-- How a world may go on: what was there and is no object's stays. -/
structure Ext (m : Mem) (w : World) (N : Nat → Prop) (i : Pl) (m' : Mem) (w' : World) (N' : Nat → Prop) (i' : Pl) : Prop where
  os : w'.os = w.os
  tape : w'.tape = w.tape
  output : w'.output = w.output
  size : w.heap.size ≤ w'.heap.size
  hN : ∀ b, N b → N' b
  hi : ∀ id t x, i id t = some x → i' id t = some x
  keep : ∀ b, b < w.heap.size → ¬ Live m i b → w'.heap[b]? = w.heap[b]?
  grow : ∀ b, Live m' i' b → Live m i b ∨ w.heap.size ≤ b
  newN : ∀ b, N' b → N b ∨ Live m i b ∨ w.heap.size ≤ b
  nx : m.nx ≤ m'.nx
  pl : ∀ id t x, i' id t = some x → (∃ t' y, i id t' = some y) ∨ (m.nx ≤ id ∧ id < m'.nx)

theorem ObjRep.lt {w : World} {N : Nat → Prop} {i : Pl} {b p c : Nat} {o : AObj} (h : ObjRep w N i b p c o) : b < w.heap.size := by
  have : ∃ x, w.heap[b]? = some x := by
    cases o with
    | cells xs => obtain ⟨arr, elem, fr, vs, h, _⟩ := h; exact ⟨_, h⟩
    | map g ks us => obtain ⟨es, h, _⟩ := h; exact ⟨_, h⟩
    | iter => exact h.elim
  obtain ⟨x, hx⟩ := this
  rcases Nat.lt_or_ge b w.heap.size with h' | h'
  · exact h'
  · simp [Array.getElem?_eq_none h'] at hx

theorem ObjRep.room {w : World} {N : Nat → Prop} {i : Pl} {b p c : Nat} : ∀ {o : AObj}, ObjRep w N i b p c o → p + o.top ≤ c
  | .cells _, ⟨_, _, _, _, _, _, _, h, _⟩ => h
  | .map .., ⟨_, _, _, _, _, h⟩ => h

theorem Sim.liveN {m : Mem} {w : World} {N : Nat → Prop} {i : Pl} (s : Sim m w N i) {b : Nat} (h : Live m i b) : ¬ N b ∧ b < w.heap.size := by
  obtain ⟨id, o, p, c, h1, h2⟩ := h
  obtain ⟨b', p', c', h3, h4, h5⟩ := s.live id o h1
  rw [h2] at h3
  cases h3
  exact ⟨h4, h5.lt⟩

theorem Ext.le {m : Mem} {w : World} {N : Nat → Prop} {i : Pl} {m' : Mem} {w' : World} {N' : Nat → Prop} {i' : Pl} (s : Sim m w N i) (e : Ext m w N i m' w' N' i') : Le w N i w' N' i' :=
  ⟨e.hN, fun b hb => e.keep b (s.nlt b hb) (fun hl => (s.liveN hl).1 hb), e.hi⟩

theorem Ext.refl (m : Mem) (w : World) (N : Nat → Prop) (i : Pl) : Ext m w N i m w N i :=
  ⟨rfl, rfl, rfl, Nat.le_refl _, fun _ h => h, fun _ _ _ h => h, fun _ _ _ => rfl, fun _ h => .inl h, fun _ h => .inl h, Nat.le_refl _, fun _ t x h => .inl ⟨t, x, h⟩⟩

theorem Ext.trans {m : Mem} {w : World} {N : Nat → Prop} {i : Pl} {m' : Mem} {w' : World} {N' : Nat → Prop} {i' : Pl} {m'' : Mem} {w'' : World} {N'' : Nat → Prop} {i'' : Pl}
    (e : Ext m w N i m' w' N' i') (f : Ext m' w' N' i' m'' w'' N'' i'') : Ext m w N i m'' w'' N'' i'' := by
  refine ⟨f.os.trans e.os, f.tape.trans e.tape, f.output.trans e.output, Nat.le_trans e.size f.size, fun b h => f.hN b (e.hN b h), fun id t x h => f.hi _ _ _ (e.hi _ _ _ h), ?_, ?_, ?_, Nat.le_trans e.nx f.nx, ?_⟩
  · intro b hb hl
    rw [f.keep b (Nat.lt_of_lt_of_le hb e.size) (fun h => by rcases e.grow b h with h | h; exact hl h; omega), e.keep b hb hl]
  · intro b h
    rcases f.grow b h with h | h
    · exact e.grow b h
    · exact .inr (Nat.le_trans e.size h)
  · intro b h
    rcases f.newN b h with h | h | h
    · exact e.newN b h
    · rcases e.grow b h with h | h
      · exact .inr (.inl h)
      · exact .inr (.inr h)
    · exact .inr (.inr (Nat.le_trans e.size h))
  · intro id t x h
    rcases f.pl id t x h with ⟨t', y, h⟩ | ⟨h1, h2⟩
    · rcases e.pl id t' y h with h | ⟨h1, h2⟩
      · exact .inl h
      · exact .inr ⟨h1, Nat.lt_of_lt_of_le h2 f.nx⟩
    · exact .inr ⟨Nat.le_trans e.nx h1, h2⟩

theorem ObjRep.mono {w : World} {N : Nat → Prop} {i : Pl} {w' : World} {N' : Nat → Prop} {i' : Pl} (l : Le w N i w' N' i') {b p c : Nat} (hb : w'.heap[b]? = w.heap[b]?) : ∀ {o : AObj}, ObjRep w N i b p c o → ObjRep w' N' i' b p c o
  | .cells _, ⟨arr, elem, fr, vs, h1, h2, h3, h4, h5, h6, h7⟩ => ⟨arr, elem, fr, vs, hb.trans h1, h2, h3, h4, h5.congr hb, h6, RepL.mono l _ h7⟩
  | .map .., ⟨es, h1, h2, h3, h4, h5⟩ => ⟨es, hb.trans h1, h2, RepL.mono l _ h3, RepL.mono l _ h4, h5⟩

/-! ### Steps of the world -/
/-- A draw. -/
theorem Sim.drew {m : Mem} {w : World} {N : Nat → Prop} {i : Pl} (s : Sim m w N i) : Sim m w.drew N i :=
  have l : Le w N i w.drew N i := ⟨fun _ h => h, fun _ _ => rfl, fun _ _ _ h => h⟩
  ⟨fun id o h => let ⟨b, p, c, h2, h3, h4⟩ := s.live id o h; ⟨b, p, c, h2, h3, h4.mono l rfl⟩, s.inj, s.top, s.nlt, s.bnd⟩

theorem Ext.drew (m : Mem) (w : World) (N : Nat → Prop) (i : Pl) : Ext m w N i m w.drew N i :=
  ⟨rfl, rfl, rfl, Nat.le_refl _, fun _ h => h, fun _ _ _ h => h, fun _ _ _ => rfl, fun _ h => .inl h, fun _ h => .inl h, Nat.le_refl _, fun _ t x h => .inl ⟨t, x, h⟩⟩

theorem alloc_get (w : World) (o : Obj) (b : Nat) (h : b < w.heap.size) : (w.alloc o).heap[b]? = w.heap[b]? := by
  show (w.heap.push o)[b]? = _
  rw [Array.getElem?_push, if_neg (by omega)]

theorem alloc_new (w : World) (o : Obj) : (w.alloc o).heap[w.heap.size]? = some o := by
  show (w.heap.push o)[w.heap.size]? = _
  rw [Array.getElem?_push, if_pos rfl]

/-- A new block that will not be written. -/
theorem Sim.allocN {m : Mem} {w : World} {N : Nat → Prop} {i : Pl} (s : Sim m w N i) (o : Obj) :
    Sim m (w.alloc o) (fun b => N b ∨ b = w.heap.size) i ∧ Ext m w N i m (w.alloc o) (fun b => N b ∨ b = w.heap.size) i := by
  have l : Le w N i (w.alloc o) (fun b => N b ∨ b = w.heap.size) i := ⟨fun _ h => .inl h, fun b h => alloc_get w o b (s.nlt b h), fun _ _ _ h => h⟩
  refine ⟨⟨fun id o' h => ?_, s.inj, s.top, fun b h => ?_, s.bnd⟩, ⟨rfl, rfl, rfl, by simp, fun _ h => .inl h, fun _ _ _ h => h, fun b hb _ => alloc_get w o b hb, fun _ h => .inl h, fun b h => ?_, Nat.le_refl _, fun _ t x h => .inl ⟨t, x, h⟩⟩⟩
  · obtain ⟨b, p, c, h2, h3, h4⟩ := s.live id o' h
    have := h4.lt
    exact ⟨b, p, c, h2, by rintro (h | h); exact h3 h; omega, h4.mono l (alloc_get w o b this)⟩
  · rcases h with h | h
    · have := s.nlt b h; simp; omega
    · simp; omega
  · rcases h with h | h
    · exact .inl h
    · exact .inr (.inr (by omega))

def updPl (i : Pl) (id t : Nat) (x : Nat × Nat × Nat) : Pl := fun id' t' => if id' = id ∧ t' = t then some x else i id' t'

theorem updPl_same (i : Pl) (id t : Nat) (x : Nat × Nat × Nat) : updPl i id t x id t = some x := by simp [updPl]
theorem updPl_ne (i : Pl) {id t id' t' : Nat} (x : Nat × Nat × Nat) (h : ¬ (id' = id ∧ t' = t)) : updPl i id t x id' t' = i id' t' := by simp [updPl, h]

theorem pl_new {i : Pl} {k o : Nat} {x : Nat × Nat × Nat} : ∀ id t y, updPl i k o x id t = some y → (∃ t' y', i id t' = some y') ∨ (k ≤ id ∧ id < k + 1) := by
  intro id t y h
  by_cases e : id = k ∧ t = o
  · exact .inr (by omega)
  · rw [updPl_ne _ _ e] at h
    exact .inl ⟨t, y, h⟩

theorem pl_old {i : Pl} {k o t0 : Nat} {x y0 : Nat × Nat × Nat} (hp : i k t0 = some y0) {a b : Nat} : ∀ id t y, updPl i k o x id t = some y → (∃ t' y', i id t' = some y') ∨ (a ≤ id ∧ id < b) := by
  intro id t y h
  by_cases e : id = k ∧ t = o
  · exact .inl ⟨t0, y0, by rw [e.1]; exact hp⟩
  · rw [updPl_ne _ _ e] at h
    exact .inl ⟨t, y, h⟩

theorem upd_same (h : Nat → Option AObj) (k : Nat) (o : Option AObj) : upd h k o k = o := by simp [upd]
theorem upd_ne (h : Nat → Option AObj) {k j : Nat} (o : Option AObj) (hj : j ≠ k) : upd h k o j = h j := by
  have : (j == k) = false := by simpa using hj
  simp [upd, this]

/-- A new object, in a new block or in one that is nobody's. -/
theorem Sim.new {m : Mem} {w : World} {N : Nat → Prop} {i : Pl} (s : Sim m w N i) (hf : ∀ t, i m.nx t = none) {w' : World} (hs : w.heap.size ≤ w'.heap.size)
    (hk : ∀ k, N k ∨ Live m i k → w'.heap[k]? = w.heap[k]?) {o : AObj} {b p c : Nat} (hb : ¬ N b) (hl : ¬ Live m i b)
    (ho : ObjRep w' N (updPl i m.nx o.top (b, p, c)) b p c o) : Sim (m.new o) w' N (updPl i m.nx o.top (b, p, c)) := by
  have hold : ∀ id t x, i id t = some x → ¬ (id = m.nx ∧ t = o.top) := fun id t x h hh => by rw [hh.1, hf] at h; cases h
  have hi : ∀ id t x, i id t = some x → updPl i m.nx o.top (b, p, c) id t = some x := fun id t x h => by rw [updPl_ne _ _ (hold id t x h)]; exact h
  have l : Le w N i w' N (updPl i m.nx o.top (b, p, c)) := ⟨fun _ h => h, fun k h => hk k (.inl h), hi⟩
  have hne : ∀ id o', m.h id = some o' → id ≠ m.nx := fun id o' h e => by obtain ⟨b, p, c, h1, _⟩ := s.live id o' h; rw [e, hf] at h1; cases h1
  have key : ∀ id o', (m.new o).h id = some o' → (id = m.nx ∧ o' = o) ∨ (id ≠ m.nx ∧ m.h id = some o') := by
    intro id o' h
    by_cases e : id = m.nx
    · subst e; simp [Mem.new, upd_same] at h; exact .inl ⟨rfl, h.symm⟩
    · simp only [Mem.new, upd_ne _ _ e] at h; exact .inr ⟨e, h⟩
  refine ⟨fun id o' h => ?_, ?_, ?_, fun b h => Nat.lt_of_lt_of_le (s.nlt b h) hs, ?_⟩
  · rcases key id o' h with ⟨rfl, rfl⟩ | ⟨e, h⟩
    · exact ⟨b, p, c, updPl_same .., hb, ho⟩
    · obtain ⟨b', p', c', h2, h3, h4⟩ := s.live id o' h
      exact ⟨b', p', c', hi _ _ _ h2, h3, h4.mono l (hk _ (.inr ⟨id, o', p', c', h, h2⟩))⟩
  · intro id id' o1 o2 b1 p1 c1 p2 c2 h1 h2 h3 h4
    rcases key id o1 h1 with ⟨rfl, rfl⟩ | ⟨e1, g1⟩ <;> rcases key id' o2 h2 with ⟨rfl, rfl⟩ | ⟨e2, g2⟩
    · rfl
    · rw [updPl_same] at h3
      cases h3
      rw [updPl_ne _ _ (by rintro ⟨h, _⟩; exact e2 h)] at h4
      exact (hl ⟨id', o2, p2, c2, g2, h4⟩).elim
    · rw [updPl_same] at h4
      cases h4
      rw [updPl_ne _ _ (by rintro ⟨h, _⟩; exact e1 h)] at h3
      exact (hl ⟨id, o1, p1, c1, g1, h3⟩).elim
    · rw [updPl_ne _ _ (by rintro ⟨h, _⟩; exact e1 h)] at h3
      rw [updPl_ne _ _ (by rintro ⟨h, _⟩; exact e2 h)] at h4
      exact s.inj _ _ _ _ _ _ _ _ _ g1 g2 h3 h4
  · intro id o' t x h h2
    rcases key id o' h with ⟨rfl, rfl⟩ | ⟨e, h⟩
    · by_cases e : t = o'.top
      · omega
      · rw [updPl_ne _ _ (by rintro ⟨_, h⟩; exact e h), hf] at h2
        cases h2
    · rw [updPl_ne _ _ (by rintro ⟨h, _⟩; exact e h)] at h2
      exact s.top id o' t x h h2
  · intro id t b1 p1 c1 h
    by_cases e : id = m.nx ∧ t = o.top
    · rw [e.1, e.2, updPl_same] at h
      cases h
      rw [e.2]; exact ho.room
    · rw [updPl_ne _ _ e] at h
      exact s.bnd _ _ _ _ _ h

theorem livenew {m : Mem} {i : Pl} {o : AObj} {b p c k : Nat} (h : Live (m.new o) (updPl i m.nx o.top (b, p, c)) k) : Live m i k ∨ k = b := by
  obtain ⟨id, o', p', c', h1, h2⟩ := h
  by_cases e : id = m.nx
  · subst e
    simp [Mem.new, upd_same] at h1
    subst h1
    rw [updPl_same] at h2
    cases h2
    exact .inr rfl
  · simp only [Mem.new, upd_ne _ _ e] at h1
    rw [updPl_ne _ _ (by rintro ⟨h, _⟩; exact e h)] at h2
    exact .inl ⟨id, o', p', c', h1, h2⟩

/-- An object gives way to a longer one, or to one of the same length at the same place. -/
theorem Sim.replace {m : Mem} {w : World} {N : Nat → Prop} {i : Pl} (s : Sim m w N i) {w' : World} (hs : w.heap.size ≤ w'.heap.size) {id : Nat} {o o' : AObj} {b p c b' p' c' : Nat}
    (ho : m.h id = some o) (hp : i id o.top = some (b, p, c)) (ht : o.top < o'.top ∨ (o'.top = o.top ∧ (b', p', c') = (b, p, c))) (hb' : b' = b ∨ w.heap.size ≤ b')
    (hk : ∀ k, k < w.heap.size → k ≠ b → w'.heap[k]? = w.heap[k]?) (hr : ObjRep w' N (updPl i id o'.top (b', p', c')) b' p' c' o') :
    Sim (m.set id (some o')) w' N (updPl i id o'.top (b', p', c')) ∧ (∀ k, Live (m.set id (some o')) (updPl i id o'.top (b', p', c')) k → Live m i k ∨ w.heap.size ≤ k) ∧
    (∀ id1 t x, i id1 t = some x → updPl i id o'.top (b', p', c') id1 t = some x) := by
  have hlive : Live m i b := ⟨id, o, p, c, ho, hp⟩
  obtain ⟨hNb, hblt⟩ := s.liveN hlive
  have hi : ∀ id1 t x, i id1 t = some x → updPl i id o'.top (b', p', c') id1 t = some x := fun id1 t x h => by
    by_cases e : id1 = id ∧ t = o'.top
    · obtain ⟨rfl, rfl⟩ := e
      rcases ht with ht | ⟨h1, h2⟩
      · have := s.top _ _ _ _ ho h; omega
      · rw [h1] at h ⊢; rw [hp] at h; cases h; rw [updPl_same, h2]
    · rw [updPl_ne _ _ e]; exact h
  have l : Le w N i w' N (updPl i id o'.top (b', p', c')) := ⟨fun _ h => h, fun k h => hk k (s.nlt k h) (fun e => hNb (e ▸ h)), hi⟩
  have key : ∀ id1 o1, (m.set id (some o')).h id1 = some o1 → (id1 = id ∧ o1 = o') ∨ (id1 ≠ id ∧ m.h id1 = some o1) := by
    intro id1 o1 h
    by_cases e : id1 = id
    · subst e; simp [Mem.set, upd_same] at h; exact .inl ⟨rfl, h.symm⟩
    · simp only [Mem.set, upd_ne _ _ e] at h; exact .inr ⟨e, h⟩
  have hother : ∀ id1 o1 b1 p1 c1, id1 ≠ id → m.h id1 = some o1 → i id1 o1.top = some (b1, p1, c1) → b1 ≠ b := fun id1 o1 b1 p1 c1 e h1 h2 hh => e (s.inj id1 id o1 o b p1 c1 p c h1 ho (hh ▸ h2) hp)
  have hNb' : ¬ N b' := fun h => by rcases hb' with rfl | hb'; exact hNb h; have := s.nlt _ h; omega
  refine ⟨⟨fun id1 o1 h => ?_, ?_, ?_, fun b h => Nat.lt_of_lt_of_le (s.nlt b h) hs, ?_⟩, ?_, hi⟩
  · rcases key id1 o1 h with ⟨rfl, rfl⟩ | ⟨e, h⟩
    · exact ⟨b', p', c', updPl_same .., hNb', hr⟩
    · obtain ⟨b1, p1, c1, h2, h3, h4⟩ := s.live id1 o1 h
      exact ⟨b1, p1, c1, hi _ _ _ h2, h3, h4.mono l (hk _ h4.lt (hother id1 o1 b1 p1 c1 e h h2))⟩
  · intro id1 id2 o1 o2 b1 p1 c1 p2 c2 h1 h2 h3 h4
    rcases key id1 o1 h1 with ⟨rfl, rfl⟩ | ⟨e1, g1⟩ <;> rcases key id2 o2 h2 with ⟨rfl, rfl⟩ | ⟨e2, g2⟩
    · rfl
    · rw [updPl_same] at h3
      cases h3
      rw [updPl_ne _ _ (by rintro ⟨h, _⟩; exact e2 h)] at h4
      obtain ⟨b3, p3, c3, h5, h6, h7⟩ := s.live id2 o2 g2
      rw [h4] at h5
      cases h5
      rcases hb' with rfl | hb'
      · exact (hother id2 o2 _ p2 c2 e2 g2 h4 rfl).elim
      · have := h7.lt; omega
    · rw [updPl_same] at h4
      cases h4
      rw [updPl_ne _ _ (by rintro ⟨h, _⟩; exact e1 h)] at h3
      obtain ⟨b3, p3, c3, h5, h6, h7⟩ := s.live id1 o1 g1
      rw [h3] at h5
      cases h5
      rcases hb' with rfl | hb'
      · exact (hother id1 o1 _ p1 c1 e1 g1 h3 rfl).elim
      · have := h7.lt; omega
    · rw [updPl_ne _ _ (by rintro ⟨h, _⟩; exact e1 h)] at h3
      rw [updPl_ne _ _ (by rintro ⟨h, _⟩; exact e2 h)] at h4
      exact s.inj _ _ _ _ _ _ _ _ _ g1 g2 h3 h4
  · intro id1 o1 t x h h2
    rcases key id1 o1 h with ⟨rfl, rfl⟩ | ⟨e, h⟩
    · by_cases e : t = o1.top
      · omega
      · rw [updPl_ne _ _ (by rintro ⟨_, h⟩; exact e h)] at h2
        have := s.top _ _ _ _ ho h2
        omega
    · rw [updPl_ne _ _ (by rintro ⟨h, _⟩; exact e h)] at h2
      exact s.top id1 o1 t x h h2
  · intro id1 t b1 p1 c1 h
    by_cases e : id1 = id ∧ t = o'.top
    · rw [e.1, e.2, updPl_same] at h
      cases h
      rw [e.2]; exact hr.room
    · rw [updPl_ne _ _ e] at h
      exact s.bnd _ _ _ _ _ h
  · rintro k ⟨id1, o1, p1, c1, h1, h2⟩
    rcases key id1 o1 h1 with ⟨rfl, rfl⟩ | ⟨e, h1⟩
    · rw [updPl_same] at h2
      cases h2
      rcases hb' with rfl | hb'
      · exact .inl hlive
      · exact .inr hb'
    · rw [updPl_ne _ _ (by rintro ⟨h, _⟩; exact e h)] at h2
      exact .inl ⟨id1, o1, p1, c1, h1, h2⟩

/-- An object is forgotten. -/
theorem Sim.drop {m : Mem} {w : World} {N : Nat → Prop} {i : Pl} (s : Sim m w N i) (id : Nat) : Sim (m.set id none) w N i ∧ Ext m w N i (m.set id none) w N i := by
  have key : ∀ id1 o1, (m.set id none).h id1 = some o1 → id1 ≠ id ∧ m.h id1 = some o1 := by
    intro id1 o1 h
    by_cases e : id1 = id
    · subst e; simp [Mem.set, upd_same] at h
    · simp only [Mem.set, upd_ne _ _ e] at h; exact ⟨e, h⟩
  refine ⟨⟨fun id1 o1 h => s.live id1 o1 (key _ _ h).2, fun id1 id2 o1 o2 b p c p' c' h1 h2 => s.inj _ _ _ _ _ _ _ _ _ (key _ _ h1).2 (key _ _ h2).2, fun id1 o1 t x h => s.top _ _ _ _ (key _ _ h).2, s.nlt, s.bnd⟩,
    ⟨rfl, rfl, rfl, Nat.le_refl _, fun _ h => h, fun _ _ _ h => h, fun _ _ _ => rfl, ?_, fun _ h => .inl h, Nat.le_refl _, fun _ t x h => .inl ⟨t, x, h⟩⟩⟩
  rintro b ⟨id1, o1, p, c, h1, h2⟩
  exact .inl ⟨id1, o1, p, c, (key _ _ h1).2, h2⟩

/-- An object that is no longer written. -/
theorem Sim.freeze {m : Mem} {w : World} {N : Nat → Prop} {i : Pl} (s : Sim m w N i) {id : Nat} {o : AObj} {b p c : Nat} (ho : m.h id = some o) (hp : i id o.top = some (b, p, c)) :
    Sim (m.set id none) w (fun k => N k ∨ k = b) i ∧ Ext m w N i (m.set id none) w (fun k => N k ∨ k = b) i ∧ Le w N i w (fun k => N k ∨ k = b) i := by
  have key : ∀ id1 o1, (m.set id none).h id1 = some o1 → id1 ≠ id ∧ m.h id1 = some o1 := by
    intro id1 o1 h
    by_cases e : id1 = id
    · subst e; simp [Mem.set, upd_same] at h
    · simp only [Mem.set, upd_ne _ _ e] at h; exact ⟨e, h⟩
  have l : Le w N i w (fun k => N k ∨ k = b) i := ⟨fun _ h => .inl h, fun _ _ => rfl, fun _ _ _ h => h⟩
  refine ⟨⟨fun id1 o1 h => ?_, fun id1 id2 o1 o2 b p c p' c' h1 h2 => s.inj _ _ _ _ _ _ _ _ _ (key _ _ h1).2 (key _ _ h2).2, fun id1 o1 t x h => s.top _ _ _ _ (key _ _ h).2, ?_, s.bnd⟩,
    ⟨rfl, rfl, rfl, Nat.le_refl _, fun _ h => .inl h, fun _ _ _ h => h, fun _ _ _ => rfl, ?_, ?_, Nat.le_refl _, fun _ t x h => .inl ⟨t, x, h⟩⟩, l⟩
  · obtain ⟨e, h⟩ := key _ _ h
    obtain ⟨b1, p1, c1, h2, h3, h4⟩ := s.live id1 o1 h
    exact ⟨b1, p1, c1, h2, by rintro (h5 | rfl); exact h3 h5; exact e (s.inj _ _ _ _ _ _ _ _ _ h ho h2 hp), h4.mono l rfl⟩
  · rintro k (h | rfl)
    · exact s.nlt k h
    · exact (s.liveN ⟨id, o, p, c, ho, hp⟩).2
  · rintro b ⟨id1, o1, p, c, h1, h2⟩
    exact .inl ⟨id1, o1, p, c, (key _ _ h1).2, h2⟩
  · rintro k (h | rfl)
    · exact .inl h
    · exact .inr (.inl ⟨id, o, p, c, ho, hp⟩)
end Go.AM
