/-
  WHAT THE PROGRAM's all COMPUTES: the consistent cuts in lexicographic order. Conditions: none.
-/
import Derived.Test.YtdkmepjedjclkaaK01
import Derived.Test.YtdkmepjedjclkaaK00
set_option linter.all false
namespace Go.Proofs.Ytdkmepjedjclkaa
open Go.AM
open Go.Proofs.Try (prog)
set_option linter.all false
set_option maxRecDepth 10000
def enumR (D : List Int) : Nat → Nat → List Int → List (List Int)
  | 0, _, c => [c]
  | k + 1, h, c => (List.range ((nth D h).toNat + 1)).flatMap fun (i : Nat) => enumR D k (h + 1) (c.set h (i : Int))
theorem nth_set {l : List Int} {i j : Nat} {a : Int} : nth (l.set i a) j = if i = j ∧ i < l.length then a else nth l j := by
  simp only [nth, List.getD, List.getElem?_set]
  by_cases h : i = j
  · subst h
    by_cases h2 : i < l.length
    · simp [h2]
    · simp [h2, List.getElem?_eq_none (Nat.le_of_not_lt h2)]
  · simp [h]
theorem IsCut.set {n : Nat} {D c : List Int} (hc : IsCut n D c) {h i : Nat} (hi : (i : Int) ≤ nth D h) : IsCut n D (c.set h i) := by
  refine ⟨by simp [hc.len], fun j => ?_, fun j => ?_⟩ <;> rw [nth_set] <;> split
  · omega
  · exact hc.lo j
  · rename_i h1; rw [← h1.1]; exact hi
  · exact hc.hi j
def OutAt (m : Mem) (acc : List (List Int)) : Option Nat → Prop
  | none => m.h 0 = some (.cells [.nils]) ∧ acc = []
  | some oid => m.h 0 = some (.cells [.sl oid 4 0 acc.length (acc.length * 4)]) ∧ m.h oid = some (.cells (flatC ints acc)) ∧ 2 ≤ oid ∧ oid < m.nx
structure Frame (b : Nat) (m m' : Mem) (o o' : Option Nat) : Prop where
  nx : m.nx ≤ m'.nx
  keep : ∀ id, id < m.nx → id ≠ 0 → id ≠ b → some id ≠ o → m'.h id = m.h id
  o : o' = o ∨ (o = none ∧ ∃ i, o' = some i ∧ m.nx ≤ i)
theorem Frame.refl (b : Nat) (m : Mem) (o : Option Nat) : Frame b m m o o := ⟨Nat.le_refl _, fun _ _ _ _ _ => rfl, .inl rfl⟩
theorem Frame.trans {x : Nat} {a b c : Mem} {o p q : Option Nat} (h : Frame x a b o p) (k : Frame x b c p q) : Frame x a c o q := by
  refine ⟨Nat.le_trans h.nx k.nx, fun id h1 h2 hx h3 => ?_, ?_⟩
  · rw [k.keep id (Nat.lt_of_lt_of_le h1 h.nx) h2 hx ?_, h.keep id h1 h2 hx h3]
    rcases h.o with e | ⟨_, i, e, hi⟩
    · rw [e]; exact h3
    · rw [e]; simp; omega
  · rcases h.o with e | ⟨e, i, e2, hi⟩
    · subst e
      rcases k.o with e | ⟨e, i, e2, hi⟩
      · exact .inl e
      · exact .inr ⟨e, i, e2, Nat.le_trans h.nx hi⟩
    · rcases k.o with e3 | ⟨e3, _⟩
      · exact .inr ⟨e, i, e3.trans e2, hi⟩
      · rw [e2] at e3; cases e3
theorem Frame.weak {b : Nat} {m m' : Mem} {o o' : Option Nat} (h : Frame m.nx m m' o o') : Frame b m m' o o' :=
  ⟨h.nx, fun id h1 h2 _ h3 => h.keep id h1 h2 (by omega) h3, h.o⟩
def growV (sv : AV) : AV := .fn 97 [] [.fptr [sv], .ptr 0 0 1, .ptr 1 0 1]
theorem enumR_cut {n : Nat} {D : List Int} (hp : ∀ h, 0 ≤ nth D h) : ∀ (k h : Nat) (c : List Int), IsCut n D c → ∀ x ∈ enumR D k h c, IsCut n D x
  | 0, h, c, hc, x, hx => by simp [enumR] at hx; subst hx; exact hc
  | k + 1, h, c, hc, x, hx => by
    simp only [enumR, List.mem_flatMap, List.mem_range] at hx
    obtain ⟨i, hi, hx⟩ := hx
    have := hp h
    exact enumR_cut hp k (h + 1) _ (hc.set (by omega)) x hx
theorem grow_spec {V : List AV} {n : Nat} {D : List Int} {K : List (List (List Int))} (hV : V.length = 4)
    (s : IsStory (.fptr (.int .i64 n :: (ints D ++ V))) n D K) : ∀ (k h : Nat) (c : List Int) (acc : List (List Int)) (o : Option Nat) (m : Mem), h + k = n → IsCut n D c → Four acc → OutAt m acc o →
      m.h 1 = some (.cells [growV (.fptr (.int .i64 n :: (ints D ++ V)))]) → 2 ≤ m.nx → acc.length + (enumR D k h c).length ≤ 1000000 →
      ∃ m' o', denC prog ann 97 [.agg (ints c), .int .i64 h, .fptr [.fptr (.int .i64 n :: (ints D ++ V))], .ptr 0 0 1, .ptr 1 0 1] m = some (.tup [], m') ∧
        OutAt m' (acc ++ (enumR D k h c).filter fun c => decide (forthL K n c = c)) o' ∧ Frame m.nx m m' o o' := by
  intro k
  induction k with
  | zero =>
    intro h c acc o m hk hc hacc ho hg hnx hb
    have e : h = n := by omega
    subst e
    rw [watch_story_all_1.call_eq]
    have hl := hc.len
    have ht : c.take 4 = c := List.take_of_length_le (by omega)
    have hsp := consistent_spec s hc Mem.empty
    have e0 : (0 == m.nx) = false := by simp; omega
    have e1 : (1 == m.nx) = false := by simp; omega
    by_cases hcons : forthL K h c = c
    · cases o with
      | none =>
        obtain ⟨h0, rfl⟩ := ho
        simp only [List.nil_append, enumR, List.filter_cons, hcons, decide_true, List.filter_nil, if_true]
        refine ⟨⟨upd (upd (upd m.h m.nx (some (.cells (ints c)))) (m.nx + 1) (some (.cells (ints c)))) 0 (some (.cells [.sl (m.nx + 1) 4 0 1 4])), m.nx + 2⟩, some (m.nx + 1), ?_, ?_, ?_⟩
        · simp [hl, ht, hsp, hcons, h0, e0, e1, show c.drop 4 = [] from List.drop_of_length_le (by omega)]
        · exact ⟨by simp, by simp [flatC_one], by omega, by simp⟩
        · exact ⟨by simp, fun id h1 h2 _ h3 => by
            have e3 : (id == m.nx) = false := by simp; omega
            have e4 : (id == m.nx + 1) = false := by simp; omega
            have e5 : (id == 0) = false := by simpa using h2
            simp [e3, e4, e5], .inr ⟨rfl, _, rfl, by omega⟩⟩
      | some oid =>
        obtain ⟨h0, h2, h3, h4⟩ := ho
        have e3 : (oid == m.nx) = false := by simp; omega
        have e6 : (oid == 0) = false := by simp; omega
        have e7 : (0 == oid) = false := by simp; omega
        have hfl : (flatC ints acc).length = acc.length * 4 := flatC_len hacc.cells
        simp only [enumR, List.filter_cons, hcons, decide_true, List.filter_nil, if_true]
        simp [enumR] at hb
        refine ⟨⟨upd (upd (upd m.h m.nx (some (.cells (ints c)))) oid (some (.cells (flatC ints (acc ++ [c]))))) 0 (some (.cells [.sl oid 4 0 (acc.length + 1) ((acc.length + 1) * 4)])), m.nx + 1⟩, some oid, ?_, ?_, ?_⟩
        · simp [hl, ht, hsp, hcons, h0, h2, e0, e1, e3, e7, hfl, show c.drop 4 = [] from List.drop_of_length_le (by omega), show acc.length ≤ 4611686018427387903 by omega, show acc.length * 32 + 32 ≤ 70368744177664 by omega, flatC_append, flatC_one, Nat.add_mul]
        · exact ⟨by simp, by simp [e6], h3, by simp; omega⟩
        · exact ⟨by simp, fun id h1 h2 _ h3 => by
            have e3 : (id == m.nx) = false := by simp; omega
            have e4 : (id == oid) = false := by simpa using h3
            have e5 : (id == 0) = false := by simpa using h2
            simp [e3, e4, e5], .inl rfl⟩
    · refine ⟨⟨upd m.h m.nx (some (.cells (ints c))), m.nx + 1⟩, o, by simp [hl, ht, hsp, hcons], ?_, ?_⟩
      · simp only [enumR, List.filter_cons, hcons, decide_false, List.filter_nil, List.append_nil]
        cases o with
        | none => exact ⟨by simpa [e0] using ho.1, by simpa using ho.2⟩
        | some oid =>
          obtain ⟨h1, h2, h3, h4⟩ := ho
          have e3 : (oid == m.nx) = false := by simp; omega
          exact ⟨by simpa [e0] using h1, by simpa [e3] using h2, h3, by simp; omega⟩
      · exact ⟨by simp, fun id h1 h2 _ h3 => by have : (id == m.nx) = false := by { simp; omega }; simp [this], .inl rfl⟩
  | succ k ih =>
    intro h c acc o m hk hc hacc ho hg hnx hb
    have hl := hc.len
    have hne : ¬ h = n := by omega
    have hne' : ¬ (h : Int) = n := by omega
    have hn := s.n4
    have hD4 := s.D4
    have hw : IntKind.wrap .i64 ((h : Int) + 1) = (h : Int) + 1 := wrap_id (by omega) (by omega)
    have dh : ((ints D ++ V).drop h).head? = some (.int .i64 (nth D h)) := by
      rw [List.head?_drop, List.getElem?_append_left (by simp; omega), ints_nth (by omega)]
    have loop : ∀ (j i b : Nat) (c' : List Int) (acc : List (List Int)) (o : Option Nat) (m : Mem), i + j = (nth D h).toNat + 1 → IsCut n D c' → (∀ x : Int, c'.set h x = c.set h x) → Four acc → OutAt m acc o →
        m.h 1 = some (.cells [growV (.fptr (.int .i64 n :: (ints D ++ V)))]) → m.h b = some (.cells (ints c')) → 2 ≤ b → b < m.nx → some b ≠ o →
        acc.length + ((List.range' i j).flatMap fun (i : Nat) => enumR D k (h + 1) (c.set h (i : Int))).length ≤ 1000000 →
        ∃ m' o', watch_story_all_1.L0 (.int .i64 h) (.fptr [.fptr (.int .i64 n :: (ints D ++ V))]) (.ptr 1 0 1) (.ptr b 0 4) (.int .i64 i) m [] = some (.tup [], m') ∧
          OutAt m' (acc ++ ((List.range' i j).flatMap fun (i : Nat) => enumR D k (h + 1) (c.set h (i : Int))).filter fun c => decide (forthL K n c = c)) o' ∧ Frame b m m' o o' := by
      intro j
      induction j with
      | zero =>
        intro i b c' acc o m hij hc' hset hacc ho hg hb1 hb2 hb3 hbo hlen
        have hD := s.pos h
        refine ⟨m, o, ?_, by simpa using ho, Frame.refl _ _ _⟩
        rw [watch_story_all_1.L0_eq]
        have hni : ¬ (i : Int) ≤ nth D h := by omega
        simp [show h < 4 by omega, dh, hni]
      | succ j ihj =>
        intro i b c' acc o m hij hc' hset hacc ho hg hb1 hb2 hb3 hbo hlen
        rw [watch_story_all_1.L0_eq]
        have hni : (i : Int) ≤ nth D h := by have := s.pos h; omega
        have hbz : (b == 0) = false := by simp; omega
        have hb0 : (0 == b) = false := by simp; omega
        have hb10 : (1 == b) = false := by simp; omega
        have hl' := hc'.len
        have hcs := hc'.set (h := h) hni
        have hwi : IntKind.wrap .i64 ((i : Int) + 1) = (i : Int) + 1 := by have := s.D6 h; exact wrap_id (by omega) (by omega)
        rw [List.range'_succ, List.flatMap_cons] at hlen ⊢
        rw [List.length_append] at hlen
        have ho1 : OutAt ⟨upd m.h b (some (.cells (ints (c'.set h i)))), m.nx⟩ acc o := by
          cases o with
          | none => exact ⟨by simpa [hb0] using ho.1, ho.2⟩
          | some oid =>
            have : (oid == b) = false := by simp; intro e; exact hbo (by rw [e])
            exact ⟨by simpa [hb0] using ho.1, by simpa [this] using ho.2.1, ho.2.2⟩
        rw [hset] at hcs ho1
        have hsl : (c.set h (i : Int)).length = 4 := by simp [hl]
        obtain ⟨m1, o1, r1, r2, r3⟩ := ih (h + 1) (c.set h i) acc o ⟨upd m.h b (some (.cells (ints (c.set h i)))), m.nx⟩ (by omega) hcs hacc ho1 (by simpa [hb10] using hg) (by simp; omega) (by omega)
        have r3' : Frame b m m1 o o1 := by
          refine ⟨r3.nx, fun id h1 h2 h3 h4 => ?_, r3.o⟩
          rw [r3.keep id h1 h2 (by simp; omega) h4]
          have : (id == b) = false := by simpa using h3
          simp [this]
        have hfo : Four (acc ++ (enumR D k (h + 1) (c.set h i)).filter fun c => decide (forthL K n c = c)) := by
          intro x hx
          rcases List.mem_append.1 hx with hx | hx
          · exact hacc x hx
          · exact (enumR_cut s.pos k (h + 1) _ hcs x (List.mem_filter.1 hx).1).len
        have g1 : m1.h 1 = some (.cells [growV (.fptr (.int .i64 n :: (ints D ++ V)))]) := by
          rw [r3.keep 1 (by simp; omega) (by omega) (by simp; omega) (by cases o with | none => simp | some oid => have := ho.2.2.1; simp; omega)]
          simpa [hb10] using hg
        have b1 : m1.h b = some (.cells (ints (c.set h i))) := by
          rw [r3.keep b hb3 (by omega) (by simp; omega) hbo]; simp
        obtain ⟨m2, o2, q1, q2, q3⟩ := ihj (i + 1) b (c.set h i) _ o1 m1 (by omega) hcs (fun x => by simp) hfo r2 g1 b1 hb2 (Nat.lt_of_lt_of_le hb3 r3.nx) (by
          rcases r3.o with e | ⟨_, x, e, hx⟩
          · rw [e]; exact hbo
          · rw [e]; simp at hx ⊢; omega) (by
          have := List.length_filter_le (fun c => decide (forthL K n c = c)) (enumR D k (h + 1) (c.set h i))
          rw [List.length_append]; omega)
        refine ⟨m2, o2, ?_, by simpa [List.append_assoc] using q2, r3'.trans q3⟩
        simp at r1 q1
        have ht4 : (c.set h (i : Int)).take 4 = c.set h i := List.take_of_length_le (by omega)
        simp [show h < 4 by omega, dh, hni, hb1, hl', hset, hsl, growV, hw, hwi, hb10, hg, ht4, r1, q1]
    rw [watch_story_all_1.call_eq]
    have hnb : (1 == m.nx) = false := by simp; omega
    have hn0 : (0 == m.nx) = false := by simp; omega
    have er : (List.range' 0 ((nth D h).toNat + 1)).flatMap (fun (i : Nat) => enumR D k (h + 1) (c.set h (i : Int))) = enumR D (k + 1) h c := by
      simp [enumR, List.range_eq_range']
    obtain ⟨m', o', l1, l2, l3⟩ := loop ((nth D h).toNat + 1) 0 m.nx c acc o ⟨upd m.h m.nx (some (.cells (ints c))), m.nx + 1⟩ (by omega) hc (fun _ => rfl) hacc (by
        cases o with
        | none => exact ⟨by simpa [hn0] using ho.1, ho.2⟩
        | some oid =>
          have := ho.2.2.2
          have e3 : (oid == m.nx) = false := by simp; omega
          exact ⟨by simpa [hn0] using ho.1, by simpa [e3] using ho.2.1, ho.2.2.1, by simp; omega⟩) (by simpa [hnb] using hg) (by simp) hnx (by simp) (by
        cases o with
        | none => simp
        | some oid => have := ho.2.2.2; simp; omega) (by rw [er]; exact hb)
    rw [er] at l2
    refine ⟨m', o', ?_, l2, ?_⟩
    · simp at l1
      simp [hne, hne', hl, l1]
    · refine ⟨by have := l3.nx; simp at this; omega, fun id h1 h2 h3 h4 => ?_, ?_⟩
      · rw [l3.keep id (by simp; omega) h2 h3 h4]
        have : (id == m.nx) = false := by simpa using h3
        simp [this]
      · rcases l3.o with e | ⟨e, x, e2, hx⟩
        · exact .inl e
        · exact .inr ⟨e, x, e2, by simp at hx; omega⟩
def allL (D : List Int) (K : List (List (List Int))) (n : Nat) : List (List Int) := (enumR D n 0 [0, 0, 0, 0]).filter fun c => decide (forthL K n c = c)
theorem zero_cut {v : AV} {n : Nat} {D : List Int} {K : List (List (List Int))} (s : IsStory v n D K) : IsCut n D [0, 0, 0, 0] :=
  have z : ∀ h, nth [0, 0, 0, 0] h = 0 := fun h => by
    match h with
    | 0 | 1 | 2 | 3 => rfl
    | _ + 4 => rfl
  ⟨rfl, fun h => by rw [z]; omega, fun h => by rw [z]; exact s.pos h⟩
theorem enumR_len {D : List Int} (h6 : ∀ h, nth D h ≤ 6) (hp : ∀ h, 0 ≤ nth D h) : ∀ (k h : Nat) (c : List Int), (enumR D k h c).length ≤ 7 ^ k
  | 0, _, _ => by simp [enumR]
  | k + 1, h, c => by
    have ih := fun c => enumR_len h6 hp k (h + 1) c
    have go : ∀ (l : List Nat), (l.flatMap fun (i : Nat) => enumR D k (h + 1) (c.set h (i : Int))).length ≤ l.length * 7 ^ k := by
      intro l
      induction l with
      | nil => simp
      | cons a l ihl => rw [List.flatMap_cons, List.length_append, List.length_cons, Nat.succ_mul]; have := ih (c.set h (a : Int)); omega
    have h1 := go (List.range ((nth D h).toNat + 1))
    simp only [List.length_range] at h1
    have h2 : ((nth D h).toNat + 1) * 7 ^ k ≤ 7 * 7 ^ k := Nat.mul_le_mul_right _ (by have := h6 h; omega)
    rw [Nat.pow_succ, Nat.mul_comm]
    simp only [enumR]
    omega
theorem all_spec {v : AV} {n : Nat} {D : List Int} {K : List (List (List Int))} (s : IsStory v n D K) (m : Mem) :
    ∃ v', denC prog ann 62 [v] m = some (v', m) ∧ IsSl ints v' (allL D K n) := by
  have s' := s
  obtain ⟨V, rfl, hV, hS⟩ := s.V
  have hlen : (enumR D n 0 [0, 0, 0, 0]).length ≤ 1000000 := by
    have h1 := enumR_len s.D6 s.pos n 0 [0, 0, 0, 0]
    have h2 : 7 ^ n ≤ 7 ^ 4 := Nat.pow_le_pow_right (by omega) s.n4
    omega
  obtain ⟨m', o', g1, g2, g3⟩ := grow_spec hV s n 0 [0, 0, 0, 0] [] none ⟨upd (upd Mem.empty.h 0 (some (.cells [.nils]))) 1 (some (.cells [growV (.fptr (.int .i64 n :: (ints D ++ V)))])), 2⟩ (by omega) (zero_cut s') (fun _ h => by cases h) ⟨by simp, rfl⟩ (by simp) (by simp) (by simpa using hlen)
  rw [watch_story_all.call_eq _ _ (by simp)]
  simp [growV] at g1
  have hf : Four (allL D K n) := fun x hx => (enumR_cut s.pos n 0 _ (zero_cut s') x (List.mem_filter.1 hx).1).len
  cases o' with
  | none =>
    refine ⟨.nils, ?_, .inl ⟨rfl, by simpa [allL] using g2.2⟩⟩
    simp [g1, g2.1]
  | some oid =>
    obtain ⟨h0, h2, h3, h4⟩ := g2
    simp only [List.nil_append] at h0 h2
    have e : (enumR D n 0 [0, 0, 0, 0]).filter (fun c => decide (forthL K n c = c)) = allL D K n := rfl
    rw [e] at h0 h2
    have hfl : (flatC ints (allL D K n)).length = (allL D K n).length * 4 := flatC_len hf.cells
    have hd := flatC_deep m'.h 4 (f := ints) (fun a => mapO_ints m'.h 4 a) (allL D K n)
    have ht : (flatC ints (allL D K n)).take ((allL D K n).length * 4) = flatC ints (allL D K n) := List.take_of_length_le (by omega)
    refine ⟨.fsl false (allL D K n).length (flatC ints (allL D K n)), ?_, IsSl.fsl _ _⟩
    simp [g1, h0, h2, hfl, ht, hd]
theorem allL_four {v : AV} {n : Nat} {D : List Int} {K : List (List (List Int))} (s : IsStory v n D K) : Four (allL D K n) :=
  fun x hx => (enumR_cut s.pos n 0 _ (zero_cut s) x (List.mem_filter.1 hx).1).len
theorem allL_len {v : AV} {n : Nat} {D : List Int} {K : List (List (List Int))} (s : IsStory v n D K) : (allL D K n).length ≤ 2401 := by
  have h1 := enumR_len s.D6 s.pos n 0 [0, 0, 0, 0]
  have h2 : 7 ^ n ≤ 7 ^ 4 := Nat.pow_le_pow_right (by omega) s.n4
  have h3 : (allL D K n).length ≤ _ := List.length_filter_le _ _
  omega
end Go.Proofs.Ytdkmepjedjclkaa

/-
  THE PROGRAM READS A STORY (1): how it lies in memory, and the last test. Conditions: none.
-/
namespace Go.Proofs.Ytdkmepjedjclkaa
open Go.AM
open Go.Proofs.Try (prog)
set_option linter.all false
set_option maxRecDepth 10000
def slK (ids : Nat → Nat) (K : List (List (List Int))) (h : Nat) : AV := if kth K h = [] then .nils else .sl (ids h) 4 0 (kth K h).length ((kth K h).length * 4)
structure SAt (m : Mem) (sid : Nat) (ids : Nat → Nat) (n : Nat) (D : List Int) (K : List (List (List Int))) : Prop where
  st : ∃ V, m.h sid = some (.cells (.int .i64 n :: (ints D ++ V))) ∧ V.length = 4 ∧ ∀ h, h < 4 → vth V h = slK ids K h
  D4 : D.length = 4
  cl : ∀ h, h < 4 → kth K h ≠ [] → m.h (ids h) = some (.cells (flatC ints (kth K h)))
  slt : sid < m.nx
  lt : ∀ h, h < 4 → kth K h ≠ [] → ids h < m.nx
  ne : ∀ h, h < 4 → kth K h ≠ [] → ids h ≠ sid
  inj : ∀ g h, g < 4 → h < 4 → kth K g ≠ [] → kth K h ≠ [] → ids g = ids h → g = h
  four : ∀ h, Four (kth K h)
  few : ∀ h, (kth K h).length ≤ 6
theorem SAt.mono {m m' : Mem} {sid : Nat} {ids : Nat → Nat} {n : Nat} {D : List Int} {K : List (List (List Int))} (s : SAt m sid ids n D K) (hnx : m.nx ≤ m'.nx) (hh : ∀ id, id < m.nx → m'.h id = m.h id) : SAt m' sid ids n D K := by
  obtain ⟨V, h1, h2, h3⟩ := s.st
  exact ⟨⟨V, by rw [hh _ s.slt]; exact h1, h2, h3⟩, s.D4, fun h a b => by rw [hh _ (s.lt h a b)]; exact s.cl h a b, Nat.lt_of_lt_of_le s.slt hnx, fun h a b => Nat.lt_of_lt_of_le (s.lt h a b) hnx, s.ne, s.inj, s.four, s.few⟩
theorem SAt.at {m : Mem} {sid : Nat} {ids : Nat → Nat} {n : Nat} {D : List Int} {K : List (List (List Int))} (s : SAt m sid ids n D K) : ∃ V, m.h sid = some (.cells (.int .i64 n :: (ints D ++ V))) ∧ V.length = 4 ∧ (∀ h, h < 4 → (AV.int .i64 (n : Int) :: (ints D ++ V))[5 + h]? = some (slK ids K h)) ∧ (AV.int .i64 (n : Int) :: (ints D ++ V)).length = 9 := by
  obtain ⟨V, h1, h2, h3⟩ := s.st
  refine ⟨V, h1, h2, fun h hh => ?_, by simp [h2, s.D4]⟩
  rw [show 5 + h = (4 + h) + 1 by omega, List.getElem?_cons_succ, List.getElem?_append_right (by simp [s.D4])]
  simp only [ints_len, s.D4, Nat.add_sub_cancel_left]
  rw [vth_eq (by omega), h3 h hh]
theorem SAt.clock {m : Mem} {sid : Nat} {ids : Nat → Nat} {n : Nat} {D : List Int} {K : List (List (List Int))} (s : SAt m sid ids n D K) {h i : Nat} (hh : h < 4) (hi : i < (kth K h).length) :
    slK ids K h = .sl (ids h) 4 0 (kth K h).length ((kth K h).length * 4) ∧ loadO true 4 (i * 4) ((kth K h).length * 4) (m.h (ids h)) = some (.agg (ints (cth (kth K h) i))) := by
  have hne : kth K h ≠ [] := fun e => by rw [e] at hi; simp at hi
  refine ⟨by simp [slK, hne], ?_⟩
  have hc := s.cl h hh hne
  have hl : (flatC ints (kth K h)).length = (kth K h).length * 4 := flatC_len (s.four h).cells
  have hd : (flatC ints (kth K h)).drop (i * 4) = flatC ints ((kth K h).drop i) := flatC_drop i (s.four h).cells
  have hload := load_cut (s.four h) hi
  simp only [loadF_fptr, cond_true] at hload
  rw [hc]
  simp only [loadO_cells, hl, beq_self_eq_true, cond_true, hd]
  have hb : Nat.ble (i * 4 + 4) ((kth K h).length * 4) = true := by rw [Nat.ble_eq]; omega
  rw [hb, cond_true]
  cases hq : Nat.ble 4 (flatC ints ((kth K h).drop i)).length with
  | false => rw [hq] at hload; cases hload
  | true => rw [hq] at hload; simpa using hload
theorem contains_call {m : Mem} {sid : Nat} {ids : Nat → Nat} {n : Nat} {D : List Int} {K : List (List (List Int))} (s : SAt m sid ids n D K) {g : Nat} (hg : g < 4) {c : List Int} (hc : c.length = 4) :
    callA (fun g => (ann g).pure) (denC prog ann) 0 m (.fn 96 [] []) [slK ids K g, .agg (ints c)] = some (.bool (decide (c ∈ kth K g)), m) := by
  have hf := s.four g
  have hw := s.few g
  by_cases e : kth K g = []
  · have := contains_spec (v := .nils) (l := []) (c := c) IsSl.nils (fun _ h => by cases h) hc (by simp) Mem.empty
    simp [slK, e, this]
  · have := contains_spec (v := .fsl false (kth K g).length (flatC ints (kth K g))) (IsSl.fsl _ _) hf hc (by omega) Mem.empty
    have hl : (flatC ints (kth K g)).length = (kth K g).length * 4 := flatC_len hf.cells
    have hd := flatC_deep m.h 4 (f := ints) (fun a => mapO_ints m.h 4 a) (kth K g)
    have ht : (flatC ints (kth K g)).take ((kth K g).length * 4) = flatC ints (kth K g) := List.take_of_length_le (by omega)
    simp [slK, e, s.cl g hg e, hl, ht, hd, this, AV.flat, AV.flat1]
def badIn (K : List (List (List Int))) (n h g : Nat) (c : List Int) : Bool := (List.range' g (n - g)).any fun g => !decide (g = h) && decide (c ∈ kth K g)
def failR : Option Res := some (.tup [.nilp, .bool false], Mem.empty)
theorem chk_g {sid : Nat} {ids : Nat → Nat} {n : Nat} {D : List Int} {K : List (List (List Int))} (hn : n ≤ 4) {h i : Nat} (hi100 : i < 1000) {c : List Int} (hc : c.length = 4) (x190 : AV) (x191 : Nat) : ∀ (k g : Nat) (m : Mem), n - g ≤ k → g ≤ n → SAt m sid ids n D K →
    ∃ m', SAt m' sid ids n D K ∧ watch_read.L18 (.fptr [.int .i64 n]) (.sptr [.ptr sid 0 9]) (.int .i64 h) (.fptr (ints c)) (.int .i64 n) (.int .i64 h) x190 (.int .i64 x191) (.int .i64 i) (.int .i64 n) (.int .i64 g) m
        [.inBlock 17, .code watch_read.r57, .inLoop watch_read.l16, .inBlock 16, .inBlock 15, .code watch_read.r58, .inLoop watch_read.l14, .inBlock 14, .code watch_read.r59, .code .ret] =
      if badIn K n h g c then failR else watch_read.L16 (.fptr [.int .i64 n]) (.sptr [.ptr sid 0 9]) (.int .i64 h) (.int .i64 n) (.int .i64 h) x190 (.int .i64 x191) (.int .i64 ((i : Int) + 1)) m' [.inBlock 15, .code watch_read.r58, .inLoop watch_read.l14, .inBlock 14, .code watch_read.r59, .code .ret] := by
  have hwi : IntKind.wrap .i64 ((i : Int) + 1) = (i : Int) + 1 := wrap_id (by omega) (by omega)
  intro k
  induction k with
  | zero =>
    intro g m h1 h2 s
    have e : g = n := by omega
    subst e
    refine ⟨m, s, ?_⟩
    rw [watch_read.L18_eq]
    simp [badIn, hwi]
  | succ k ih =>
    intro g m h1 h2 s
    by_cases h3 : g < n
    · obtain ⟨V, v1, v2, v3, v4⟩ := s.at
      have hg4 : g < 4 := by omega
      have hcc := contains_call (m := ⟨m.h, m.nx + 13⟩) (s.mono (by simp) (fun _ _ => rfl)) hg4 hc
      have hcl := load_ints (r := []) hc
      simp only [List.append_nil] at hcl
      have hb : badIn K n h g c = ((!decide (g = h) && decide (c ∈ kth K g)) || badIn K n h (g + 1) c) := by
        simp only [badIn]
        rw [show n - g = (n - (g + 1)) + 1 by omega, List.range'_succ, List.any_cons]
      have hw : IntKind.wrap .i64 ((g : Int) + 1) = (g : Int) + 1 := wrap_id (by omega) (by omega)
      obtain ⟨m', i1, i2⟩ := ih (g + 1) ⟨m.h, m.nx + 13⟩ (by omega) (by omega) (s.mono (by simp) (fun _ _ => rfl))
      refine ⟨m', i1, ?_⟩
      rw [hb, watch_read.L18_eq]
      simp only [Int.natCast_add, Int.cast_ofNat_Int] at i2
      have v3' := v3 g hg4
      simp only [List.length_cons, List.length_append, ints_len] at v4
      have ht4 : c.take 4 = c := List.take_of_length_le (by omega)
      by_cases q1 : g = h
      · subst q1
        simp [h3, hw, i2]
      · have q1' : ¬ (g : Int) = h := by omega
        by_cases q2 : c ∈ kth K g
        · simp [h3, q1, q1', v1, v4, v3', hg4, hc, ht4, hcc, q2, failR]
        · simp [h3, q1, q1', v1, v4, v3', hg4, hc, ht4, hcc, q2, hw, i2]
    · have e : g = n := by omega
      subst e
      refine ⟨m, s, ?_⟩
      rw [watch_read.L18_eq]
      simp [badIn, hwi]
def badRow (K : List (List (List Int))) (n h i : Nat) : Bool := (List.range' i ((kth K h).length - i)).any fun i => !decide (nth (cth (kth K h) i) h = (i : Int) + 1) || badIn K n h 0 (cth (kth K h) i)
theorem chk_i {sid : Nat} {ids : Nat → Nat} {n : Nat} {D : List Int} {K : List (List (List Int))} (hn : n ≤ 4) {h : Nat} (hh : h < n) : ∀ (k i : Nat) (m : Mem), (kth K h).length - i ≤ k → i ≤ (kth K h).length → SAt m sid ids n D K →
    ∃ m', SAt m' sid ids n D K ∧ watch_read.L16 (.fptr [.int .i64 n]) (.sptr [.ptr sid 0 9]) (.int .i64 h) (.int .i64 n) (.int .i64 h) (slK ids K h) (.int .i64 ((kth K h).length : Nat)) (.int .i64 i) m [.inBlock 15, .code watch_read.r58, .inLoop watch_read.l14, .inBlock 14, .code watch_read.r59, .code .ret] =
      if badRow K n h i then failR else watch_read.L14 (.fptr [.int .i64 n]) (.sptr [.ptr sid 0 9]) (.int .i64 n) (.int .i64 ((h : Int) + 1)) m' [.code watch_read.r59, .code .ret] := by
  have hwh : IntKind.wrap .i64 ((h : Int) + 1) = (h : Int) + 1 := wrap_id (by omega) (by omega)
  intro k
  induction k with
  | zero =>
    intro i m h1 h2 s
    have e : i = (kth K h).length := by omega
    refine ⟨m, s, ?_⟩
    rw [watch_read.L16_eq]
    simp [badRow, e, hwh]
  | succ k ih =>
    intro i m h1 h2 s
    by_cases h3 : i < (kth K h).length
    · obtain ⟨c1, c2⟩ := s.clock (show h < 4 by omega) h3
      have hc : (cth (kth K h) i).length = 4 := s.four h _ (cth_mem h3)
      have hfew := s.few h
      have hb : badRow K n h i = ((!decide (nth (cth (kth K h) i) h = (i : Int) + 1) || badIn K n h 0 (cth (kth K h) i)) || badRow K n h (i + 1)) := by
        simp only [badRow]
        rw [show (kth K h).length - i = ((kth K h).length - (i + 1)) + 1 by omega, List.range'_succ, List.any_cons]
      have hw : IntKind.wrap .i64 ((i : Int) + 1) = (i : Int) + 1 := wrap_id (by omega) (by omega)
      have s1 : SAt ⟨upd m.h m.nx none, m.nx + 1⟩ sid ids n D K := s.mono (by simp) (fun id hid => by have : (id == m.nx) = false := by { simp; omega }; simp [this])
      obtain ⟨m1, j1, j2⟩ := chk_g hn (h := h) (i := i) (by omega) hc (slK ids K h) ((kth K h).length) n 0 ⟨upd m.h m.nx none, m.nx + 1⟩ (by omega) (by omega) s1
      obtain ⟨m', i1, i2⟩ := ih (i + 1) m1 (by omega) (by omega) j1
      refine ⟨m', i1, ?_⟩
      simp only [Int.natCast_add, Int.cast_ofNat_Int] at i2
      rw [i2] at j2
      rw [hb, watch_read.L16_eq]
      simp at j2
      have hh4 : h < (cth (kth K h) i).length := by omega
      rw [c1] at j2 ⊢
      by_cases q1 : nth (cth (kth K h) i) h = (i : Int) + 1
      · simp [h3, c2, hc, ints_head hh4, show h < 4 by omega, q1, hw, j2]
        by_cases q3 : badIn K n h 0 (cth (kth K h) i) = true <;> simp [q3]
      · simp [h3, c2, hc, ints_head hh4, show h < 4 by omega, q1, hw, failR]
    · have e : i = (kth K h).length := by omega
      refine ⟨m, s, ?_⟩
      rw [watch_read.L16_eq]
      simp [badRow, e, hwh]
def badAll (K : List (List (List Int))) (n h : Nat) : Bool := (List.range' h (n - h)).any fun h => badRow K n h 0
def valK (K : List (List (List Int))) (h : Nat) : AV := if kth K h = [] then .nils else .fsl false (kth K h).length (flatC ints (kth K h))
def vals4 (K : List (List (List Int))) : List AV := [valK K 0, valK K 1, valK K 2, valK K 3]
def okR (n : Nat) (D : List Int) (K : List (List (List Int))) : Option Res := some (.tup [.fptr (.int .i64 n :: (ints D ++ vals4 K)), .bool true], Mem.empty)
theorem deep_slK {m : Mem} {sid : Nat} {ids : Nat → Nat} {n : Nat} {D : List Int} {K : List (List (List Int))} (s : SAt m sid ids n D K) {h : Nat} (hh : h < 4) (d : Nat) : deep m.h (d + 2) (slK ids K h) = some (valK K h) := by
  by_cases e : kth K h = []
  · simp [slK, valK, e]
  · have hl : (flatC ints (kth K h)).length = (kth K h).length * 4 := flatC_len (s.four h).cells
    have hd := flatC_deep m.h d (f := ints) (fun a => mapO_ints m.h d a) (kth K h)
    have ht : (flatC ints (kth K h)).take ((kth K h).length * 4) = flatC ints (kth K h) := List.take_of_length_le (by omega)
    simp [slK, valK, e, s.cl h hh e, hl, ht, hd]
theorem chk_h {sid : Nat} {ids : Nat → Nat} {n : Nat} {D : List Int} {K : List (List (List Int))} (hn : n ≤ 4) : ∀ (k h : Nat) (m : Mem), n - h ≤ k → h ≤ n → SAt m sid ids n D K →
    watch_read.L14 (.fptr [.int .i64 n]) (.sptr [.ptr sid 0 9]) (.int .i64 n) (.int .i64 h) m [.code watch_read.r59, .code .ret] = if badAll K n h then failR else okR n D K := by
  have fin : ∀ (m : Mem), SAt m sid ids n D K → watch_read.L14 (.fptr [.int .i64 n]) (.sptr [.ptr sid 0 9]) (.int .i64 n) (.int .i64 n) m [.code watch_read.r59, .code .ret] = okR n D K := by
    intro m s
    obtain ⟨V, v1, v2, v3⟩ := s.st
    have hD4 := s.D4
    obtain ⟨a0, a1, a2, a3, rfl⟩ : ∃ a0 a1 a2 a3, V = [a0, a1, a2, a3] := by
      match V, v2 with
      | [a0, a1, a2, a3], _ => exact ⟨a0, a1, a2, a3, rfl⟩
    have e0 : a0 = slK ids K 0 := v3 0 (by omega)
    have e1 : a1 = slK ids K 1 := v3 1 (by omega)
    have e2 : a2 = slK ids K 2 := v3 2 (by omega)
    have e3 : a3 = slK ids K 3 := v3 3 (by omega)
    subst e0 e1 e2 e3
    rw [watch_read.L14_eq]
    simp [v1, hD4, mapO_append, deep_slK s (show 0 < 4 by omega) 2, deep_slK s (show 1 < 4 by omega) 2, deep_slK s (show 2 < 4 by omega) 2, deep_slK s (show 3 < 4 by omega) 2, okR, vals4]
  intro k
  induction k with
  | zero =>
    intro h m h1 h2 s
    have e : h = n := by omega
    subst e
    rw [fin m s]
    simp [badAll]
  | succ k ih =>
    intro h m h1 h2 s
    by_cases h3 : h < n
    · obtain ⟨V, v1, v2, v3, v4⟩ := s.at
      have hh4 : h < 4 := by omega
      simp only [List.length_cons, List.length_append, ints_len] at v4
      have v3' := v3 h hh4
      have hb : badAll K n h = (badRow K n h 0 || badAll K n (h + 1)) := by
        simp only [badAll]
        rw [show n - h = (n - (h + 1)) + 1 by omega, List.range'_succ, List.any_cons]
      obtain ⟨m', j1, j2⟩ := chk_i hn h3 (kth K h).length 0 m (by omega) (by omega) s
      have i2 := ih (h + 1) m' (by omega) (by omega) j1
      simp only [Int.natCast_add, Int.cast_ofNat_Int] at i2
      rw [i2] at j2
      simp at j2
      have hlen : lenSl (slK ids K h) = some (.int .i64 (kth K h).length) := by
        by_cases e : kth K h = [] <;> simp [slK, e]
      rw [hb, watch_read.L14_eq]
      simp [h3, v1, v4, v3', hh4, hlen, j2]
      by_cases q3 : badRow K n h 0 = true <;> simp [q3]
    · have e : h = n := by omega
      subst e
      rw [fin m s]
      simp [badAll]
end Go.Proofs.Ytdkmepjedjclkaa

/-
  THE PROGRAM READS A STORY (2): clocks grow. Conditions: none.
-/
namespace Go.Proofs.Ytdkmepjedjclkaa
open Go.AM
open Go.Proofs.Try (prog)
set_option linter.all false
set_option maxRecDepth 10000
def growK (K : List (List (List Int))) (h i : Nat) (c : List Int) : List (List (List Int)) := K.set h ((kth K h).set i (zmax (cth (kth K h) i) c))
def grows (K : List (List (List Int))) (h i : Nat) (c : List Int) : Bool := !decide (zmax (cth (kth K h) i) c = cth (kth K h) i)
theorem kth_set {K : List (List (List Int))} {h g : Nat} {r : List (List Int)} (hh : h < K.length) : kth (K.set h r) g = if g = h then r else kth K g := by
  simp only [kth, List.getD, List.getElem?_set]
  by_cases e : h = g
  · subst e; simp [hh]
  · have : ¬ g = h := fun x => e x.symm
    simp [e, this]
theorem set_same {α : Type} {l : List α} {i : Nat} {a : α} (h : l[i]? = some a) : l.set i a = l := by
  obtain ⟨h1, rfl⟩ := List.getElem?_eq_some_iff.1 h
  simp
theorem kth_some {K : List (List (List Int))} {h : Nat} (hh : h < K.length) : K[h]? = some (kth K h) := by
  rw [List.getElem?_eq_getElem hh]; simp [kth, List.getD, List.getElem?_eq_getElem hh]
theorem growK_same {K : List (List (List Int))} {h i : Nat} {c : List Int} (hh : h < K.length) (hi : i < (kth K h).length) (hg : grows K h i c = false) : growK K h i c = K := by
  have e : zmax (cth (kth K h) i) c = cth (kth K h) i := by simpa [grows] using hg
  unfold growK
  rw [e, set_same (cth_eq hi), set_same (kth_some hh)]
structure MAt (m : Mem) (sid : Nat) (ids : Nat → Nat) (n : Nat) (D : List Int) (K : List (List (List Int))) (mid : Nat) (mv : Bool) : Prop where
  s : SAt m sid ids n D K
  K4 : K.length = 4
  more : m.h mid = some (.cells [.bool mv])
  mlt : mid < m.nx
  ms : mid ≠ sid
  mi : ∀ h, h < 4 → kth K h ≠ [] → mid ≠ ids h
theorem MAt.mono {m m' : Mem} {sid : Nat} {ids : Nat → Nat} {n : Nat} {D : List Int} {K : List (List (List Int))} {mid : Nat} {mv : Bool} (s : MAt m sid ids n D K mid mv) (hnx : m.nx ≤ m'.nx) (hh : ∀ id, id < m.nx → m'.h id = m.h id) : MAt m' sid ids n D K mid mv :=
  ⟨s.s.mono hnx hh, s.K4, by rw [hh _ s.mlt]; exact s.more, Nat.lt_of_lt_of_le s.mlt hnx, s.ms, s.mi⟩
theorem grow_run {m : Mem} {sid : Nat} {ids : Nat → Nat} {n : Nat} {D : List Int} {K : List (List (List Int))} {mid : Nat} {mv : Bool} (s : MAt m sid ids n D K mid mv) {h i : Nat} (hh : h < 4) (hi : i < (kth K h).length) {c : List Int} (hc : c.length = 4) :
    ∃ m', denC prog ann 95 [.int .i64 h, .int .i64 i, .agg (ints c), .sptr [.ptr sid 0 9], .ptr mid 0 1] m = some (.tup [], m') ∧ MAt m' sid ids n D (growK K h i c) mid (mv || grows K h i c) ∧ m.nx ≤ m'.nx := by
  obtain ⟨V, v1, v2, v3, v4⟩ := s.s.at
  simp only [List.length_cons, List.length_append, ints_len] at v4
  have v3' := v3 h hh
  obtain ⟨c1, c2⟩ := s.s.clock hh hi
  have hne : kth K h ≠ [] := fun e => by rw [e] at hi; simp at hi
  have hc0 : (cth (kth K h) i).length = 4 := s.s.four h _ (cth_mem hi)
  have hj := join_spec hc0 hc Mem.empty
  have hz := zmax_len hc0 hc
  have hcm := s.s.cl h hh hne
  have hfl : (flatC ints (kth K h)).length = (kth K h).length * 4 := flatC_len (s.s.four h).cells
  have hlt := s.s.lt h hh hne
  have hslt := s.s.slt
  have hidsid := s.s.ne h hh hne
  have hmlt := s.mlt
  have n1 : (sid == m.nx + 11) = false := by simp; omega
  have n2 : (ids h == m.nx + 11) = false := by simp; omega
  have n3 : (mid == m.nx + 11) = false := by simp; omega
  have ht4 : c.take 4 = c := List.take_of_length_le (by omega)
  have hz4 : (zmax (cth (kth K h) i) c).take 4 = zmax (cth (kth K h) i) c := List.take_of_length_le (by omega)
  have hc04 : (cth (kth K h) i).take 4 = cth (kth K h) i := List.take_of_length_le (by omega)
  rw [watch_read_2.call_eq]
  rw [c1] at v3'
  by_cases hg : zmax (cth (kth K h) i) c = cth (kth K h) i
  · -- nothing new
    have hgr : grows K h i c = false := by simp [grows, hg]
    rw [growK_same (by rw [s.K4]; exact hh) hi hgr, hgr, Bool.or_false]
    refine ⟨⟨upd m.h (m.nx + 11) none, m.nx + 13 + 11⟩, ?_, s.mono (by simp; omega) (fun id hid => by have : (id == m.nx + 11) = false := by { simp; omega }; simp [this]), by simp; omega⟩
    simp [ht4, hc04, hc, v1, v4, v3', hh, hi, c2, hj, hc0, hz, hz4, n1, n2, hg, neq99 hc0 hc0, hc0]
  · have hgr : grows K h i c = true := by simp [grows, hg]
    rw [hgr, Bool.or_true]
    have hs := flatC_set (f := ints) (k := 4) (l := kth K h) (i := i) (a := zmax (cth (kth K h) i) c) (s.s.four h).cells (by simp [hz]) hi
    simp [hz] at hs
    have hmi := s.mi h hh hne
    have hms := s.ms
    have n4 : (mid == ids h) = false := by simpa using hmi
    have n5 : (sid == ids h) = false := by simpa using (fun e => hidsid e.symm)
    have n6 : (ids h == mid) = false := by simpa using (fun e => hmi e.symm)
    have n7 : (sid == mid) = false := by simpa using (fun e => hms e.symm)
    have hb : i * 4 + 4 ≤ (kth K h).length * 4 := by omega
    have htd : ((flatC ints (kth K h)).drop (i * 4)).take 4 = ints (cth (kth K h) i) := by
      rw [flatC_drop i (s.s.four h).cells, flatC_at (cth_eq hi)]; exact List.take_left' (by simp [hc0])
    refine ⟨⟨upd (upd (upd m.h (m.nx + 11) none) (ids h) (some (.cells (flatC ints ((kth K h).set i (zmax (cth (kth K h) i) c)))))) mid (some (.cells [.bool true])), m.nx + 13 + 11 + 11⟩, ?_, ?_, by simp; omega⟩
    · simp [ht4, hc, v1, v4, v3', hh, hi, c2, hj, hc0, hz, hz4, n1, n2, n3, n4, hg, neq99 hz hc0, hcm, hfl, hs, hb, htd, s.more]
    · obtain ⟨V, w1, w2, w3⟩ := s.s.st
      have hk := fun g => kth_set (K := K) (h := h) (g := g) (r := (kth K h).set i (zmax (cth (kth K h) i) c)) (by rw [s.K4]; exact hh)
      have hkn : ∀ g, kth (growK K h i c) g = [] ↔ kth K g = [] := by
        intro g
        rw [growK, hk]
        split
        · rename_i e; subst e; simp
        · rfl
      have hkl : ∀ g, (kth (growK K h i c) g).length = (kth K g).length := by
        intro g
        rw [growK, hk]
        split
        · rename_i e; subst e; simp
        · rfl
      have hsl : ∀ g, slK ids (growK K h i c) g = slK ids K g := by
        intro g; simp only [slK, hkl, hkn]
      refine ⟨⟨⟨V, ?_, w2, fun g hg' => by rw [hsl]; exact w3 g hg'⟩, s.s.D4, fun g hg' hne' => ?_, by simp; omega, fun g hg' hne' => ?_, fun g hg' hne' => s.s.ne g hg' (by rwa [ne_eq, hkn] at hne'), fun g g' a b c' d' => s.s.inj g g' a b (by rwa [ne_eq, hkn] at c') (by rwa [ne_eq, hkn] at d'), fun g => ?_, fun g => by rw [hkl]; exact s.s.few g⟩, by simp [growK, s.K4], by simp, by simp; omega, s.ms, fun g hg' hne' => s.mi g hg' (by rwa [ne_eq, hkn] at hne')⟩
      · simp [n1, n5, n7, w1]
      · rw [ne_eq, hkn] at hne'
        have m1 : (ids g == mid) = false := by simpa using (fun e => s.mi g hg' hne' e.symm)
        by_cases e : g = h
        · subst e
          simp only [growK, hk, if_true]
          simp [m1]
        · have m2 : (ids g == ids h) = false := by simpa using (fun e' => e (s.s.inj g h hg' hh hne' hne e'))
          have m3 : (ids g == m.nx + 11) = false := by have := s.s.lt g hg' hne'; simp; omega
          have : kth (growK K h i c) g = kth K g := by rw [growK, hk, if_neg e]
          rw [this]
          simp [m1, m2, m3, s.s.cl g hg' hne']
      · rw [ne_eq, hkn] at hne'
        have := s.s.lt g hg' hne'
        simp; omega
      · rw [growK, hk]
        split
        · intro x hx
          rcases List.mem_or_eq_of_mem_set hx with hx | rfl
          · exact s.s.four h x hx
          · exact hz
        · exact s.s.four g
end Go.Proofs.Ytdkmepjedjclkaa

/-
  THE PROGRAM READS A STORY (3): clocks grow till all messages are in order: the least clocks. Conditions: none.
-/
namespace Go.Proofs.Ytdkmepjedjclkaa
open Go.AM
open Go.Proofs.Try (prog)
set_option linter.all false
set_option maxRecDepth 10000
structure Super (D : List Int) (N : List Note) (V : Nat → Nat → Nat → Int) : Prop where
  unit : ∀ (h i : Nat), (i : Int) < nth D h → (i : Int) + 1 ≤ V h i h
  pos : ∀ h i g, 0 ≤ V h i g
  own : ∀ (h i g : Nat), (i : Int) + 1 < nth D h → V h i g ≤ V h (i + 1) g
  note : ∀ x ∈ N, ∀ g, V x.f.toNat (x.s.toNat - 1) g ≤ V x.t.toNat (x.r.toNat - 1) g
structure Inv (D : List Int) (N : List Note) (K : List (List (List Int))) : Prop where
  rows : ∀ h, h < D.length → ((kth K h).length : Int) = nth D h
  none : ∀ h, D.length ≤ h → kth K h = []
  low : ∀ V, Super D N V → ∀ h i, i < (kth K h).length → ∀ g, nth (cth (kth K h) i) g ≤ V h i g
  unit : ∀ (h i : Nat), i < (kth K h).length → (i : Int) + 1 ≤ nth (cth (kth K h) i) h
  pos : ∀ h i, i < (kth K h).length → ∀ g, 0 ≤ nth (cth (kth K h) i) g
theorem nth_zmax {a b : List Int} (hl : a.length = b.length) (g : Nat) : nth (zmax a b) g = max (nth a g) (nth b g) := by
  simp only [nth, List.getD, zmax, List.getElem?_zipWith]
  rcases Nat.lt_or_ge g a.length with h | h
  · simp [List.getElem?_eq_getElem h, List.getElem?_eq_getElem (show g < b.length by omega)]
  · simp [List.getElem?_eq_none h, List.getElem?_eq_none (show b.length ≤ g by omega)]
theorem Inv.grow {D : List Int} {N : List Note} {K : List (List (List Int))} (I : Inv D N K) (hK : K.length = 4) (hf : ∀ h, Four (kth K h)) {h i : Nat} (hh : h < 4) (hi : i < (kth K h).length) {c : List Int} (hc : c.length = 4)
    (hl : ∀ V, Super D N V → ∀ g, nth c g ≤ V h i g) : Inv D N (growK K h i c) := by
  have hk := fun g => kth_set (K := K) (h := h) (g := g) (r := (kth K h).set i (zmax (cth (kth K h) i) c)) (by rw [hK]; exact hh)
  have hkl : ∀ g, (kth (growK K h i c) g).length = (kth K g).length := by
    intro g; rw [growK, hk]; split
    · rename_i e; subst e; simp
    · rfl
  have hc0 : (cth (kth K h) i).length = 4 := hf h _ (cth_mem hi)
  have hcth : ∀ g j, j < (kth K g).length → cth (kth (growK K h i c) g) j = if g = h ∧ j = i then zmax (cth (kth K h) i) c else cth (kth K g) j := by
    intro g j hj
    rw [growK, hk]
    by_cases e : g = h
    · subst e
      simp only [if_true, true_and]
      simp only [cth, List.getD, List.getElem?_set]
      by_cases e2 : i = j
      · subst e2; simp [hi]
      · have : ¬ j = i := fun x => e2 x.symm
        simp [e2, this]
    · simp [e]
  refine ⟨fun g hg => by rw [hkl]; exact I.rows g hg, fun g hg => List.length_eq_zero_iff.1 (by rw [hkl, I.none g hg]; rfl), fun V hV g j hj q => ?_, fun g j hj => ?_, fun g j hj q => ?_⟩
  · rw [hkl] at hj
    rw [hcth g j hj]
    split
    · rename_i e; obtain ⟨rfl, rfl⟩ := e
      rw [nth_zmax (by rw [hc0, hc])]
      have := I.low V hV g j hj q; have := hl V hV q; omega
    · exact I.low V hV g j hj q
  · rw [hkl] at hj
    rw [hcth g j hj]
    split
    · rename_i e; obtain ⟨rfl, rfl⟩ := e
      rw [nth_zmax (by rw [hc0, hc])]
      have := I.unit g j hj; omega
    · exact I.unit g j hj
  · rw [hkl] at hj
    rw [hcth g j hj]
    split
    · rename_i e; obtain ⟨rfl, rfl⟩ := e
      rw [nth_zmax (by rw [hc0, hc])]
      have := I.pos g j hj q; omega
    · exact I.pos g j hj q
def tot (K : List (List (List Int))) : Int := (K.map fun r => (r.map List.sum).sum).sum
theorem map_sum_set {α : Type} (f : α → Int) : ∀ (l : List α) (i : Nat) (a b : α), l[i]? = some b → ((l.set i a).map f).sum = (l.map f).sum - f b + f a
  | [], i, a, b, h => by simp at h
  | x :: l, 0, a, b, h => by simp at h; subst h; simp; omega
  | x :: l, i + 1, a, b, h => by
    have := map_sum_set f l i a b (by simpa using h)
    simp only [List.set_cons_succ, List.map_cons, List.sum_cons, this]; omega
theorem zmax_sum : ∀ (a b : List Int), a.length = b.length → a.sum ≤ (zmax a b).sum ∧ (zmax a b ≠ a → a.sum < (zmax a b).sum)
  | [], [], _ => ⟨by simp [zmax], fun h => absurd rfl h⟩
  | x :: a, y :: b, h => by
    obtain ⟨h1, h2⟩ := zmax_sum a b (by simpa using h)
    simp only [zmax, List.zipWith_cons_cons, List.sum_cons] at h1 h2 ⊢
    refine ⟨by omega, fun hne => ?_⟩
    by_cases e : max x y = x
    · have : List.zipWith max a b ≠ a := fun e2 => hne (by rw [e, e2])
      have := h2 this
      omega
    · omega
theorem tot_grow {K : List (List (List Int))} (hK : K.length = 4) (hf : ∀ h, Four (kth K h)) {h i : Nat} (hh : h < 4) (hi : i < (kth K h).length) {c : List Int} (hc : c.length = 4) :
    (grows K h i c = false → growK K h i c = K) ∧ (grows K h i c = true → tot K < tot (growK K h i c)) := by
  refine ⟨growK_same (by rw [hK]; exact hh) hi, fun hg => ?_⟩
  have hc0 : (cth (kth K h) i).length = 4 := hf h _ (cth_mem hi)
  have hne : zmax (cth (kth K h) i) c ≠ cth (kth K h) i := by simpa [grows] using hg
  have h1 := (zmax_sum (cth (kth K h) i) c (by rw [hc0, hc])).2 hne
  have h2 := map_sum_set (fun r : List (List Int) => (r.map List.sum).sum) K h ((kth K h).set i (zmax (cth (kth K h) i) c)) (kth K h) (kth_some (by rw [hK]; exact hh))
  have h3 := map_sum_set (List.sum : List Int → Int) (kth K h) i (zmax (cth (kth K h) i) c) (cth (kth K h) i) (cth_eq hi)
  simp only [tot, growK]
  rw [h2, h3]
  omega
def Prog (K0 K : List (List (List Int))) (mv : Bool) (E : Prop) : Prop := (mv = false ∧ K = K0 ∧ E) ∨ (mv = true ∧ tot K0 < tot K)
theorem Prog.step {K0 K : List (List (List Int))} {mv : Bool} {E E' : Prop} (p : Prog K0 K mv E) (hK : K.length = 4) (hf : ∀ h, Four (kth K h)) {h i : Nat} (hh : h < 4) (hi : i < (kth K h).length) {c : List Int} (hc : c.length = 4)
    (hE : E → K = K0 → grows K0 h i c = false → E') : Prog K0 (growK K h i c) (mv || grows K h i c) E' := by
  obtain ⟨t1, t2⟩ := tot_grow hK hf hh hi hc
  cases hg : grows K h i c with
  | false =>
    rw [t1 hg, Bool.or_false]
    rcases p with ⟨a, b, e⟩ | p
    · subst b; exact .inl ⟨a, rfl, hE e rfl hg⟩
    · exact .inr p
  | true =>
    have := t2 hg
    rw [Bool.or_true]
    rcases p with ⟨a, b, e⟩ | ⟨a, b⟩
    · subst b; exact .inr ⟨rfl, this⟩
    · exact .inr ⟨rfl, by omega⟩
theorem Prog.weak {K0 K : List (List (List Int))} {mv : Bool} {E E' : Prop} (p : Prog K0 K mv E) (h : E → E') : Prog K0 K mv E' := p.imp (fun ⟨a, b, c⟩ => ⟨a, b, h c⟩) fun h => h
def okOwn (K : List (List (List Int))) (h i : Nat) : Prop := grows K h i (cth (kth K h) (i - 1)) = false
def okNote (K : List (List (List Int))) (x : Note) : Prop := grows K x.t.toNat (x.r.toNat - 1) (cth (kth K x.f.toNat) (x.s.toNat - 1)) = false
structure Pre (D : List Int) (N : List Note) : Prop where
  L : Lims D N
  notes : ∀ x ∈ N, NoteIn D x
noncomputable def t6 : List Item := [.inBlock 7, .code watch_read.r41, .code watch_read.r42, .inLoop watch_read.l6, .inBlock 6, .code watch_read.r43, .code watch_read.k14, .code watch_read.r59, .code .ret]
theorem own_loop {vD vN : AV} {D D4 : List Int} {N : List Note} (hD : IsInts vD D) (P : Pre D N) {sid : Nat} {ids : Nat → Nat} {mid : Nat} {K0 : List (List (List Int))} {h : Nat} (hh : h < D.length) : ∀ (k i : Nat) (m : Mem) (K : List (List (List Int))) (mv : Bool) (E : Prop), (nth D h).toNat - i ≤ k → 1 ≤ i →
    MAt m sid ids D.length D4 K mid mv → Inv D N K → Prog K0 K mv E →
    ∃ m' K' mv', watch_read.L10 (.fptr [vD, vN]) (.fptr [.int .i64 D.length]) (.sptr [.ptr sid 0 9]) (.ptr mid 0 1) (.fn 95 [] [.sptr [.ptr sid 0 9], .ptr mid 0 1]) (.int .i64 h) (.int .i64 i) (.int .i64 D.length) (.int .i64 h) m (.inBlock 9 :: .code watch_read.r35 :: .inLoop watch_read.l8 :: .inBlock 8 :: .code watch_read.r36 :: .code watch_read.k12 :: t6) =
        watch_read.L8 (.fptr [vD, vN]) (.fptr [.int .i64 D.length]) (.sptr [.ptr sid 0 9]) (.ptr mid 0 1) (.fn 95 [] [.sptr [.ptr sid 0 9], .ptr mid 0 1]) (.int .i64 D.length) (.int .i64 ((h : Int) + 1)) m' (.code watch_read.r36 :: .code watch_read.k12 :: t6) ∧
      MAt m' sid ids D.length D4 K' mid mv' ∧ Inv D N K' ∧ Prog K0 K' mv' (E ∧ ∀ j, i ≤ j → (j : Int) < nth D h → okOwn K0 h j) := by
  have hn4 := P.L.n4
  have hwh : IntKind.wrap .i64 ((h : Int) + 1) = (h : Int) + 1 := wrap_id (by omega) (by omega)
  have hpos := P.L.lo h
  have h6 := P.L.hi h
  intro k
  induction k with
  | zero =>
    intro i m K mv E hk h1 s I p
    refine ⟨m, K, mv, ?_, s, I, p.weak fun e => ⟨e, fun j h2 h3 => by omega⟩⟩
    rw [watch_read.L10_eq]
    have hni : ¬ (i : Int) < nth D h := by omega
    simp [hD.idx hh, ints_head hh, hni, hwh, t6]
  | succ k ih =>
    intro i m K mv E hk h1 s I p
    by_cases h3 : (i : Int) < nth D h
    · have hr := I.rows h hh
      have hi : i < (kth K h).length := by omega
      have hi1 : i - 1 < (kth K h).length := by omega
      have hh4 : h < 4 := by omega
      have hc : (cth (kth K h) (i - 1)).length = 4 := s.s.four h _ (cth_mem hi1)
      obtain ⟨V, v1, v2, v3, v4⟩ := s.s.at
      simp only [List.length_cons, List.length_append, ints_len] at v4
      have v3' := v3 h hh4
      obtain ⟨c1, c2⟩ := s.s.clock hh4 hi1
      rw [c1] at v3'
      have hw1 : IntKind.wrap .i64 ((i : Int) - 1) = ((i - 1 : Nat) : Int) := by rw [wrap_id (by omega) (by omega)]; omega
      have hwi : IntKind.wrap .i64 ((i : Int) + 1) = (i : Int) + 1 := wrap_id (by omega) (by omega)
      obtain ⟨m1, g1, g2, g3⟩ := grow_run s hh4 hi hc
      have I1 : Inv D N (growK K h i (cth (kth K h) (i - 1))) := I.grow s.K4 s.s.four hh4 hi hc fun V hV g => by
        have e1 := I.low V hV h (i - 1) hi1 g
        have e2 := hV.own h (i - 1) g (by omega)
        rw [show i - 1 + 1 = i by omega] at e2
        omega
      have p1 := p.step s.K4 s.s.four hh4 hi hc (E' := E ∧ okOwn K0 h i) fun e eK hg => ⟨e, by subst eK; exact hg⟩
      obtain ⟨m', K', mv', i1, i2, i3, i4⟩ := ih (i + 1) m1 _ _ _ (by omega) (by omega) g2 I1 p1
      refine ⟨m', K', mv', ?_, i2, i3, i4.weak fun ⟨⟨e1, e2⟩, e3⟩ => ⟨e1, fun j h4 h5 => ?_⟩⟩
      · rw [← i1, watch_read.L10_eq]
        simp [hD.idx hh, ints_head hh, h3, v1, v4, v3', hh4, hw1, hi1, c2, g1, hwi]
      · by_cases e : j = i
        · subst e; exact e2
        · exact e3 j (by omega) h5
    · refine ⟨m, K, mv, ?_, s, I, p.weak fun e => ⟨e, fun j h2 h3 => by omega⟩⟩
      rw [watch_read.L10_eq]
      simp [hD.idx hh, ints_head hh, h3, hwh, t6]
theorem hand_loop {vD vN : AV} {D D4 : List Int} {N : List Note} (hD : IsInts vD D) (P : Pre D N) {sid : Nat} {ids : Nat → Nat} {mid : Nat} {K0 : List (List (List Int))} : ∀ (k h : Nat) (m : Mem) (K : List (List (List Int))) (mv : Bool) (E : Prop), h + k = D.length →
    MAt m sid ids D.length D4 K mid mv → Inv D N K → Prog K0 K mv E →
    ∃ m' K' mv', watch_read.L8 (.fptr [vD, vN]) (.fptr [.int .i64 D.length]) (.sptr [.ptr sid 0 9]) (.ptr mid 0 1) (.fn 95 [] [.sptr [.ptr sid 0 9], .ptr mid 0 1]) (.int .i64 D.length) (.int .i64 h) m (.code watch_read.r36 :: .code watch_read.k12 :: t6) =
        watch_read.L8 (.fptr [vD, vN]) (.fptr [.int .i64 D.length]) (.sptr [.ptr sid 0 9]) (.ptr mid 0 1) (.fn 95 [] [.sptr [.ptr sid 0 9], .ptr mid 0 1]) (.int .i64 D.length) (.int .i64 D.length) m' (.code watch_read.r36 :: .code watch_read.k12 :: t6) ∧
      MAt m' sid ids D.length D4 K' mid mv' ∧ Inv D N K' ∧ Prog K0 K' mv' (E ∧ ∀ (g j : Nat), h ≤ g → g < D.length → 1 ≤ j → (j : Int) < nth D g → okOwn K0 g j) := by
  have hn4 := P.L.n4
  intro k
  induction k with
  | zero =>
    intro h m K mv E hk s I p
    have e : h = D.length := by omega
    subst e
    exact ⟨m, K, mv, rfl, s, I, p.weak fun e => ⟨e, fun g j h2 h3 => by omega⟩⟩
  | succ k ih =>
    intro h m K mv E hk s I p
    have hh : h < D.length := by omega
    obtain ⟨m1, K1, mv1, a1, a2, a3, a4⟩ := own_loop hD P (vN := vN) (sid := sid) (ids := ids) (mid := mid) (D4 := D4) (K0 := K0) hh _ 1 m K mv E (Nat.le_refl _) (by omega) s I p
    obtain ⟨m', K', mv', i1, i2, i3, i4⟩ := ih (h + 1) m1 K1 mv1 _ (by omega) a2 a3 a4
    refine ⟨m', K', mv', ?_, i2, i3, i4.weak fun ⟨⟨e1, e2⟩, e3⟩ => ⟨e1, fun g j h2 h3 h4 h5 => ?_⟩⟩
    · rw [← i1, watch_read.L8_eq]
      simp at a1
      simp [hh, a1]
    · by_cases e : g = h
      · subst e; exact e2 j h4 h5
      · exact e3 g j (by omega) h3 h4 h5
theorem note_loop {vD vN : AV} {D D4 : List Int} {N : List Note} (hN : IsSl noteC vN N) (P : Pre D N) {sid : Nat} {ids : Nat → Nat} {mid : Nat} {K0 : List (List (List Int))} : ∀ (k i : Nat) (m : Mem) (K : List (List (List Int))) (mv : Bool) (E : Prop), N.length - i ≤ k → i ≤ N.length →
    MAt m sid ids D.length D4 K mid mv → Inv D N K → Prog K0 K mv E →
    ∃ m' K' mv', watch_read.L12 (.fptr [vD, vN]) (.fptr [.int .i64 D.length]) (.sptr [.ptr sid 0 9]) (.ptr mid 0 1) (.fn 95 [] [.sptr [.ptr sid 0 9], .ptr mid 0 1]) vN (.int .i64 N.length) (.int .i64 i) m t6 =
        watch_read.L12 (.fptr [vD, vN]) (.fptr [.int .i64 D.length]) (.sptr [.ptr sid 0 9]) (.ptr mid 0 1) (.fn 95 [] [.sptr [.ptr sid 0 9], .ptr mid 0 1]) vN (.int .i64 N.length) (.int .i64 N.length) m' t6 ∧
      MAt m' sid ids D.length D4 K' mid mv' ∧ Inv D N K' ∧ Prog K0 K' mv' (E ∧ ∀ x ∈ N.drop i, okNote K0 x) := by
  have hn4 := P.L.n4
  have h24 := P.L.N24
  intro k
  induction k with
  | zero =>
    intro i m K mv E hk h1 s I p
    have e : i = N.length := by omega
    subst e
    exact ⟨m, K, mv, rfl, s, I, p.weak fun e => ⟨e, fun x hx => by simp at hx⟩⟩
  | succ k ih =>
    intro i m K mv E hk h1 s I p
    by_cases h3 : i < N.length
    · have hx := P.notes _ (nt_mem h3)
      obtain ⟨f0, f1, t0, t1, ne, s0, s1, r0, r1⟩ := hx
      have hlf := P.L.hi (nt N i).f.toNat
      have hlt := P.L.hi (nt N i).t.toNat
      have rf := I.rows (nt N i).f.toNat (by omega)
      have rt := I.rows (nt N i).t.toNat (by omega)
      have if1 : (nt N i).s.toNat - 1 < (kth K (nt N i).f.toNat).length := by omega
      have it1 : (nt N i).r.toNat - 1 < (kth K (nt N i).t.toNat).length := by omega
      have hf4 : (nt N i).f.toNat < 4 := by omega
      have ht4 : (nt N i).t.toNat < 4 := by omega
      have hc : (cth (kth K (nt N i).f.toNat) ((nt N i).s.toNat - 1)).length = 4 := s.s.four _ _ (cth_mem if1)
      have s1' : MAt ⟨upd m.h m.nx none, m.nx + 1 + 19⟩ sid ids D.length D4 K mid mv := s.mono (by simp; omega) (fun id hid => by have : (id == m.nx) = false := by { simp; omega }; simp [this])
      obtain ⟨V, v1, v2, v3, v4⟩ := s1'.s.at
      simp only [List.length_cons, List.length_append, ints_len] at v4
      have v3' := v3 _ hf4
      obtain ⟨c1, c2⟩ := s1'.s.clock hf4 if1
      rw [c1] at v3'
      have hws : IntKind.wrap .i64 ((nt N i).s - 1) = (((nt N i).s.toNat - 1 : Nat) : Int) := by rw [wrap_id (by omega) (by omega)]; omega
      have hwr : IntKind.wrap .i64 ((nt N i).r - 1) = (((nt N i).r.toNat - 1 : Nat) : Int) := by rw [wrap_id (by omega) (by omega)]; omega
      have hwi : IntKind.wrap .i64 ((i : Int) + 1) = (i : Int) + 1 := wrap_id (by omega) (by omega)
      have et : (((nt N i).t.toNat : Nat) : Int) = (nt N i).t := by omega
      obtain ⟨m1, g1, g2, g3⟩ := grow_run s1' ht4 it1 hc
      rw [et] at g1
      have I1 : Inv D N (growK K (nt N i).t.toNat ((nt N i).r.toNat - 1) (cth (kth K (nt N i).f.toNat) ((nt N i).s.toNat - 1))) := I.grow s.K4 s.s.four ht4 it1 hc fun V hV g => by
        have e1 := I.low V hV _ _ if1 g
        have e2 := hV.note _ (nt_mem h3) g
        omega
      have p1 := p.step s.K4 s.s.four ht4 it1 hc (E' := E ∧ okNote K0 (nt N i)) fun e eK hg => ⟨e, by subst eK; exact hg⟩
      obtain ⟨m', K', mv', i1, i2, i3, i4⟩ := ih (i + 1) m1 _ _ _ (by omega) (by omega) g2 I1 p1
      refine ⟨m', K', mv', ?_, i2, i3, i4.weak fun ⟨⟨e1, e2⟩, e3⟩ => ⟨e1, fun x hx => ?_⟩⟩
      · rw [← i1, watch_read.L12_eq]
        have hf5 : (decide (0 ≤ (nt N i).f) && decide ((nt N i).f < 4)) = true := by simp; omega
        simp at v1 c2
        simp [h3, hN.idx (noteC_len N) h3, load_note h3, noteC, hws, hwr, f0, show (nt N i).f < 4 by omega, v1, v4, v3', if1, c2, g1, hwi]
      · rw [drop_nt h3] at hx
        rcases List.mem_cons.1 hx with rfl | hx
        · exact e2
        · exact e3 x hx
    · have e : i = N.length := by omega
      subst e
      exact ⟨m, K, mv, rfl, s, I, p.weak fun e => ⟨e, fun x hx => by simp at hx⟩⟩
def Closed (D : List Int) (N : List Note) (K : List (List (List Int))) : Prop := (∀ (g j : Nat), g < D.length → 1 ≤ j → (j : Int) < nth D g → okOwn K g j) ∧ ∀ x ∈ N, okNote K x
theorem sum_bound {B : Int} (hB : 0 ≤ B) : ∀ (l : List Int), (∀ x ∈ l, x ≤ B) → l.sum ≤ l.length * B
  | [], _ => by simp
  | x :: l, h => by
    have h1 := h x (by simp)
    have h2 := sum_bound hB l (fun y hy => h y (by simp [hy]))
    simp only [List.sum_cons, List.length_cons, Int.natCast_add, Int.add_mul]
    omega
theorem Inv.tot {D : List Int} {N : List Note} {K : List (List (List Int))} (I : Inv D N K) (L : Lims D N) (hK : K.length = 4) (hf : ∀ h, Four (kth K h)) (h6 : ∀ h, (kth K h).length ≤ 6) : Proofs.Ytdkmepjedjclkaa.tot K ≤ 576 := by
  have hV : Super D N (fun h i g => nth D g) := ⟨fun h i hi => by omega, fun h i g => L.lo g, fun _ _ _ _ => Int.le_refl _, fun _ _ _ => Int.le_refl _⟩
  have hc : ∀ h, ∀ c ∈ kth K h, c.sum ≤ 24 := by
    intro h c hc
    obtain ⟨i, hi, rfl⟩ := List.mem_iff_getElem.1 hc
    have e : (kth K h)[i] = cth (kth K h) i := by simp [cth, List.getD, List.getElem?_eq_getElem hi]
    rw [e]
    have h4 := hf h _ (cth_mem hi)
    have := sum_bound (B := 6) (by omega) (cth (kth K h) i) (fun x hx => by
      obtain ⟨g, hg, rfl⟩ := List.mem_iff_getElem.1 hx
      rw [nth_get hg]
      have h1 := I.low _ hV h i hi g
      have h2 := L.hi g
      omega)
    omega
  have hr : ∀ r ∈ K, (r.map List.sum).sum ≤ 144 := by
    intro r hr
    obtain ⟨h, hh, rfl⟩ := List.mem_iff_getElem.1 hr
    have e : K[h] = kth K h := by simp [kth, List.getD, List.getElem?_eq_getElem hh]
    rw [e]
    have := sum_bound (B := 24) (by omega) ((kth K h).map List.sum) (fun x hx => by
      obtain ⟨c, h1, rfl⟩ := List.mem_map.1 hx
      exact hc h c h1)
    have h2 := h6 h
    rw [List.length_map] at this
    omega
  have := sum_bound (B := 144) (by omega) (K.map fun r => (r.map List.sum).sum) (fun x hx => by
    obtain ⟨r, h1, rfl⟩ := List.mem_map.1 hx
    exact hr r h1)
  rw [List.length_map, hK] at this
  exact this
theorem sweepK {vD vN : AV} {D D4 : List Int} {N : List Note} (hD : IsInts vD D) (hN : IsSl noteC vN N) (P : Pre D N) {sid : Nat} {ids : Nat → Nat} {mid : Nat} {m : Mem} {K : List (List (List Int))} (s : MAt m sid ids D.length D4 K mid true) (I : Inv D N K) :
    ∃ m' K' mv' mid', watch_read.L6 (.fptr [vD, vN]) (.fptr [.int .i64 D.length]) (.sptr [.ptr sid 0 9]) (.ptr mid 0 1) m [.code watch_read.r43, .code watch_read.k14, .code watch_read.r59, .code .ret] =
        watch_read.L6 (.fptr [vD, vN]) (.fptr [.int .i64 D.length]) (.sptr [.ptr sid 0 9]) (.ptr mid' 0 1) m' [.code watch_read.r43, .code watch_read.k14, .code watch_read.r59, .code .ret] ∧
      MAt m' sid ids D.length D4 K' mid' mv' ∧ Inv D N K' ∧ Prog K K' mv' (Closed D N K) := by
  have s0 : MAt ⟨upd m.h mid (some (.cells [.bool false])), m.nx⟩ sid ids D.length D4 K mid false := by
    obtain ⟨V, w1, w2, w3⟩ := s.s.st
    have n1 : (sid == mid) = false := by simpa using (fun e => s.ms e.symm)
    refine ⟨⟨⟨V, by simpa [n1] using w1, w2, w3⟩, s.s.D4, fun h a b => ?_, s.s.slt, s.s.lt, s.s.ne, s.s.inj, s.s.four, s.s.few⟩, s.K4, by simp, s.mlt, s.ms, s.mi⟩
    have n2 : (ids h == mid) = false := by simpa using (fun e => s.mi h a b e.symm)
    simpa [n2] using s.s.cl h a b
  obtain ⟨m1, K1, mv1, a1, a2, a3, a4⟩ := hand_loop hD P (vN := vN) (sid := sid) (ids := ids) (mid := mid) (D4 := D4) (K0 := K) D.length 0 _ K false True (by omega) s0 I (.inl ⟨rfl, rfl, trivial⟩)
  obtain ⟨m2, K2, mv2, b1, b2, b3, b4⟩ := note_loop (vD := vD) hN P (sid := sid) (ids := ids) (mid := mid) (D4 := D4) (K0 := K) N.length 0 m1 K1 mv1 _ (by omega) (by omega) a2 a3 a4
  refine ⟨⟨upd m2.h m2.nx (some (.cells [.bool mv2])), m2.nx + 1⟩, K2, mv2, m2.nx, ?_, ?_, b3, b4.weak fun ⟨⟨_, e1⟩, e2⟩ => ⟨fun g j hg h1 h2 => e1 g j (by omega) hg h1 h2, by simpa using e2⟩⟩
  · -- the end of the first part leads to the second one; the end of the second one leads to the next sweep
    have x1 : watch_read.L8 (.fptr [vD, vN]) (.fptr [.int .i64 D.length]) (.sptr [.ptr sid 0 9]) (.ptr mid 0 1) (.fn 95 [] [.sptr [.ptr sid 0 9], .ptr mid 0 1]) (.int .i64 D.length) (.int .i64 D.length) m1 (.code watch_read.r36 :: .code watch_read.k12 :: t6) =
        watch_read.L12 (.fptr [vD, vN]) (.fptr [.int .i64 D.length]) (.sptr [.ptr sid 0 9]) (.ptr mid 0 1) (.fn 95 [] [.sptr [.ptr sid 0 9], .ptr mid 0 1]) vN (.int .i64 N.length) (.int .i64 0) m1 t6 := by
      rw [watch_read.L8_eq]
      simp [hN.len]
    have x2 : watch_read.L12 (.fptr [vD, vN]) (.fptr [.int .i64 D.length]) (.sptr [.ptr sid 0 9]) (.ptr mid 0 1) (.fn 95 [] [.sptr [.ptr sid 0 9], .ptr mid 0 1]) vN (.int .i64 N.length) (.int .i64 N.length) m2 t6 =
        watch_read.L6 (.fptr [vD, vN]) (.fptr [.int .i64 D.length]) (.sptr [.ptr sid 0 9]) (.ptr m2.nx 0 1) ⟨upd m2.h m2.nx (some (.cells [.bool mv2])), m2.nx + 1⟩ [.code watch_read.r43, .code watch_read.k14, .code watch_read.r59, .code .ret] := by
      rw [watch_read.L12_eq]
      simp [t6, b2.more]
    rw [← x2, ← b1]
    simp at x1 a1
    rw [watch_read.L6_eq]
    simp [s.more]
    simp only [t6] at x1 a1 ⊢
    rw [a1, x1]
  · have s2 := b2.s.mono (m' := ⟨upd m2.h m2.nx (some (.cells [.bool mv2])), m2.nx + 1⟩) (by simp) (fun id hid => by have : (id == m2.nx) = false := by { simp; omega }; simp [this])
    exact ⟨s2, b2.K4, by simp, by simp, by have := b2.s.slt; omega, fun h a b => by have := b2.s.lt h a b; omega⟩
theorem fix_loop {vD vN : AV} {D D4 : List Int} {N : List Note} (hD : IsInts vD D) (hN : IsSl noteC vN N) (P : Pre D N) {sid : Nat} {ids : Nat → Nat} : ∀ (k : Nat) (mid : Nat) (m : Mem) (K : List (List (List Int))) (mv : Bool), (576 - tot K).toNat ≤ k →
    MAt m sid ids D.length D4 K mid mv → Inv D N K → (mv = false → Closed D N K) →
    ∃ K', Inv D N K' ∧ Closed D N K' ∧ K'.length = 4 ∧ (∀ h, Four (kth K' h)) ∧ (∀ h, (kth K' h).length ≤ 6) ∧ watch_read.L6 (.fptr [vD, vN]) (.fptr [.int .i64 D.length]) (.sptr [.ptr sid 0 9]) (.ptr mid 0 1) m [.code watch_read.r43, .code watch_read.k14, .code watch_read.r59, .code .ret] =
      if badAll K' D.length 0 then failR else okR D.length D4 K' := by
  have last : ∀ (mid : Nat) (m : Mem) (K : List (List (List Int))), MAt m sid ids D.length D4 K mid false → watch_read.L6 (.fptr [vD, vN]) (.fptr [.int .i64 D.length]) (.sptr [.ptr sid 0 9]) (.ptr mid 0 1) m [.code watch_read.r43, .code watch_read.k14, .code watch_read.r59, .code .ret] =
      if badAll K D.length 0 then failR else okR D.length D4 K := by
    intro mid m K s
    have := chk_h P.L.n4 D.length 0 m (by omega) (by omega) s.s
    simp at this
    rw [watch_read.L6_eq]
    simp [s.more, this]
  intro k
  induction k with
  | zero =>
    intro mid m K mv hk s I hcl
    cases mv with
    | false => exact ⟨K, I, hcl rfl, s.K4, s.s.four, s.s.few, last mid m K s⟩
    | true =>
      obtain ⟨m', K', mv', mid', e, s', I', p⟩ := sweepK hD hN P s I
      rcases p with ⟨rfl, rfl, hc⟩ | ⟨rfl, hlt⟩
      · exact ⟨_, I', hc, s'.K4, s'.s.four, s'.s.few, by rw [e]; exact last mid' m' _ s'⟩
      · exfalso
        have := I'.tot P.L s'.K4 s'.s.four s'.s.few
        omega
  | succ k ih =>
    intro mid m K mv hk s I hcl
    cases mv with
    | false => exact ⟨K, I, hcl rfl, s.K4, s.s.four, s.s.few, last mid m K s⟩
    | true =>
      obtain ⟨m', K', mv', mid', e, s', I', p⟩ := sweepK hD hN P s I
      rcases p with ⟨rfl, rfl, hc⟩ | ⟨rfl, hlt⟩
      · exact ⟨_, I', hc, s'.K4, s'.s.four, s'.s.few, by rw [e]; exact last mid' m' _ s'⟩
      · obtain ⟨Kf, i1, i2, i3, i4, i5, i6⟩ := ih mid' m' K' true (by have := I'.tot P.L s'.K4 s'.s.four s'.s.few; omega) s' I' (fun h => by cases h)
        exact ⟨Kf, i1, i2, i3, i4, i5, by rw [e]; exact i6⟩
end Go.Proofs.Ytdkmepjedjclkaa

/-
  THE PROGRAM READS A STORY (4): the whole of it. Conditions: none.
-/
namespace Go.Proofs.Ytdkmepjedjclkaa
open Go.AM
open Go.Proofs.Try (prog)
set_option linter.all false
set_option maxRecDepth 10000
def unitC (h i : Nat) : List Int := [0, 0, 0, 0].set h ((i : Int) + 1)
def units (h k : Nat) : List (List Int) := (List.range k).map (unitC h)
noncomputable def tK : List Item := [.code watch_read.r24, .code watch_read.k6, .code watch_read.r43, .code watch_read.k14, .code watch_read.r59, .code .ret]
theorem SAt.push {m m' : Mem} {sid : Nat} {ids : Nat → Nat} {n : Nat} {D : List Int} {K : List (List (List Int))} (s : SAt m sid ids n D K) (hK : K.length = 4) {h : Nat} (hh : h < 4) {c : List Int} (hc : c.length = 4) (hl : (kth K h).length < 6) {V : List AV}
    (hV : m.h sid = some (.cells (.int .i64 n :: (ints D ++ V)))) (j : Nat) (hj : (kth K h = [] ∧ m.nx ≤ j ∧ j < m'.nx) ∨ (kth K h ≠ [] ∧ j = ids h)) (hnx : m.nx ≤ m'.nx)
    (h1 : m'.h sid = some (.cells ((AV.int .i64 (n : Int) :: (ints D ++ V)).set (5 + h) (.sl j 4 0 ((kth K h).length + 1) ((kth K h).length * 4 + 4))))) (h2 : m'.h j = some (.cells (flatC ints (kth K h ++ [c]))))
    (h3 : ∀ id, id < m.nx → id ≠ sid → id ≠ j → m'.h id = m.h id) : SAt m' sid (fun g => if g = h then j else ids g) n D (K.set h (kth K h ++ [c])) := by
  have hk := fun g => kth_set (K := K) (h := h) (g := g) (r := kth K h ++ [c]) (by omega)
  obtain ⟨V0, w1, w2, w3⟩ := s.st
  have eV : V0 = V := by
    rw [hV] at w1
    simpa using w1.symm
  subst eV
  have hjs : j ≠ sid := by
    rcases hj with ⟨_, a, _⟩ | ⟨a, e⟩
    · have := s.slt; omega
    · rw [e]; exact s.ne h hh a
  have hjl : j < m'.nx := by
    rcases hj with ⟨_, _, a⟩ | ⟨a, e⟩
    · exact a
    · rw [e]; exact Nat.lt_of_lt_of_le (s.lt h hh a) hnx
  have hjg : ∀ g, g < 4 → kth K g ≠ [] → g ≠ h → ids g ≠ j := by
    intro g hg hne e
    rcases hj with ⟨_, a, _⟩ | ⟨a, e2⟩
    · have := s.lt g hg hne; omega
    · rw [e2]; exact fun e3 => e (s.inj g h hg hh hne a e3)
  have es : (AV.int .i64 (n : Int) :: (ints D ++ V0)).set (5 + h) (.sl j 4 0 ((kth K h).length + 1) ((kth K h).length * 4 + 4)) = .int .i64 n :: (ints D ++ V0.set h (.sl j 4 0 ((kth K h).length + 1) ((kth K h).length * 4 + 4))) := by
    rw [show 5 + h = (4 + h) + 1 by omega, List.set_cons_succ, List.set_append_right _ _ (by simp [s.D4])]
    simp [s.D4]
  rw [es] at h1
  refine ⟨⟨_, h1, by simp [w2], fun g hg => ?_⟩, s.D4, fun g hg hne => ?_, Nat.lt_of_lt_of_le s.slt hnx, fun g hg hne => ?_, fun g hg hne => ?_, fun g g' hg hg' hne hne' e => ?_, fun g => ?_, fun g => ?_⟩
  · simp only [slK, hk]
    by_cases e : g = h
    · subst e
      simp [vth, List.getD, List.getElem?_set, show g < V0.length by omega, Nat.add_mul]
    · have e' : ¬ h = g := fun x => e x.symm
      have := w3 g hg
      simp only [slK] at this
      simp only [e, if_false, ← this]
      simp [vth, List.getD, List.getElem?_set, e']
  · simp only [hk] at hne ⊢
    by_cases e : g = h
    · subst e; simpa using h2
    · simp only [e, if_false] at hne ⊢
      rw [h3 _ (s.lt g hg hne) (s.ne g hg hne) (hjg g hg hne e)]
      exact s.cl g hg hne
  · simp only [hk] at hne
    by_cases e : g = h
    · subst e; simpa using hjl
    · simp only [e, if_false] at hne ⊢
      exact Nat.lt_of_lt_of_le (s.lt g hg hne) hnx
  · simp only [hk] at hne
    by_cases e : g = h
    · subst e; simpa using hjs
    · simp only [e, if_false] at hne ⊢
      exact s.ne g hg hne
  · simp only [hk] at hne hne'
    by_cases e1 : g = h
    · by_cases e2 : g' = h
      · rw [e1, e2]
      · simp only [e1, e2, if_true, if_false] at e hne'
        exact absurd e.symm (hjg g' hg' hne' e2)
    · by_cases e2 : g' = h
      · simp only [e1, e2, if_true, if_false] at e hne
        exact absurd e (hjg g hg hne e1)
      · simp only [e1, e2, if_false] at e hne hne'
        exact s.inj g g' hg hg' hne hne' e
  · rw [hk]
    split
    · intro x hx
      rcases List.mem_append.1 hx with hx | hx
      · exact s.four h x hx
      · simp at hx; rw [hx]; exact hc
    · exact s.four g
  · rw [hk]
    split
    · simp; omega
    · exact s.few g
theorem push_loop {vD vN : AV} {D D4 : List Int} (hD : IsInts vD D) (lo : ∀ i, 0 ≤ nth D i) (h6 : ∀ i, nth D i ≤ 6) (n4 : D.length ≤ 4) {sid : Nat} {h : Nat} (hh : h < D.length) : ∀ (k i : Nat) (m : Mem) (ids : Nat → Nat) (K : List (List (List Int))), i + k = (nth D h).toNat → K.length = 4 → SAt m sid ids D.length D4 K → kth K h = units h i →
    ∃ m' ids', SAt m' sid ids' D.length D4 (K.set h (units h (nth D h).toNat)) ∧
      watch_read.L4 (.fptr [vD, vN]) (.fptr [.int .i64 D.length]) (.sptr [.ptr sid 0 9]) (.int .i64 h) (.int .i64 D.length) (.int .i64 h) (.int .i64 (nth D h)) (.int .i64 i) m (.inBlock 3 :: .code watch_read.r23 :: .inLoop watch_read.l2 :: .inBlock 2 :: tK) =
        watch_read.L2 (.fptr [vD, vN]) (.fptr [.int .i64 D.length]) (.sptr [.ptr sid 0 9]) (.int .i64 D.length) (.int .i64 ((h : Int) + 1)) m' tK := by
  have hwh : IntKind.wrap .i64 ((h : Int) + 1) = (h : Int) + 1 := wrap_id (by omega) (by omega)
  have hlo := lo h
  have hhi := h6 h
  intro k
  induction k with
  | zero =>
    intro i m ids K hk hK s hu
    have e : K.set h (units h (nth D h).toNat) = K := by
      rw [show (nth D h).toNat = i by omega, ← hu]; exact set_same (kth_some (by omega))
    refine ⟨m, ids, by rw [e]; exact s, ?_⟩
    rw [watch_read.L4_eq]
    have : ¬ (i : Int) < nth D h := by omega
    simp [this, hwh, tK]
  | succ k ih =>
    intro i m ids K hk hK s hu
    have hh4 : h < 4 := by omega
    have hi : (i : Int) < nth D h := by omega
    have hwi : IntKind.wrap .i64 ((i : Int) + 1) = (i : Int) + 1 := wrap_id (by omega) (by omega)
    obtain ⟨V, v1, v2, v3, v4⟩ := s.at
    simp only [List.length_cons, List.length_append, ints_len] at v4
    have v3' := v3 h hh4
    have hlen : (kth K h).length = i := by rw [hu]; simp [units]
    have hlt := s.slt
    have n1 : (sid == m.nx) = false := by simp; omega
    have hkk := fun g => kth_set (K := K) (h := h) (g := g) (r := kth K h ++ [unitC h i]) (by omega)
    have huc : (unitC h i).length = 4 := by simp [unitC]
    have huK : kth K h ++ [unitC h i] = units h (i + 1) := by rw [hu]; simp [units, List.range_succ]
    have hset : (K.set h (kth K h ++ [unitC h i])).set h (units h (nth D h).toNat) = K.set h (units h (nth D h).toNat) := by simp
    have huci : [AV.int .i64 0, .int .i64 0, .int .i64 0, .int .i64 0].set h (.int .i64 ((i : Int) + 1)) = ints (unitC h i) := by
      have := ints_set [0, 0, 0, 0] h ((i : Int) + 1)
      simpa [unitC] using this
    have hut : (unitC h i).take 4 = unitC h i := List.take_of_length_le (by omega)
    have hud : (unitC h i).drop 4 = [] := List.drop_of_length_le (by omega)
    have hw105 : IntKind.wrap .i64 ((i : Int) + 1) = (i : Int) + 1 := hwi
    have fin : ∀ (m1 : Mem) (ids1 : Nat → Nat), SAt m1 sid ids1 D.length D4 (K.set h (kth K h ++ [unitC h i])) → watch_read.L4 (.fptr [vD, vN]) (.fptr [.int .i64 D.length]) (.sptr [.ptr sid 0 9]) (.int .i64 h) (.int .i64 D.length) (.int .i64 h) (.int .i64 (nth D h)) (.int .i64 i) m (.inBlock 3 :: .code watch_read.r23 :: .inLoop watch_read.l2 :: .inBlock 2 :: tK) =
        watch_read.L4 (.fptr [vD, vN]) (.fptr [.int .i64 D.length]) (.sptr [.ptr sid 0 9]) (.int .i64 h) (.int .i64 D.length) (.int .i64 h) (.int .i64 (nth D h)) (.int .i64 ((i + 1 : Nat) : Int)) m1 (.inBlock 3 :: .code watch_read.r23 :: .inLoop watch_read.l2 :: .inBlock 2 :: tK) →
        ∃ m' ids', SAt m' sid ids' D.length D4 (K.set h (units h (nth D h).toNat)) ∧
      watch_read.L4 (.fptr [vD, vN]) (.fptr [.int .i64 D.length]) (.sptr [.ptr sid 0 9]) (.int .i64 h) (.int .i64 D.length) (.int .i64 h) (.int .i64 (nth D h)) (.int .i64 i) m (.inBlock 3 :: .code watch_read.r23 :: .inLoop watch_read.l2 :: .inBlock 2 :: tK) =
        watch_read.L2 (.fptr [vD, vN]) (.fptr [.int .i64 D.length]) (.sptr [.ptr sid 0 9]) (.int .i64 D.length) (.int .i64 ((h : Int) + 1)) m' tK := by
      intro m1 ids1 s1 e
      obtain ⟨m', ids', a1, a2⟩ := ih (i + 1) m1 ids1 (K.set h (kth K h ++ [unitC h i])) (by omega) (by simp [hK]) s1 (by rw [hkk]; simp [huK])
      rw [hset] at a1
      exact ⟨m', ids', a1, by rw [e, a2]⟩
    have hfl : (flatC ints (kth K h)).length = (kth K h).length * 4 := flatC_len (s.four h).cells
    by_cases he : kth K h = []
    · -- the first one
      have hi0 : i = 0 := by rw [he] at hlen; simpa using hlen.symm
      have n2 : (sid == m.nx + 11) = false := by simp; omega
      have n3 : (m.nx == sid) = false := by simp; omega
      have n4 : (m.nx + 11 == sid) = false := by simp; omega
      refine fin ⟨upd (upd (upd m.h m.nx (some (.cells (ints (unitC h i))))) (m.nx + 11) (some (.cells (ints (unitC h i))))) sid (some (.cells ((AV.int .i64 (D.length : Int) :: (ints D4 ++ V)).set (5 + h) (.sl (m.nx + 11) 4 0 1 4)))), m.nx + 1 + 15⟩ _
        (s.push hK hh4 huc (by omega) v1 (m.nx + 11) (.inl ⟨he, by omega, by simp⟩) (by simp; omega) (by simp [he]) (by simp [he, n4, flatC_one]) (fun id a b c => by
          have q1 : (id == sid) = false := by simpa using b
          have q2 : (id == m.nx + 11) = false := by simpa using c
          have q3 : (id == m.nx) = false := by simp; omega
          simp [q1, q2, q3])) ?_
      rw [watch_read.L4_eq]
      have hsl : slK ids K h = .nils := by simp [slK, he]
      rw [hsl] at v3'
      have v3g : ∀ (p : 5 + h < (AV.int .i64 (D.length : Int) :: (ints D4 ++ V)).length), (AV.int .i64 (D.length : Int) :: (ints D4 ++ V))[5 + h] = .nils := fun p => by
        have := v3'
        rw [List.getElem?_eq_getElem p] at this
        exact Option.some.inj this
      simp [v3g, hi, hwi, hh4, v1, v4, v3', huci, hut, hud, huc, n1, n2, n3, n4, tK, show 5 + h < 9 by omega, Nat.add_assoc]
    · have hid := s.lt h hh4 he
      have hne := s.ne h hh4 he
      have n2 : (ids h == m.nx) = false := by simp; omega
      have n3 : (ids h == sid) = false := by simpa using hne
      have n4 : (sid == ids h) = false := by simpa using (fun e => hne e.symm)
      refine fin ⟨upd (upd (upd m.h m.nx (some (.cells (ints (unitC h i))))) (ids h) (some (.cells (flatC ints (kth K h ++ [unitC h i]))))) sid (some (.cells ((AV.int .i64 (D.length : Int) :: (ints D4 ++ V)).set (5 + h) (.sl (ids h) 4 0 ((kth K h).length + 1) ((kth K h).length * 4 + 4))))), m.nx + 1 + 15⟩ _
        (s.push hK hh4 huc (by omega) v1 (ids h) (.inr ⟨he, rfl⟩) (by simp; omega) (by simp) (by simp [n3]) (fun id a b c => by
          have q1 : (id == sid) = false := by simpa using b
          have q2 : (id == ids h) = false := by simpa using c
          have q3 : (id == m.nx) = false := by simp; omega
          simp [q1, q2, q3])) ?_
      rw [watch_read.L4_eq]
      have hsl : slK ids K h = .sl (ids h) 4 0 (kth K h).length ((kth K h).length * 4) := by simp [slK, he]
      rw [hsl] at v3'
      have v3g : ∀ (p : 5 + h < (AV.int .i64 (D.length : Int) :: (ints D4 ++ V)).length), (AV.int .i64 (D.length : Int) :: (ints D4 ++ V))[5 + h] = .sl (ids h) 4 0 (kth K h).length ((kth K h).length * 4) := fun p => by
        have := v3'
        rw [List.getElem?_eq_getElem p] at this
        exact Option.some.inj this
      simp [v3g, hi, hwi, hh4, v1, v4, v3', huci, hut, hud, huc, n1, n2, n3, n4, s.cl h hh4 he, hfl, show (kth K h).length ≤ 4611686018427387903 by omega, show ((kth K h).length + 1) * 32 ≤ 70368744177664 by omega, flatC_append, flatC_one, tK, show 5 + h < 9 by omega]
def unitK (D : List Int) (h : Nat) : List (List (List Int)) := (List.range 4).map fun g => if g < h then units g (nth D g).toNat else []
theorem kth_unitK (D : List Int) (h g : Nat) : kth (unitK D h) g = if g < 4 ∧ g < h then units g (nth D g).toNat else [] := by
  simp only [kth, unitK, List.getD, List.getElem?_map]
  by_cases e : g < 4
  · rw [List.getElem?_range e]; simp [e]
  · rw [List.getElem?_eq_none (by simp; omega)]; simp [e]
theorem unitK_set (D : List Int) {h : Nat} (hh : h < 4) : (unitK D h).set h (units h (nth D h).toNat) = unitK D (h + 1) := by
  refine List.ext_getElem (by simp [unitK]) fun g h1 h2 => ?_
  have hg : g < 4 := by simpa [unitK] using h2
  rw [List.getElem_set]
  simp only [unitK, List.getElem_map, List.getElem_range]
  by_cases e : h = g
  · subst e; simp
  · have : g < h + 1 ↔ g < h := by omega
    simp [e, this]
theorem unit_loop {vD vN : AV} {D D4 : List Int} (hD : IsInts vD D) (lo : ∀ i, 0 ≤ nth D i) (h6 : ∀ i, nth D i ≤ 6) (n4 : D.length ≤ 4) {sid : Nat} : ∀ (k h : Nat) (m : Mem) (ids : Nat → Nat), h + k = D.length → SAt m sid ids D.length D4 (unitK D h) →
    ∃ m' ids', SAt m' sid ids' D.length D4 (unitK D D.length) ∧
      watch_read.L2 (.fptr [vD, vN]) (.fptr [.int .i64 D.length]) (.sptr [.ptr sid 0 9]) (.int .i64 D.length) (.int .i64 h) m tK =
        watch_read.L2 (.fptr [vD, vN]) (.fptr [.int .i64 D.length]) (.sptr [.ptr sid 0 9]) (.int .i64 D.length) (.int .i64 D.length) m' tK := by
  intro k
  induction k with
  | zero =>
    intro h m ids hk s
    have e : h = D.length := by omega
    subst e
    exact ⟨m, ids, s, rfl⟩
  | succ k ih =>
    intro h m ids hk s
    have hh : h < D.length := by omega
    obtain ⟨m1, ids1, s1, e1⟩ := push_loop hD lo h6 n4 (vN := vN) hh _ 0 m ids (unitK D h) (Nat.zero_add _) (by simp [unitK]) s (by rw [kth_unitK]; simp [units])
    rw [unitK_set D (by omega)] at s1
    obtain ⟨m', ids', s', e'⟩ := ih (h + 1) m1 ids1 (by omega) s1
    refine ⟨m', ids', s', ?_⟩
    rw [← e', watch_read.L2_eq]
    simp at e1
    simp [hh, hD.idx hh, ints_head hh, e1]
end Go.Proofs.Ytdkmepjedjclkaa

/-
  THE PROGRAM READS A STORY (5): the tests ahead. Conditions: none.
-/
namespace Go.Proofs.Ytdkmepjedjclkaa
open Go.AM
open Go.Proofs.Try (prog)
set_option linter.all false
set_option maxRecDepth 10000
theorem min_loop {v : AV} {l : List Int} (h : IsInts v l) (hl : l.length < 1000000) : ∀ (k i : Nat) (x : Int) (m : Mem), l.length - i ≤ k → i ≤ l.length →
    slices_Min_int.L0 v (.int .i64 x) (.int .i64 i) m [.code slices_Min_int.r8, .code .ret] = some (.int .i64 ((l.drop i).foldl min x), Mem.empty) := by
  intro k
  induction k with
  | zero =>
    intro i x m h1 h2
    have e : i = l.length := by omega
    subst e
    rw [slices_Min_int.L0_eq]
    simp [h.len]
  | succ k ih =>
    intro i x m h1 h2
    by_cases h3 : i < l.length
    · have hw : IntKind.wrap .i64 ((i : Int) + 1) = (i : Int) + 1 := wrap_id (by omega) (by omega)
      have hi := fun x m => ih (i + 1) x m (by omega) (by omega)
      simp at hi
      rw [slices_Min_int.L0_eq, drop_nth h3]
      simp [h.len, h3, h.idx h3, ints_head h3, hw, hi]
    · have e : i = l.length := by omega
      subst e
      rw [slices_Min_int.L0_eq]
      simp [h.len]
theorem max_loop {v : AV} {l : List Int} (h : IsInts v l) (hl : l.length < 1000000) : ∀ (k i : Nat) (x : Int) (m : Mem), l.length - i ≤ k → i ≤ l.length →
    slices_Max_int.L0 v (.int .i64 x) (.int .i64 i) m [.code slices_Max_int.r8, .code .ret] = some (.int .i64 ((l.drop i).foldl max x), Mem.empty) := by
  intro k
  induction k with
  | zero =>
    intro i x m h1 h2
    have e : i = l.length := by omega
    subst e
    rw [slices_Max_int.L0_eq]
    simp [h.len]
  | succ k ih =>
    intro i x m h1 h2
    by_cases h3 : i < l.length
    · have hw : IntKind.wrap .i64 ((i : Int) + 1) = (i : Int) + 1 := wrap_id (by omega) (by omega)
      have hi := fun x m => ih (i + 1) x m (by omega) (by omega)
      simp at hi
      rw [slices_Max_int.L0_eq, drop_nth h3]
      simp [h.len, h3, h.idx h3, ints_head h3, hw, hi]
    · have e : i = l.length := by omega
      subst e
      rw [slices_Max_int.L0_eq]
      simp [h.len]
theorem min_spec {v : AV} {x : Int} {l : List Int} (h : IsInts v (x :: l)) (hl : l.length < 100000) (m : Mem) : denC prog ann 92 [v] m = some (.int .i64 (l.foldl min x), m) := by
  rw [slices_Min_int.call_eq _ _ (by simp [h.closed])]
  have := min_loop h (by simp; omega) _ 1 x Mem.empty (Nat.le_refl _) (by simp)
  simp at this
  have hn : ¬ ((l.length : Int) + 1 < 1) := by omega
  have h0 := h.idx (i := 0) (by simp) .i64
  simp at h0
  simp [h.len, hn, h0, this]
theorem max_spec {v : AV} {x : Int} {l : List Int} (h : IsInts v (x :: l)) (hl : l.length < 100000) (m : Mem) : denC prog ann 93 [v] m = some (.int .i64 (l.foldl max x), m) := by
  rw [slices_Max_int.call_eq _ _ (by simp [h.closed])]
  have := max_loop h (by simp; omega) _ 1 x Mem.empty (Nat.le_refl _) (by simp)
  simp at this
  have hn : ¬ ((l.length : Int) + 1 < 1) := by omega
  have h0 := h.idx (i := 0) (by simp) .i64
  simp at h0
  simp [h.len, hn, h0, this]
theorem foldl_min : ∀ (l : List Int) (x : Int), l.foldl min x ≤ x ∧ (∀ y ∈ l, l.foldl min x ≤ y) ∧ (l.foldl min x = x ∨ l.foldl min x ∈ l)
  | [], x => ⟨Int.le_refl _, (fun _ h => by cases h), .inl rfl⟩
  | y :: l, x => by
    obtain ⟨h1, h2, h3⟩ := foldl_min l (min x y)
    simp only [List.foldl_cons]
    refine ⟨by omega, fun z hz => ?_, ?_⟩
    · rcases List.mem_cons.1 hz with rfl | hz
      · omega
      · exact h2 z hz
    · rcases h3 with h3 | h3
      · rw [h3]
        by_cases e : x ≤ y
        · left; omega
        · right; have : min x y = y := by omega
          rw [this]; simp
      · right; simp [h3]
theorem foldl_max : ∀ (l : List Int) (x : Int), x ≤ l.foldl max x ∧ (∀ y ∈ l, y ≤ l.foldl max x) ∧ (l.foldl max x = x ∨ l.foldl max x ∈ l)
  | [], x => ⟨Int.le_refl _, (fun _ h => by cases h), .inl rfl⟩
  | y :: l, x => by
    obtain ⟨h1, h2, h3⟩ := foldl_max l (max x y)
    simp only [List.foldl_cons]
    refine ⟨by omega, fun z hz => ?_, ?_⟩
    · rcases List.mem_cons.1 hz with rfl | hz
      · omega
      · exact h2 z hz
    · rcases h3 with h3 | h3
      · rw [h3]
        by_cases e : y ≤ x
        · left; omega
        · right; have : max x y = y := by omega
          rw [this]; simp
      · right; simp [h3]
def deedOk (D : List Int) (h i : Int) : Bool := ((decide (0 ≤ h) && decide (h < D.length)) && decide (1 ≤ i)) && decide (i ≤ nth D h.toNat)
theorem deed_spec {vD vN : AV} {D : List Int} (hD : IsInts vD D) (hl : D.length < 1000000) (h i : Int) (m : Mem) : denC prog ann 94 [.int .i64 h, .int .i64 i, .fptr [.int .i64 D.length], .fptr [vD, vN]] m = some (.bool (deedOk D h i), m) := by
  rw [watch_read_1.call_eq]
  by_cases q1 : 0 ≤ h
  · by_cases q2 : h < D.length
    · by_cases q3 : 1 ≤ i
      · simp [q1, q2, q3, hD.idxI q1 q2, ints_headI q1 q2, deedOk]
      · simp [q1, q2, q3, deedOk]
    · simp [q1, q2, deedOk]
  · simp [q1, deedOk]
def noteP (D : List Int) (x : Note) : Bool := (deedOk D x.f x.s && deedOk D x.t x.r) && !decide (x.f = x.t)
theorem noteP_iff {D : List Int} {x : Note} : noteP D x = true ↔ NoteIn D x := by
  simp only [noteP, deedOk, Bool.and_eq_true, decide_eq_true_eq, Bool.not_eq_true', decide_eq_false_iff_not]
  constructor
  · rintro ⟨⟨⟨⟨⟨a, b⟩, c⟩, d⟩, ⟨⟨e, f⟩, g⟩, h⟩, i⟩
    exact ⟨a, b, e, f, i, c, d, g, h⟩
  · rintro ⟨a, b, c, d, e, f, g, h, i⟩
    exact ⟨⟨⟨⟨⟨a, b⟩, f⟩, g⟩, ⟨⟨c, d⟩, h⟩, i⟩, e⟩
theorem notes_loop {vD vN : AV} {D D4 : List Int} {N : List Note} (hD : IsInts vD D) (hN : IsSl noteC vN N) (hl : D.length < 1000000) (hn : N.length < 1000000) {sid : Nat} {ids : Nat → Nat} {K : List (List (List Int))} (Kc : List Item) : ∀ (k i : Nat) (m : Mem), N.length - i ≤ k → i ≤ N.length → SAt m sid ids D.length D4 K →
    ((N.drop i).all (noteP D) = true → ∃ m', SAt m' sid ids D.length D4 K ∧ watch_read.L0 (.fptr [vD, vN]) (.fptr [.int .i64 D.length]) (.sptr [.ptr sid 0 9]) (.fn 94 [] [.fptr [.int .i64 D.length], .fptr [vD, vN]]) vN (.int .i64 N.length) (.int .i64 i) m Kc =
      watch_read.L0 (.fptr [vD, vN]) (.fptr [.int .i64 D.length]) (.sptr [.ptr sid 0 9]) (.fn 94 [] [.fptr [.int .i64 D.length], .fptr [vD, vN]]) vN (.int .i64 N.length) (.int .i64 N.length) m' Kc) ∧
    ((N.drop i).all (noteP D) = false → watch_read.L0 (.fptr [vD, vN]) (.fptr [.int .i64 D.length]) (.sptr [.ptr sid 0 9]) (.fn 94 [] [.fptr [.int .i64 D.length], .fptr [vD, vN]]) vN (.int .i64 N.length) (.int .i64 i) m Kc = failR) := by
  intro k
  induction k with
  | zero =>
    intro i m h1 h2 s
    have e : i = N.length := by omega
    subst e
    exact ⟨fun _ => ⟨m, s, rfl⟩, fun h => by simp at h⟩
  | succ k ih =>
    intro i m h1 h2 s
    by_cases h3 : i < N.length
    · have hw : IntKind.wrap .i64 ((i : Int) + 1) = (i : Int) + 1 := wrap_id (by omega) (by omega)
      have s1 : SAt ⟨upd m.h m.nx none, m.nx + 1⟩ sid ids D.length D4 K := s.mono (by simp) (fun id hid => by have : (id == m.nx) = false := by { simp; omega }; simp [this])
      obtain ⟨i1, i2⟩ := ih (i + 1) ⟨upd m.h m.nx none, m.nx + 1⟩ (by omega) (by omega) s1
      simp only [Int.natCast_add, Int.cast_ofNat_Int] at i1 i2
      rw [drop_nt h3, List.all_cons]
      have step : watch_read.L0 (.fptr [vD, vN]) (.fptr [.int .i64 D.length]) (.sptr [.ptr sid 0 9]) (.fn 94 [] [.fptr [.int .i64 D.length], .fptr [vD, vN]]) vN (.int .i64 N.length) (.int .i64 i) m Kc =
          if noteP D (nt N i) then watch_read.L0 (.fptr [vD, vN]) (.fptr [.int .i64 D.length]) (.sptr [.ptr sid 0 9]) (.fn 94 [] [.fptr [.int .i64 D.length], .fptr [vD, vN]]) vN (.int .i64 N.length) (.int .i64 ((i : Int) + 1)) ⟨upd m.h m.nx none, m.nx + 1⟩ Kc else failR := by
        rw [watch_read.L0_eq]
        by_cases q1 : deedOk D (nt N i).f (nt N i).s = true
        · by_cases q2 : deedOk D (nt N i).t (nt N i).r = true
          · by_cases q3 : (nt N i).f = (nt N i).t
            · have q1' := q1
              rw [q3] at q1'
              simp [h3, hN.idx (noteC_len N) h3, load_note h3, noteC, deed_spec hD hl, q1, q1', q2, q3, noteP, failR]
            · simp [h3, hN.idx (noteC_len N) h3, load_note h3, noteC, deed_spec hD hl, q1, q2, q3, noteP, hw]
          · have q2' : deedOk D (nt N i).t (nt N i).r = false := by simpa using q2
            simp [h3, hN.idx (noteC_len N) h3, load_note h3, noteC, deed_spec hD hl, q1, q2', noteP, failR]
        · have q1' : deedOk D (nt N i).f (nt N i).s = false := by simpa using q1
          simp [h3, hN.idx (noteC_len N) h3, load_note h3, noteC, deed_spec hD hl, q1', noteP, failR]
      rw [step]
      cases hq : noteP D (nt N i) with
      | true => simp only [Bool.true_and, if_true]; exact ⟨i1, i2⟩
      | false => simp
    · have e : i = N.length := by omega
      subst e
      exact ⟨fun _ => ⟨m, s, rfl⟩, fun h => by simp at h⟩
end Go.Proofs.Ytdkmepjedjclkaa

/-
  THE PROGRAM READS A STORY (6): what read hands back. Conditions: none.
-/
namespace Go.Proofs.Ytdkmepjedjclkaa
open Go.AM
open Go.Proofs.Try (prog)
set_option linter.all false
set_option maxRecDepth 10000
def pad (D : List Int) : List Int := D ++ List.replicate (4 - D.length) 0
theorem pad_len {D : List Int} (h : D.length ≤ 4) : (pad D).length = 4 := by simp [pad]; omega
theorem nth_pad (D : List Int) (h : Nat) : nth (pad D) h = nth D h := by
  simp only [nth, pad, List.getD]
  rcases Nat.lt_or_ge h D.length with h1 | h1
  · rw [List.getElem?_append_left h1]
  · rw [List.getElem?_append_right h1, List.getElem?_eq_none h1, List.getElem?_replicate]
    split <;> rfl
theorem unit_inv {D : List Int} {N : List Note} (P : Pre D N) : Inv D N (unitK D D.length) := by
  have n4 := P.L.n4
  have hk : ∀ h, h < D.length → kth (unitK D D.length) h = units h (nth D h).toNat := fun h hh => by rw [kth_unitK, if_pos ⟨by omega, hh⟩]
  have hk0 : ∀ h, D.length ≤ h → kth (unitK D D.length) h = [] := fun h hh => by rw [kth_unitK, if_neg (by omega)]
  have hc : ∀ h i, i < (nth D h).toNat → cth (units h (nth D h).toNat) i = unitC h i := by
    intro h i hi
    simp [cth, units, List.getD, List.getElem?_map, List.getElem?_range hi]
  have hn : ∀ h i g, nth (unitC h i) g = if g = h ∧ h < 4 then (i : Int) + 1 else 0 := by
    intro h i g
    simp only [unitC, nth_set]
    have z : nth [0, 0, 0, 0] g = 0 := by match g with | 0 | 1 | 2 | 3 => rfl | _ + 4 => rfl
    rw [z]
    by_cases e : h = g
    · subst e; simp
    · have : ¬ g = h := fun x => e x.symm
      simp [e, this]
  refine ⟨fun h hh => by rw [hk h hh]; have := P.L.lo h; simp [units]; omega, hk0, fun V hV h i hi g => ?_, fun h i hi => ?_, fun h i hi g => ?_⟩
  all_goals
    rcases Nat.lt_or_ge h D.length with hh | hh
    · rw [hk h hh] at hi ⊢
      have hi' : i < (nth D h).toNat := by simpa [units] using hi
      rw [hc h i hi', hn]
      first
        | (split
           · rename_i e; rw [e.1]; exact hV.unit h i (by omega)
           · exact hV.pos h i g)
        | (rw [if_pos ⟨rfl, by omega⟩]; omega)
        | (split <;> omega)
    · rw [hk0 h hh] at hi; simp at hi
theorem unit_four (D : List Int) (k h : Nat) : Four (kth (unitK D k) h) := by
  rw [kth_unitK]
  split
  · intro c hc
    simp only [units, List.mem_map] at hc
    obtain ⟨i, _, rfl⟩ := hc
    simp [unitC]
  · intro c hc; cases hc
theorem read_tail {vD vN : AV} {D : List Int} {N : List Note} (hD : IsInts vD D) (hN : IsSl noteC vN N) (P : Pre D N) {sid : Nat} {ids : Nat → Nat} {m : Mem} (s : SAt m sid ids D.length (pad D) (unitK D 0)) :
    ∃ K', Inv D N K' ∧ Closed D N K' ∧ K'.length = 4 ∧ (∀ h, Four (kth K' h)) ∧ (∀ h, (kth K' h).length ≤ 6) ∧
      watch_read.L0 (.fptr [vD, vN]) (.fptr [.int .i64 D.length]) (.sptr [.ptr sid 0 9]) (.fn 94 [] [.fptr [.int .i64 D.length], .fptr [vD, vN]]) vN (.int .i64 N.length) (.int .i64 N.length) m
        (.code watch_read.r13 :: .code watch_read.k2 :: tK) = if badAll K' D.length 0 then failR else okR D.length (pad D) K' := by
  obtain ⟨m1, ids1, s1, e1⟩ := unit_loop hD P.L.lo P.L.hi P.L.n4 (vN := vN) D.length 0 m ids (by omega) s
  have hslt := s1.slt
  have I := unit_inv P
  have M : MAt ⟨upd m1.h m1.nx (some (.cells [.bool true])), m1.nx + 1⟩ sid ids1 D.length (pad D) (unitK D D.length) m1.nx true :=
    ⟨s1.mono (by simp) (fun id hid => by have : (id == m1.nx) = false := by { simp; omega }; simp [this]), by simp [unitK], by simp, by simp, by omega, fun h a b => by have := s1.lt h a b; omega⟩
  obtain ⟨K', i1, i2, i3, i4, i5, i6⟩ := fix_loop hD hN P _ m1.nx _ _ true (Nat.le_refl _) M I (fun h => by cases h)
  refine ⟨K', i1, i2, i3, i4, i5, ?_⟩
  rw [← i6]
  have x1 : watch_read.L2 (.fptr [vD, vN]) (.fptr [.int .i64 D.length]) (.sptr [.ptr sid 0 9]) (.int .i64 D.length) (.int .i64 D.length) m1 tK =
      watch_read.L6 (.fptr [vD, vN]) (.fptr [.int .i64 D.length]) (.sptr [.ptr sid 0 9]) (.ptr m1.nx 0 1) ⟨upd m1.h m1.nx (some (.cells [.bool true])), m1.nx + 1⟩ [.code watch_read.r43, .code watch_read.k14, .code watch_read.r59, .code .ret] := by
    rw [watch_read.L2_eq]
    simp [tK]
  rw [← x1, ← e1, watch_read.L0_eq]
  simp [tK]
theorem isStr_ints {v : AV} {l : List Int} (h : IsInts v l) : v.isStr = false := by rcases h with ⟨rfl, _⟩ | ⟨_, rfl⟩ <;> rfl
noncomputable def firstM (D : List Int) : Mem := ⟨upd (upd (upd Mem.empty.h 0 none) 1 (some (.cells (.int .i64 D.length :: (ints (pad D) ++ [.nils, .nils, .nils, .nils]))))) 2 none, 10⟩
theorem first_at {D : List Int} (h : D.length ≤ 4) : SAt (firstM D) 1 (fun _ => 0) D.length (pad D) (unitK D 0) := by
  have e : ∀ g, kth (unitK D 0) g = [] := fun g => by rw [kth_unitK]; simp
  refine ⟨⟨[.nils, .nils, .nils, .nils], rfl, rfl, fun g hg => ?_⟩, pad_len h, fun g _ hne => absurd (e g) hne, by simp [firstM], fun g _ hne => absurd (e g) hne, fun g _ hne => absurd (e g) hne, fun g _ _ _ hne => absurd (e g) hne, unit_four D 0, fun g => by rw [e]; simp⟩
  simp only [slK, e, if_true]
  match g, hg with | 0, _ => rfl | 1, _ => rfl | 2, _ => rfl | 3, _ => rfl
def failV : AV := .tup [.nilp, .bool false]
def okV (D : List Int) (K : List (List (List Int))) : AV := .tup [.fptr (.int .i64 D.length :: (ints (pad D) ++ vals4 K)), .bool true]
def ReadRes (D : List Int) (N : List Note) (r : AV) : Prop :=
  (Pre D N ∧ ∃ K', Inv D N K' ∧ Closed D N K' ∧ K'.length = 4 ∧ (∀ h, Four (kth K' h)) ∧ (∀ h, (kth K' h).length ≤ 6) ∧ r = if badAll K' D.length 0 then failV else okV D K') ∨ (¬ Pre D N ∧ r = failV)
theorem read_spec {v : AV} {D : List Int} {N : List Note} (hs : IsTale v D N) (hl : D.length < 100000) (hn : N.length < 100000) : ∃ r, ReadRes D N r ∧ ∀ m, denC prog ann 61 [v] m = some (r, m) := by
  obtain ⟨vD, vN, rfl, hD, hN⟩ := hs.ex
  have hcl : closedL [AV.agg [vD, vN]] = true := by simp [hD.closed, hN.closed]
  cases D with
  | nil =>
    refine ⟨failV, .inr ⟨fun P => by have := P.L.n1; simp at this, rfl⟩, fun m => ?_⟩
    rw [watch_read.call_eq _ _ hcl]
    simp [hD.one, hN.one, hD.closed, hN.closed, hD.len, failV]
  | cons x l =>
    have hmin := min_spec hD (by simp at hl; omega)
    have hmax := max_spec hD (by simp at hl; omega)
    obtain ⟨a1, a2, a3⟩ := foldl_min l x
    obtain ⟨b1, b2, b3⟩ := foldl_max l x
    have hn1 : ¬ ((l.length : Int) + 1 < 1) := by omega
    by_cases q1 : (4 : Int) < (l.length : Int) + 1
    · refine ⟨failV, .inr ⟨fun P => by have := P.L.n4; simp at this; omega, rfl⟩, fun m => ?_⟩
      rw [watch_read.call_eq _ _ hcl]
      simp [hD.one, hN.one, hD.closed, hN.closed, hD.len, hn1, q1, failV]
    · by_cases q2 : (24 : Int) < N.length
      · refine ⟨failV, .inr ⟨fun P => by have := P.L.N24; omega, rfl⟩, fun m => ?_⟩
        rw [watch_read.call_eq _ _ hcl]
        simp [hD.one, hN.one, hD.closed, hN.closed, hD.len, hN.len, hn1, q1, q2, failV]
      · by_cases q3 : l.foldl min x < 0
        · refine ⟨failV, .inr ⟨fun P => ?_, rfl⟩, fun m => ?_⟩
          · have : ∃ d ∈ x :: l, d < 0 := by
              rcases a3 with e | e
              · exact ⟨x, by simp, by omega⟩
              · exact ⟨_, List.mem_cons_of_mem _ e, q3⟩
            obtain ⟨d, hd, hneg⟩ := this
            have := (P.L.all d hd).1
            omega
          · rw [watch_read.call_eq _ _ hcl]
            simp [hD.one, hN.one, hD.closed, hN.closed, hD.len, hN.len, hn1, q1, q2, hmin, q3, failV]
        · by_cases q4 : 6 < l.foldl max x
          · refine ⟨failV, .inr ⟨fun P => ?_, rfl⟩, fun m => ?_⟩
            · have : ∃ d ∈ x :: l, 6 < d := by
                rcases b3 with e | e
                · exact ⟨x, by simp, by omega⟩
                · exact ⟨_, List.mem_cons_of_mem _ e, q4⟩
              obtain ⟨d, hd, hneg⟩ := this
              have := (P.L.all d hd).2
              omega
            · rw [watch_read.call_eq _ _ hcl]
              simp [hD.one, hN.one, hD.closed, hN.closed, hD.len, hN.len, hn1, q1, q2, hmin, hmax, q3, q4, failV]
          · -- within the limits
            have hd6 : ∀ d ∈ x :: l, 0 ≤ d ∧ d ≤ 6 := by
              intro d hd
              rcases List.mem_cons.1 hd with rfl | hd
              · omega
              · have := a2 d hd; have := b2 d hd; omega
            have hlen : (x :: l).length ≤ 4 := by simp; omega
            have hN24 : N.length ≤ 24 := by omega
            have key : ∀ m, denC prog ann 61 [.agg [vD, vN]] m =
                (watch_read.L0 (.fptr [vD, vN]) (.fptr [.int .i64 (x :: l).length]) (.sptr [.ptr 1 0 9]) (.fn 94 [] [.fptr [.int .i64 (x :: l).length], .fptr [vD, vN]]) vN (.int .i64 N.length) (.int .i64 0) (firstM (x :: l)) (.code watch_read.r13 :: .code watch_read.k2 :: tK)).bind fun r => some (r.1, m) := by
              clear a1 a2 a3 b1 b2 b3 hd6
              generalize l.foldl min x = lo at hmin q3
              generalize l.foldl max x = hi at hmax q4
              intro m
              rw [watch_read.call_eq _ _ hcl]
              rcases l with _ | ⟨b, _ | ⟨c, _ | ⟨d, _ | ⟨e, l⟩⟩⟩⟩
              all_goals first
                | (simp at hlen; done)
                | (simp [hD.one, hN.one, hD.closed, hN.closed, hD.len, hN.len, hn1, q1, q2, hmin, hmax, q3, q4, tK, sliceArr, bnds, bnd, copyA, hD.src, isStr_ints hD, Mem.set, firstM, pad, ints, splice]; done)
            have s := first_at hlen
            have L : ¬ Pre (x :: l) N → ReadRes (x :: l) N failV := fun h => .inr ⟨h, rfl⟩
            obtain ⟨n1, n2⟩ := notes_loop hD hN (by omega) (by omega) (.code watch_read.r13 :: .code watch_read.k2 :: tK) N.length 0 (firstM (x :: l)) (by omega) (by omega) s
            simp only [List.drop_zero, Int.cast_ofNat_Int, Int.ofNat_zero] at n1 n2
            cases hq : N.all (noteP (x :: l)) with
            | false =>
              refine ⟨failV, L fun P => ?_, fun m => ?_⟩
              · rw [List.all_eq_false] at hq
                obtain ⟨y, hy, h⟩ := hq
                exact h (noteP_iff.2 (P.notes y hy))
              · rw [key, n2 hq]; rfl
            | true =>
              have P : Pre (x :: l) N := by
                have hb : ∀ i, 0 ≤ nth (x :: l) i ∧ nth (x :: l) i ≤ 6 := by
                  intro i
                  rcases Nat.lt_or_ge i (x :: l).length with h | h
                  · have e : nth (x :: l) i = (x :: l)[i] := by simp [nth, List.getD, List.getElem?_eq_getElem h]
                    rw [e]; exact hd6 _ (List.getElem_mem h)
                  · have e : nth (x :: l) i = 0 := by simp only [nth, List.getD, List.getElem?_eq_none h]; rfl
                    rw [e]; omega
                have hb2 : ∀ y ∈ N, NoteIn (x :: l) y := fun y hy => noteP_iff.1 (List.all_eq_true.1 hq y hy)
                exact ⟨⟨by simp, hlen, fun i => (hb i).1, fun i => (hb i).2, hN24, fun y hy => ⟨(hb2 y hy).f0, (hb2 y hy).f1, (hb2 y hy).t0, (hb2 y hy).t1⟩⟩, hb2⟩
              obtain ⟨m1, s1, e1⟩ := n1 hq
              obtain ⟨K', i1, i2, i3, i4, i5, i6⟩ := read_tail hD hN P s1
              refine ⟨_, .inl ⟨P, K', i1, i2, i3, i4, i5, rfl⟩, fun m => ?_⟩
              rw [key, e1, i6]
              split <;> rfl
end Go.Proofs.Ytdkmepjedjclkaa
