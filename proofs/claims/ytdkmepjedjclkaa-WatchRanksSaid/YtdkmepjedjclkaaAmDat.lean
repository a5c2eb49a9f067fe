/-
  THE ABSTRACT MACHINE: a datum that was read stands for an abstract value. Conditions: none.
-/
import Derived.Test.YtdkmepjedjclkaaAmDraw5
import GoSem.ClaimChange
import Derived.DeepKeys2
import Derived.OpenShut
namespace Go.AM

/-- The cells that a datum of the type may have (numbers, bools, strings, slices, structs, arrays; no more than d deep). -/
def Dat (P : Program) : Nat → TypeId → List AV → Prop
  | 0, _, _ => False
  | d + 1, t, cs => match P.underlying t with
    | some .bool => ∃ b, cs = [.bool b]
    | some (.int k) => ∃ n, cs = [.int k n] ∧ (Lit.int k n).wf = true
    | some .string => ∃ s : List UInt8, cs = [.str s] ∧ s.length ≤ maxLen
    | some (.slice e) => cs = [.nils] ∨ ∃ parts : List (List AV), cs = [.fsl false parts.length parts.flatten] ∧ parts.length ≤ maxLen ∧ ∀ p ∈ parts, p.length = P.cellsOf e ∧ Dat P d e p
    | some (.struct fs) => ∃ parts : List (List AV), cs = parts.flatten ∧ parts.length = fs.size ∧ ∀ (i : Nat) f p, fs.toList[i]? = some f → parts[i]? = some p → p.length = P.cellsOf f.type ∧ Dat P d f.type p
    | some (.array n e) => ∃ parts : List (List AV), cs = parts.flatten ∧ parts.length = n ∧ ∀ p ∈ parts, p.length = P.cellsOf e ∧ Dat P d e p
    | _ => False

/-- Types of such data: cells tile. -/
def datT (P : Program) : Nat → TypeId → Bool
  | 0, _ => false
  | d + 1, t => match P.underlying t with
    | some .bool | some (.int _) | some .string => true
    | some (.slice e) => !(P.cellsOf e == 0) && datT P d e
    | some (.array n e) => P.cellsOf t == n * P.cellsOf e && datT P d e
    | some (.struct fs) => P.runs 0 fs.toList == some (P.cellsOf t) && fs.toList.all fun f => datT P d f.type
    | _ => false

theorem oneL_append : ∀ (a b : List AV), oneL (a ++ b) = (oneL a && oneL b)
  | [], b => by simp [oneL]
  | x :: a, b => by simp [oneL, oneL_append a b, Bool.and_assoc]

theorem oneL_flatten : ∀ (l : List (List AV)), (∀ p ∈ l, oneL p = true) → oneL l.flatten = true
  | [], _ => rfl
  | p :: l, h => by
    rw [List.flatten_cons, oneL_append, h p (by simp), oneL_flatten l (fun q hq => h q (by simp [hq]))]
    rfl

theorem dat_one {P : Program} : ∀ (d : Nat) {t : TypeId} {cs : List AV}, Dat P d t cs → oneL cs = true
  | 0, _, _, h => h.elim
  | d + 1, t, cs, h => by
    unfold Dat at h
    split at h
    · obtain ⟨b, rfl⟩ := h; rfl
    · obtain ⟨n, rfl, _⟩ := h; rfl
    · obtain ⟨s, rfl, _⟩ := h; rfl
    · rcases h with rfl | ⟨parts, rfl, _⟩ <;> rfl
    · rename_i fs _
      obtain ⟨parts, rfl, hl, h⟩ := h
      refine oneL_flatten _ (fun p hp => ?_)
      obtain ⟨i, hi, rfl⟩ := List.mem_iff_getElem.1 hp
      have hi' : i < fs.toList.length := by simp; omega
      exact dat_one d (h i _ _ (List.getElem?_eq_getElem hi') (List.getElem?_eq_getElem hi)).2
    · obtain ⟨parts, rfl, _, h⟩ := h
      exact oneL_flatten _ (fun p hp => dat_one d (h p hp).2)
    · exact h.elim

theorem flat_rep' {w : World} {N : Nat → Prop} {i : Pl} : ∀ (as : List (List AV)) (vs : List (List Value)), as.length = vs.length → (∀ (j : Nat) a v, as[j]? = some a → vs[j]? = some v → RepL w N i a v) → RepL w N i as.flatten vs.flatten
  | [], [], _, _ => rfl
  | a :: as, v :: vs, h, k => (k 0 a v rfl rfl).append (flat_rep' as vs (by simpa using h) (fun j a v h1 h2 => k (j + 1) a v (by simpa using h1) (by simpa using h2)))
  | [], _ :: _, h, _ => by simp at h
  | _ :: _, [], h, _ => by simp at h

theorem choose_list {α β : Type} (R : α → β → Prop) : ∀ (l : List α), (∀ a ∈ l, ∃ b, R a b) → ∃ k : List β, k.length = l.length ∧ ∀ (j : Nat) a b, l[j]? = some a → k[j]? = some b → R a b
  | [], _ => ⟨[], rfl, fun j a b h => by simp at h⟩
  | a :: l, h => by
    obtain ⟨b, hb⟩ := h a (by simp)
    obtain ⟨k, h1, h2⟩ := choose_list R l (fun x hx => h x (by simp [hx]))
    refine ⟨b :: k, by simp [h1], fun j x y hx hy => ?_⟩
    cases j with
    | zero => simp at hx hy; subst hx hy; exact hb
    | succ j => exact h2 j x y (by simpa using hx) (by simpa using hy)

theorem dat_mono {P : Program} {d : Nat} {t : TypeId} {cs : List AV} (h : Dat P d t cs) : oneL cs = true := dat_one d h

/-- The cells of each part. -/
theorem cells?_old {w : World} {base : Nat} {a : Addr} {n : Nat} {cs : List Value} (h : w.cells? base a n = some cs) : cs.length = n ∧ ∀ (j : Nat) v, cs[j]? = some v → w.cell? (a.add j) = some v := by
  unfold World.cells? at h
  split at h
  · refine ⟨by simpa using mapM_some_length h, fun j v hj => ?_⟩
    have hl : cs.length = n := by simpa using mapM_some_length h
    have hlt : j < n := by
      have := (List.getElem?_eq_some_iff.1 hj).1
      omega
    have := mapM_some_get h j j (by simp [hlt])
    rw [this, hj]
  · cases h

theorem trod_dat {H : Type} {enc : TypeId × Value → H} {P : Program} {w : World} {base : Nat} {sp : Nat → Bool} {held : Bool} : ∀ (d fuel : Nat) (t : TypeId) (cs : List Value) (x : DataW H × List MemPlace),
    datT P d t = true → DataW.trod enc P w base sp held fuel t cs = some x → ∃ as, RepL w (fun b => b < w.heap.size) P0 as cs ∧ Dat P d t as
  | 0, _, _, _, _, h, _ => by simp [datT] at h
  | d + 1, fuel, t, cs, x, hd, h => by
    unfold datT at hd
    unfold Dat
    split at hd
    · rename_i hu
      obtain ⟨b, rfl, _⟩ := DataW.trod_bool hu h
      exact ⟨[.bool b], RepL.cons rfl RepL.nil, by simp only [hu]; exact ⟨b, rfl⟩⟩
    · rename_i k hu
      obtain ⟨n, rfl, _, hw⟩ := DataW.trod_int hu h
      exact ⟨[.int k n], RepL.cons rfl RepL.nil, by simp only [hu]; exact ⟨n, rfl, hw⟩⟩
    · rename_i hu
      obtain ⟨s, rfl, _, hl⟩ := DataW.trod_string hu h
      refine ⟨[.str s.data.toList], RepL.cons ?_ RepL.nil, by simp only [hu]; exact ⟨_, rfl, by simpa using hl⟩⟩
      show Value.string s = Value.string ⟨s.data.toList.toArray⟩
      rw [Array.toArray_toList]
    · rename_i e hu
      simp only [Bool.and_eq_true, Bool.not_eq_true', beq_eq_false_iff_ne, ne_eq] at hd
      obtain ⟨h0, hd⟩ := hd
      rcases DataW.trod_slice hu h with ⟨rfl, _⟩ | ⟨a, len, cap, elems, rest, n, _, rfl, _, hb, hl, hm, hlen, hel, _⟩
      · exact ⟨[.nils], RepL.cons rfl RepL.nil, by simp [hu]⟩
      · -- each element
        have each : ∀ i ∈ List.range len, ∃ q : List AV × List Value, RepL w (fun b => b < w.heap.size) P0 q.1 q.2 ∧ Dat P d e q.1 ∧ q.2.length = P.cellsOf e ∧ ∀ (j : Nat) v, q.2[j]? = some v → w.cell? ((a.add (i * P.cellsOf e)).add j) = some v := by
          intro i hi
          have hi : i < len := by simpa using hi
          have := hel i hi
          have hs : elems[i]? = some (elems[i]'(by omega)) := List.getElem?_eq_getElem _
          rw [hs, Option.bind_eq_some_iff] at this
          obtain ⟨cs', h1, h2⟩ := this
          obtain ⟨as, h3, h4⟩ := trod_dat d n e cs' _ hd h2
          obtain ⟨h5, h6⟩ := cells?_old h1
          exact ⟨(as, cs'), h3, h4, h5, h6⟩
        obtain ⟨k, hk1, hk2⟩ := choose_list _ _ each
        simp only [List.length_range] at hk1
        have hk : ∀ (i : Nat) q, k[i]? = some q → RepL w (fun b => b < w.heap.size) P0 q.1 q.2 ∧ Dat P d e q.1 ∧ q.2.length = P.cellsOf e ∧ ∀ (j : Nat) v, q.2[j]? = some v → w.cell? ((a.add (i * P.cellsOf e)).add j) = some v := by
          intro i q hq
          have hi : i < len := by have := (List.getElem?_eq_some_iff.1 hq).1; omega
          exact hk2 i i q (by simp [hi]) hq
        have hdat : ∀ p ∈ k.map (·.1), p.length = P.cellsOf e ∧ Dat P d e p := by
          intro p hp
          obtain ⟨q, hq, rfl⟩ := List.mem_map.1 hp
          obtain ⟨i, hi⟩ := List.getElem?_of_mem hq
          obtain ⟨g1, g2, g3, _⟩ := hk i q hi
          exact ⟨by rw [← g3, g1.length], g2⟩
        refine ⟨[.fsl false (k.map (·.1)).length (k.map (·.1)).flatten], RepL.cons ?_ RepL.nil, ?_⟩
        · have hrep : RepL w (fun b => b < w.heap.size) P0 (k.map (·.1)).flatten (k.map (·.2)).flatten := by
            refine flat_rep' _ _ (by simp) (fun j x v h1 h2 => ?_)
            simp only [List.getElem?_map, Option.map_eq_some_iff] at h1 h2
            obtain ⟨q, hq, rfl⟩ := h1
            obtain ⟨q', hq', rfl⟩ := h2
            rw [hq] at hq'
            cases hq'
            exact (hk j q hq).1
          have hone : oneL (k.map (·.1)).flatten = true := oneL_flatten _ (fun p hp => dat_one d (hdat p hp).2)
          refine ⟨a, cap, (k.map (·.2)).flatten, by simp [hk1], by simpa [hk1] using hl, (fun h => by cases h), ?_, RepL.oneL hone hrep, hrep⟩
          by_cases hz : len = 0
          · subst hz
            have : k = [] := by simpa using hk1
            subst this
            exact .inl ⟨rfl, rfl⟩
          · right
            -- the first cell tells that the address is a plain one
            have hk0 : k[0]? = some (k[0]'(by omega)) := List.getElem?_eq_getElem _
            obtain ⟨_, _, g3, g4⟩ := hk 0 _ hk0
            have hv0 : (k[0]'(by omega)).2[0]? = some ((k[0]'(by omega)).2[0]'(by omega)) := List.getElem?_eq_getElem _
            have c0 := g4 0 _ hv0
            obtain ⟨ab, aoff, aspot⟩ := a
            have hspot : aspot = none := by
              have := World.cell?_spot c0
              simpa [Addr.add] using this
            subst hspot
            refine ⟨ab, aoff, rfl, ?_, ?_⟩
            · simp only [Nat.zero_mul, add_lit, Nat.add_zero] at c0
              rcases Nat.lt_or_ge ab w.heap.size with h1 | h1
              · exact h1
              · simp [World.cell?, Array.getElem?_eq_none h1] at c0
            · intro j v hj
              -- which element, which of its cells
              have hc : 0 < P.cellsOf e := by omega
              have flat_get : ∀ (l : List (List Value)) (j : Nat) v, (∀ p ∈ l, p.length = P.cellsOf e) → l.flatten[j]? = some v → ∃ i r p, l[i]? = some p ∧ p[r]? = some v ∧ j = i * P.cellsOf e + r := by
                intro l
                induction l with
                | nil => intro j v _ h; simp at h
                | cons p l ih =>
                  intro j v hp h
                  rw [List.flatten_cons] at h
                  have hpl := hp p (by simp)
                  rcases Nat.lt_or_ge j p.length with h1 | h1
                  · rw [List.getElem?_append_left h1] at h
                    exact ⟨0, j, p, rfl, h, by simp⟩
                  · rw [List.getElem?_append_right h1] at h
                    obtain ⟨i, r, q, h2, h3, h4⟩ := ih (j - p.length) v (fun q hq => hp q (by simp [hq])) h
                    exact ⟨i + 1, r, q, by simpa using h2, h3, by rw [Nat.succ_mul]; omega⟩
              obtain ⟨i, r, p, h1, h2, rfl⟩ := flat_get _ j v (by
                intro p hp
                obtain ⟨q, hq, rfl⟩ := List.mem_map.1 hp
                obtain ⟨i, hi⟩ := List.getElem?_of_mem hq
                exact (hk i q hi).2.2.1) hj
              simp only [List.getElem?_map, Option.map_eq_some_iff] at h1
              obtain ⟨q, hq, rfl⟩ := h1
              have := (hk i q hq).2.2.2 r v h2
              rw [add_lit, add_lit] at this
              rw [← Nat.add_assoc]
              exact this
        · simp only [hu]
          exact .inr ⟨k.map (·.1), rfl, by simp only [List.length_map, hk1]; omega, hdat⟩
    · rename_i n e hu
      simp only [Bool.and_eq_true, beq_iff_eq] at hd
      obtain ⟨hc, hd⟩ := hd
      obtain ⟨xs, m, _, _, hl, hxl, hel⟩ := DataW.trod_array hu h
      have each : ∀ i ∈ List.range n, ∃ as : List AV, RepL w (fun b => b < w.heap.size) P0 as ((cs.drop (i * P.cellsOf e)).take (P.cellsOf e)) ∧ Dat P d e as := by
        intro i hi
        have hi : i < n := by simpa using hi
        have := hel i hi
        have hs : xs[i]? = some (xs[i]'(by omega)) := List.getElem?_eq_getElem _
        rw [hs] at this
        exact trod_dat d m e _ _ hd this
      obtain ⟨k, hk1, hk2⟩ := choose_list _ _ each
      simp only [List.length_range] at hk1
      have hcs : ((List.range n).map fun i => (cs.drop (i * P.cellsOf e)).take (P.cellsOf e)).flatten = cs := by
        have go : ∀ (n : Nat) (cs : List Value), cs.length = n * P.cellsOf e → ((List.range n).map fun i => (cs.drop (i * P.cellsOf e)).take (P.cellsOf e)).flatten = cs := by
          intro n
          induction n with
          | zero => intro cs h; simp at h; simp [h]
          | succ n ih =>
            intro cs h
            rw [List.range_succ_eq_map, List.map_cons, List.flatten_cons, List.map_map]
            have h2 := ih (cs.drop (P.cellsOf e)) (by rw [List.length_drop, h, Nat.succ_mul]; omega)
            have h3 : ((fun i => (cs.drop (i * P.cellsOf e)).take (P.cellsOf e)) ∘ Nat.succ) = fun i => ((cs.drop (P.cellsOf e)).drop (i * P.cellsOf e)).take (P.cellsOf e) := by
              funext i
              simp only [Function.comp, List.drop_drop, Nat.succ_mul]
              rw [Nat.add_comm]
            rw [h3, h2]
            simp
        exact go n cs (by rw [hl, hc])
      have hparts : ∀ (i : Nat) p, k[i]? = some p → RepL w (fun b => b < w.heap.size) P0 p ((cs.drop (i * P.cellsOf e)).take (P.cellsOf e)) ∧ Dat P d e p := by
        intro i p hp
        have hi : i < n := by have := (List.getElem?_eq_some_iff.1 hp).1; omega
        exact hk2 i i p (by simp [hi]) hp
      refine ⟨k.flatten, ?_, ?_⟩
      · have := flat_rep' (w := w) (N := fun b => b < w.heap.size) (i := P0) k ((List.range n).map fun i => (cs.drop (i * P.cellsOf e)).take (P.cellsOf e)) (by simp [hk1]) (fun j a v h1 h2 => by
          simp only [List.getElem?_map, Option.map_eq_some_iff] at h2
          obtain ⟨j', h3, rfl⟩ := h2
          have hj : j < n := by have := (List.getElem?_eq_some_iff.1 h1).1; omega
          have : j' = j := by simpa [hj] using h3.symm
          subst this
          exact (hparts _ a h1).1)
        rwa [hcs] at this
      · simp only [hu]
        refine ⟨k, rfl, hk1, fun p hp => ?_⟩
        obtain ⟨i, hi⟩ := List.getElem?_of_mem hp
        have hin : i < n := by have := (List.getElem?_eq_some_iff.1 hi).1; omega
        obtain ⟨g1, g2⟩ := hparts i p hi
        refine ⟨?_, g2⟩
        have := g1.length
        rw [← this, List.length_take, List.length_drop, hl, hc]
        have : (i + 1) * P.cellsOf e ≤ n * P.cellsOf e := Nat.mul_le_mul_right _ hin
        rw [Nat.succ_mul] at this
        omega
    · rename_i fs hu
      simp only [Bool.and_eq_true, beq_iff_eq, List.all_eq_true] at hd
      obtain ⟨hruns, hd⟩ := hd
      obtain ⟨xs, m, _, _, hl, hxl, hel⟩ := DataW.trod_struct hu h
      have each : ∀ f ∈ fs.toList, ∃ as : List AV, RepL w (fun b => b < w.heap.size) P0 as ((cs.drop f.offset).take (P.cellsOf f.type)) ∧ Dat P d f.type as := by
        intro f hf
        obtain ⟨i, hi⟩ := List.getElem?_of_mem hf
        have hi' : fs[i]? = some f := by simpa using hi
        have := hel i f hi'
        have hlt : i < fs.size := (Array.getElem?_eq_some_iff.1 hi').1
        have hs : xs[i]? = some (xs[i]'(by omega)) := List.getElem?_eq_getElem _
        rw [hs] at this
        exact trod_dat d m f.type _ _ (hd f hf) this
      obtain ⟨k, hk1, hk2⟩ := choose_list _ _ each
      have hcs := fields_flatten cs fs.toList 0 (P.cellsOf t) hruns hl
      simp only [List.drop_zero] at hcs
      refine ⟨k.flatten, ?_, ?_⟩
      · have := flat_rep' (w := w) (N := fun b => b < w.heap.size) (i := P0) k (fs.toList.map fun f => (cs.drop f.offset).take (P.cellsOf f.type)) (by simp [hk1]) (fun j a v h1 h2 => by
          simp only [List.getElem?_map, Option.map_eq_some_iff] at h2
          obtain ⟨f, h3, rfl⟩ := h2
          exact (hk2 j f a h3 h1).1)
        rwa [hcs] at this
      · simp only [hu]
        refine ⟨k, rfl, by simpa using hk1, fun i f p hf hp => ?_⟩
        obtain ⟨g1, g2⟩ := hk2 i f p hf hp
        refine ⟨?_, g2⟩
        rw [← g1.length, List.length_take, List.length_drop, hl]
        -- the field lies inside
        have inside : ∀ (l : List Field) (off tot : Nat), P.runs off l = some tot → off ≤ tot ∧ ∀ f ∈ l, f.offset + P.cellsOf f.type ≤ tot := by
          intro l
          induction l with
          | nil => intro off tot h; simp [Program.runs] at h; subst h; exact ⟨Nat.le_refl _, fun f hf => by cases hf⟩
          | cons f l ih =>
            intro off tot h
            simp only [Program.runs] at h
            split at h
            · rename_i ho
              obtain ⟨h1, h2⟩ := ih _ _ h
              refine ⟨by omega, fun g hg => ?_⟩
              rcases List.mem_cons.1 hg with rfl | hg
              · rw [ho]; exact h1
              · exact h2 g hg
            · cases h
        have := (inside _ _ _ hruns).2 f (List.mem_of_getElem? hf)
        omega
    · cases hd
end Go.AM
