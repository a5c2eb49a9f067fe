/-
  THE ABSTRACT MACHINE: a package variable that reads as a told datum (numbers, slices, structs) stands for the abstract value of that datum. Conditions: none.
-/
import Derived.LaidLaws
import Derived.Test.YtofceaeboboflaaDoorKAmD
set_option linter.all false
namespace Go.AM

mutual
/-- The cells of a datum. -/
def avD {H : Type} : DataW H → Option (List AV)
  | .lit (.int k n) => some [.int k n]
  | .agg parts => avDL parts
  | .slice es _ => (avDL es).map fun cs => [.fsl false es.length cs]
  | _ => none
def avDL {H : Type} : List (DataW H) → Option (List AV)
  | [] => some []
  | d :: r => (avD d).bind fun a => (avDL r).map fun b => a ++ b
end

/-- Types of such data. -/
def globT (P : Program) : Nat → TypeId → Bool
  | 0, _ => false
  | d + 1, t => match P.underlying t with
    | some (.int _) => true
    | some (.slice e) => !(P.cellsOf e == 0) && globT P d e
    | some (.struct fs) => P.runs 0 fs.toList == some (P.cellsOf t) && fs.toList.all fun f => globT P d f.type
    | _ => false

theorem trod_av {H : Type} {enc : TypeId × Value → H} {P : Program} {w : World} {base : Nat} {sp : Nat → Bool} {held : Bool} : ∀ (d fuel : Nat) (t : TypeId) (cs : List Value) (x : DataW H × List MemPlace),
    globT P d t = true → DataW.trod enc P w base sp held fuel t cs = some x → x.1 ≠ .nil → (∀ vs1, avD x.1 = some vs1 → RepL w (fun b => b < w.heap.size) P0 vs1 cs ∧ oneL vs1 = true)
  | 0, _, _, _, _, h, _, _ => by simp [globT] at h
  | d + 1, fuel, t, cs, x, hd, h, hnil => by
    intro vs1 ha
    unfold globT at hd
    split at hd
    · rename_i k hu
      obtain ⟨n, rfl, rfl, hw⟩ := DataW.trod_int hu h
      simp only [avD, Option.some.injEq] at ha
      subst ha
      exact ⟨RepL.cons rfl RepL.nil, rfl⟩
    · rename_i e hu
      simp only [Bool.and_eq_true, Bool.not_eq_true', beq_eq_false_iff_ne, ne_eq] at hd
      obtain ⟨h0, hd⟩ := hd
      rcases DataW.trod_slice hu h with ⟨rfl, rfl⟩ | ⟨a, len, cap, elems, rest, n, _, rfl, rfl, hb, hl, hm, hlen, hel, _⟩
      · exact (hnil rfl).elim
      · simp only [avD, Option.map_eq_some_iff] at ha
        obtain ⟨as0, ha, rfl⟩ := ha
        have sub : ∀ (l : List (DataW H × List MemPlace)) (as0 : List AV), avDL (l.map (·.1)) = some as0 → ∃ ks : List (List AV), ks.length = l.length ∧ as0 = ks.flatten ∧ ∀ (j : Nat) x k, l[j]? = some x → ks[j]? = some k → avD x.1 = some k := by
          intro l
          induction l with
          | nil => intro as0 h; simp [avDL] at h; exact ⟨[], rfl, by simp [h], fun j x k h1 h2 => by simp at h1⟩
          | cons y l ih =>
            intro as0 h
            simp only [List.map_cons, avDL, Option.bind_eq_some_iff, Option.map_eq_some_iff] at h
            obtain ⟨a1, h1, b1, h2, rfl⟩ := h
            obtain ⟨ks, k1, rfl, k3⟩ := ih b1 h2
            refine ⟨a1 :: ks, by simp [k1], rfl, fun j x k h3 h4 => ?_⟩
            cases j with
            | zero => simp at h3 h4; subst h3 h4; exact h1
            | succ j => exact k3 j x k (by simpa using h3) (by simpa using h4)
        obtain ⟨ks, hk0, rfl, hkd⟩ := sub elems as0 ha
        have each : ∀ i ∈ List.range len, ∃ q : List AV × List Value, ks[i]? = some q.1 ∧ RepL w (fun b => b < w.heap.size) P0 q.1 q.2 ∧ oneL q.1 = true ∧ q.2.length = P.cellsOf e ∧ ∀ (j : Nat) v, q.2[j]? = some v → w.cell? ((a.add (i * P.cellsOf e)).add j) = some v := by
          intro i hi
          have hi : i < len := by simpa using hi
          have := hel i hi
          have hs : elems[i]? = some (elems[i]'(by omega)) := List.getElem?_eq_getElem _
          have hsk : ks[i]? = some (ks[i]'(by omega)) := List.getElem?_eq_getElem _
          have hav := hkd i _ _ hs hsk
          rw [hs, Option.bind_eq_some_iff] at this
          obtain ⟨cs', h1, h2⟩ := this
          have hnn : (elems[i]'(by omega)).1 ≠ .nil := by
            intro hh; rw [hh] at hav; simp [avD] at hav
          obtain ⟨h3, h4⟩ := trod_av d n e cs' _ hd h2 hnn _ hav
          obtain ⟨h5, h6⟩ := cells?_old h1
          exact ⟨(ks[i]'(by omega), cs'), hsk, h3, h4, h5, h6⟩
        obtain ⟨k, hk1, hk2⟩ := choose_list _ _ each
        simp only [List.length_range] at hk1
        have hk : ∀ (i : Nat) q, k[i]? = some q → ks[i]? = some q.1 ∧ RepL w (fun b => b < w.heap.size) P0 q.1 q.2 ∧ oneL q.1 = true ∧ q.2.length = P.cellsOf e ∧ ∀ (j : Nat) v, q.2[j]? = some v → w.cell? ((a.add (i * P.cellsOf e)).add j) = some v := by
          intro i q hq
          have hi : i < len := by have := (List.getElem?_eq_some_iff.1 hq).1; omega
          exact hk2 i i q (by simp [hi]) hq
        have hks : ks = k.map (·.1) := by
          refine List.ext_getElem? fun i => ?_
          rw [List.getElem?_map]
          cases hq : k[i]? with
          | none =>
            have : k.length ≤ i := by simpa using hq
            simp; omega
          | some q => rw [(hk i q hq).1]; rfl
        subst hks
        have hone : oneL (k.map (·.1)).flatten = true := oneL_flatten _ (fun p hp => by
          obtain ⟨q, hq, rfl⟩ := List.mem_map.1 hp
          obtain ⟨i, hi⟩ := List.getElem?_of_mem hq
          exact (hk i q hi).2.2.1)
        refine ⟨RepL.cons ?_ RepL.nil, rfl⟩
        have hrep : RepL w (fun b => b < w.heap.size) P0 (k.map (·.1)).flatten (k.map (·.2)).flatten := by
          refine flat_rep' _ _ (by simp) (fun j x v h1 h2 => ?_)
          simp only [List.getElem?_map, Option.map_eq_some_iff] at h1 h2
          obtain ⟨q, hq, rfl⟩ := h1
          obtain ⟨q', hq', rfl⟩ := h2
          rw [hq] at hq'
          cases hq'
          exact (hk j q hq).2.1
        refine ⟨a, cap, (k.map (·.2)).flatten, by simp [hlen], by simpa [hlen] using hl, (fun h => by cases h), ?_, RepL.oneL hone hrep, hrep⟩
        by_cases hz : len = 0
        · have hk' : k = [] := by simpa [hz] using hk1
          subst hk'
          exact .inl ⟨by simp [hlen, hz], rfl⟩
        · right
          have hk0' : k[0]? = some (k[0]'(by omega)) := List.getElem?_eq_getElem _
          obtain ⟨_, _, _, g3, g4⟩ := hk 0 _ hk0'
          have hv0 : (k[0]'(by omega)).2[0]? = some ((k[0]'(by omega)).2[0]'(by omega)) := List.getElem?_eq_getElem _
          have c0 := g4 0 _ hv0
          obtain ⟨ab, aoff, aspot⟩ := a
          have hspot : aspot = none := by
            have := World.cell?_spot c0
            simpa [Addr.add] using this
          subst hspot
          refine ⟨ab, aoff, rfl, ?_, ?_⟩
          · simp only [Nat.zero_mul, add_lit, Nat.add_zero] at c0
            rcases Nat.lt_or_ge ab w.heap.size with h1 | h1
            · exact h1
            · simp [World.cell?, Array.getElem?_eq_none h1] at c0
          · intro j v hj
            have hc : 0 < P.cellsOf e := by omega
            have flat_get : ∀ (l : List (List Value)) (j : Nat) v, (∀ p ∈ l, p.length = P.cellsOf e) → l.flatten[j]? = some v → ∃ i r p, l[i]? = some p ∧ p[r]? = some v ∧ j = i * P.cellsOf e + r := by
              intro l
              induction l with
              | nil => intro j v _ h; simp at h
              | cons p l ih =>
                intro j v hp h
                rw [List.flatten_cons] at h
                have hpl := hp p (by simp)
                rcases Nat.lt_or_ge j p.length with h1 | h1
                · rw [List.getElem?_append_left h1] at h
                  exact ⟨0, j, p, rfl, h, by simp⟩
                · rw [List.getElem?_append_right h1] at h
                  obtain ⟨i, r, q, h2, h3, h4⟩ := ih (j - p.length) v (fun q hq => hp q (by simp [hq])) h
                  exact ⟨i + 1, r, q, by simpa using h2, h3, by rw [Nat.succ_mul]; omega⟩
            obtain ⟨i, r, p, h1, h2, rfl⟩ := flat_get _ j v (by
              intro p hp
              obtain ⟨q, hq, rfl⟩ := List.mem_map.1 hp
              obtain ⟨i, hi⟩ := List.getElem?_of_mem hq
              exact (hk i q hi).2.2.2.1) hj
            simp only [List.getElem?_map, Option.map_eq_some_iff] at h1
            obtain ⟨q, hq, rfl⟩ := h1
            have := (hk i q hq).2.2.2.2 r v h2
            rw [add_lit, add_lit] at this
            rw [← Nat.add_assoc]
            exact this
    · rename_i fs hu
      simp only [Bool.and_eq_true, beq_iff_eq, List.all_eq_true] at hd
      obtain ⟨hruns, hd⟩ := hd
      obtain ⟨xs, m, _, rfl, hl, hxl, hel⟩ := DataW.trod_struct hu h
      simp only [avD] at ha
      have sub : ∀ (l : List (DataW H × List MemPlace)) (as0 : List AV), avDL (l.map (·.1)) = some as0 → ∃ ks : List (List AV), ks.length = l.length ∧ as0 = ks.flatten ∧ ∀ (j : Nat) x k, l[j]? = some x → ks[j]? = some k → avD x.1 = some k := by
        intro l
        induction l with
        | nil => intro as0 h; simp [avDL] at h; exact ⟨[], rfl, by simp [h], fun j x k h1 h2 => by simp at h1⟩
        | cons y l ih =>
          intro as0 h
          simp only [List.map_cons, avDL, Option.bind_eq_some_iff, Option.map_eq_some_iff] at h
          obtain ⟨a1, h1, b1, h2, rfl⟩ := h
          obtain ⟨ks, k1, rfl, k3⟩ := ih b1 h2
          refine ⟨a1 :: ks, by simp [k1], rfl, fun j x k h3 h4 => ?_⟩
          cases j with
          | zero => simp at h3 h4; subst h3 h4; exact h1
          | succ j => exact k3 j x k (by simpa using h3) (by simpa using h4)
      obtain ⟨k, hk0, rfl, hkd⟩ := sub xs vs1 ha
      have hparts : ∀ (i : Nat) f p, fs.toList[i]? = some f → k[i]? = some p → RepL w (fun b => b < w.heap.size) P0 p ((cs.drop f.offset).take (P.cellsOf f.type)) ∧ oneL p = true := by
        intro i f p hf hp
        have hf' : fs[i]? = some f := by simpa using hf
        have hlt : i < fs.size := (Array.getElem?_eq_some_iff.1 hf').1
        have hs : xs[i]? = some (xs[i]'(by omega)) := List.getElem?_eq_getElem _
        have := hel i f hf'
        rw [hs] at this
        have hav := hkd i _ _ hs hp
        refine trod_av d m f.type _ _ (hd f (List.mem_of_getElem? hf)) this ?_ _ hav
        intro hh; rw [hh] at hav; simp [avD] at hav
      have hcs := fields_flatten cs fs.toList 0 (P.cellsOf t) hruns hl
      simp only [List.drop_zero] at hcs
      refine ⟨?_, oneL_flatten _ fun p hp => ?_⟩
      · have := flat_rep' (w := w) (N := fun b => b < w.heap.size) (i := P0) k (fs.toList.map fun f => (cs.drop f.offset).take (P.cellsOf f.type)) (by simp [hk0, hxl]) (fun j a v h1 h2 => by
          simp only [List.getElem?_map, Option.map_eq_some_iff] at h2
          obtain ⟨f, h3, rfl⟩ := h2
          exact (hparts j f a h3 h1).1)
        rwa [hcs] at this
      · obtain ⟨i, hi⟩ := List.getElem?_of_mem hp
        have hlt : i < fs.toList.length := by
          have := (List.getElem?_eq_some_iff.1 hi).1
          simp; omega
        exact (hparts i _ p (List.getElem?_eq_getElem hlt) hi).2
    · cases hd

/-- A listed variable stands for its datum. -/
theorem laid_glob {P : Program} {w : World} {n : String} {d : DataW Unit} {g : Nat} {t : TypeId} {vals : List AV} (h : laidMet P [(n, d)] w) (hg : P.globalNamed n = some g) (ht : (P.globals[g]?).map (·.type) = some t)
    (hT : globT P 8 t = true) (ha : avD d = some vals) : Rep w (fun b => b < w.heap.size) P0 (.fptr vals) (.pointer (some ⟨g, 0, none⟩)) := by
  obtain ⟨ps, ⟨g', t', cs, fuel, p, q, hg', ht', hvar, hd, _, _⟩, _⟩ := h
  obtain rfl := Option.some.inj (hg.symm.trans hg')
  obtain rfl := Option.some.inj (ht.symm.trans ht')
  obtain ⟨h1, h2⟩ := trod_av 8 fuel t _ _ hT hd (by intro hh; simp only at hh; rw [hh] at ha; simp [avD] at ha) vals ha
  refine ⟨g, 0, cs.toList, ?_, rfl, fun j v hj => ?_, RepL.oneL h2 h1, h1⟩
  · simp only [World.var?, hg, Option.bind_some] at hvar
    split at hvar
    · rename_i hh
      exact (Array.getElem?_eq_some_iff.1 hh).1
    · cases hvar
  · rw [Nat.zero_add, World.var?_cell hg hvar j]
    simpa using hj
end Go.AM
