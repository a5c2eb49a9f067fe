/-
  THE ABSTRACT MACHINE: a package variable that reads as a told datum (numbers, slices, structs) stands for the abstract value of that datum. Conditions: none.
-/
import Derived.LaidLaws
import Derived.Shelf.Sort.Plain
import Derived.Test.YtofceaeboboflaaDoorKAmD
import Derived.Test.YtofceaeboboflaaDoorKAmH
import Derived.Test.YtofceaeboboflaaDoorKAmG
import Derived.Test.YtofceaeboboflaaDoorKAmC
import Derived.Test.YtofceaeboboflaaDoorKAmF
set_option linter.all false
namespace Go.AM

mutual
/-- The cells of a datum. -/
def avD {H : Type} : DataW H → Option (List AV)
  | .lit (.int k n) => some [.int k n]
  | .agg parts => avDL parts
  | .slice es _ => (avDL es).map fun cs => [.fsl false es.length cs]
  | _ => none
def avDL {H : Type} : List (DataW H) → Option (List AV)
  | [] => some []
  | d :: r => (avD d).bind fun a => (avDL r).map fun b => a ++ b
end

/-- Types of such data. -/
def globT (P : Program) : Nat → TypeId → Bool
  | 0, _ => false
  | d + 1, t => match P.underlying t with
    | some (.int _) => true
    | some (.slice e) => !(P.cellsOf e == 0) && globT P d e
    | some (.struct fs) => P.runs 0 fs.toList == some (P.cellsOf t) && fs.toList.all fun f => globT P d f.type
    | _ => false

theorem trod_av {H : Type} {enc : TypeId × Value → H} {P : Program} {w : World} {base : Nat} {sp : Nat → Bool} {held : Bool} : ∀ (d fuel : Nat) (t : TypeId) (cs : List Value) (x : DataW H × List MemPlace),
    globT P d t = true → DataW.trod enc P w base sp held fuel t cs = some x → x.1 ≠ .nil → (∀ vs1, avD x.1 = some vs1 → RepL w (fun b => b < w.heap.size) P0 vs1 cs ∧ oneL vs1 = true)
  | 0, _, _, _, _, h, _, _ => by simp [globT] at h
  | d + 1, fuel, t, cs, x, hd, h, hnil => by
    intro vs1 ha
    unfold globT at hd
    split at hd
    · rename_i k hu
      obtain ⟨n, rfl, rfl, hw⟩ := DataW.trod_int hu h
      simp only [avD, Option.some.injEq] at ha
      subst ha
      exact ⟨RepL.cons rfl RepL.nil, rfl⟩
    · rename_i e hu
      simp only [Bool.and_eq_true, Bool.not_eq_true', beq_eq_false_iff_ne, ne_eq] at hd
      obtain ⟨h0, hd⟩ := hd
      rcases DataW.trod_slice hu h with ⟨rfl, rfl⟩ | ⟨a, len, cap, elems, rest, n, _, rfl, rfl, hb, hl, hm, hlen, hel, _⟩
      · exact (hnil rfl).elim
      · simp only [avD, Option.map_eq_some_iff] at ha
        obtain ⟨as0, ha, rfl⟩ := ha
        have sub : ∀ (l : List (DataW H × List MemPlace)) (as0 : List AV), avDL (l.map (·.1)) = some as0 → ∃ ks : List (List AV), ks.length = l.length ∧ as0 = ks.flatten ∧ ∀ (j : Nat) x k, l[j]? = some x → ks[j]? = some k → avD x.1 = some k := by
          intro l
          induction l with
          | nil => intro as0 h; simp [avDL] at h; exact ⟨[], rfl, by simp [h], fun j x k h1 h2 => by simp at h1⟩
          | cons y l ih =>
            intro as0 h
            simp only [List.map_cons, avDL, Option.bind_eq_some_iff, Option.map_eq_some_iff] at h
            obtain ⟨a1, h1, b1, h2, rfl⟩ := h
            obtain ⟨ks, k1, rfl, k3⟩ := ih b1 h2
            refine ⟨a1 :: ks, by simp [k1], rfl, fun j x k h3 h4 => ?_⟩
            cases j with
            | zero => simp at h3 h4; subst h3 h4; exact h1
            | succ j => exact k3 j x k (by simpa using h3) (by simpa using h4)
        obtain ⟨ks, hk0, rfl, hkd⟩ := sub elems as0 ha
        have each : ∀ i ∈ List.range len, ∃ q : List AV × List Value, ks[i]? = some q.1 ∧ RepL w (fun b => b < w.heap.size) P0 q.1 q.2 ∧ oneL q.1 = true ∧ q.2.length = P.cellsOf e ∧ ∀ (j : Nat) v, q.2[j]? = some v → w.cell? ((a.add (i * P.cellsOf e)).add j) = some v := by
          intro i hi
          have hi : i < len := by simpa using hi
          have := hel i hi
          have hs : elems[i]? = some (elems[i]'(by omega)) := List.getElem?_eq_getElem _
          have hsk : ks[i]? = some (ks[i]'(by omega)) := List.getElem?_eq_getElem _
          have hav := hkd i _ _ hs hsk
          rw [hs, Option.bind_eq_some_iff] at this
          obtain ⟨cs', h1, h2⟩ := this
          have hnn : (elems[i]'(by omega)).1 ≠ .nil := by
            intro hh; rw [hh] at hav; simp [avD] at hav
          obtain ⟨h3, h4⟩ := trod_av d n e cs' _ hd h2 hnn _ hav
          obtain ⟨h5, h6⟩ := cells?_old h1
          exact ⟨(ks[i]'(by omega), cs'), hsk, h3, h4, h5, h6⟩
        obtain ⟨k, hk1, hk2⟩ := choose_list _ _ each
        simp only [List.length_range] at hk1
        have hk : ∀ (i : Nat) q, k[i]? = some q → ks[i]? = some q.1 ∧ RepL w (fun b => b < w.heap.size) P0 q.1 q.2 ∧ oneL q.1 = true ∧ q.2.length = P.cellsOf e ∧ ∀ (j : Nat) v, q.2[j]? = some v → w.cell? ((a.add (i * P.cellsOf e)).add j) = some v := by
          intro i q hq
          have hi : i < len := by have := (List.getElem?_eq_some_iff.1 hq).1; omega
          exact hk2 i i q (by simp [hi]) hq
        have hks : ks = k.map (·.1) := by
          refine List.ext_getElem? fun i => ?_
          rw [List.getElem?_map]
          cases hq : k[i]? with
          | none =>
            have : k.length ≤ i := by simpa using hq
            simp; omega
          | some q => rw [(hk i q hq).1]; rfl
        subst hks
        have hone : oneL (k.map (·.1)).flatten = true := oneL_flatten _ (fun p hp => by
          obtain ⟨q, hq, rfl⟩ := List.mem_map.1 hp
          obtain ⟨i, hi⟩ := List.getElem?_of_mem hq
          exact (hk i q hi).2.2.1)
        refine ⟨RepL.cons ?_ RepL.nil, rfl⟩
        have hrep : RepL w (fun b => b < w.heap.size) P0 (k.map (·.1)).flatten (k.map (·.2)).flatten := by
          refine flat_rep' _ _ (by simp) (fun j x v h1 h2 => ?_)
          simp only [List.getElem?_map, Option.map_eq_some_iff] at h1 h2
          obtain ⟨q, hq, rfl⟩ := h1
          obtain ⟨q', hq', rfl⟩ := h2
          rw [hq] at hq'
          cases hq'
          exact (hk j q hq).2.1
        refine ⟨a, cap, (k.map (·.2)).flatten, by simp [hlen], by simpa [hlen] using hl, (fun h => by cases h), ?_, RepL.oneL hone hrep, hrep⟩
        by_cases hz : len = 0
        · have hk' : k = [] := by simpa [hz] using hk1
          subst hk'
          exact .inl ⟨by simp [hlen, hz], rfl⟩
        · right
          have hk0' : k[0]? = some (k[0]'(by omega)) := List.getElem?_eq_getElem _
          obtain ⟨_, _, _, g3, g4⟩ := hk 0 _ hk0'
          have hv0 : (k[0]'(by omega)).2[0]? = some ((k[0]'(by omega)).2[0]'(by omega)) := List.getElem?_eq_getElem _
          have c0 := g4 0 _ hv0
          obtain ⟨ab, aoff, aspot⟩ := a
          have hspot : aspot = none := by
            have := World.cell?_spot c0
            simpa [Addr.add] using this
          subst hspot
          refine ⟨ab, aoff, rfl, ?_, ?_⟩
          · simp only [Nat.zero_mul, add_lit, Nat.add_zero] at c0
            rcases Nat.lt_or_ge ab w.heap.size with h1 | h1
            · exact h1
            · simp [World.cell?, Array.getElem?_eq_none h1] at c0
          · intro j v hj
            have hc : 0 < P.cellsOf e := by omega
            have flat_get : ∀ (l : List (List Value)) (j : Nat) v, (∀ p ∈ l, p.length = P.cellsOf e) → l.flatten[j]? = some v → ∃ i r p, l[i]? = some p ∧ p[r]? = some v ∧ j = i * P.cellsOf e + r := by
              intro l
              induction l with
              | nil => intro j v _ h; simp at h
              | cons p l ih =>
                intro j v hp h
                rw [List.flatten_cons] at h
                have hpl := hp p (by simp)
                rcases Nat.lt_or_ge j p.length with h1 | h1
                · rw [List.getElem?_append_left h1] at h
                  exact ⟨0, j, p, rfl, h, by simp⟩
                · rw [List.getElem?_append_right h1] at h
                  obtain ⟨i, r, q, h2, h3, h4⟩ := ih (j - p.length) v (fun q hq => hp q (by simp [hq])) h
                  exact ⟨i + 1, r, q, by simpa using h2, h3, by rw [Nat.succ_mul]; omega⟩
            obtain ⟨i, r, p, h1, h2, rfl⟩ := flat_get _ j v (by
              intro p hp
              obtain ⟨q, hq, rfl⟩ := List.mem_map.1 hp
              obtain ⟨i, hi⟩ := List.getElem?_of_mem hq
              exact (hk i q hi).2.2.2.1) hj
            simp only [List.getElem?_map, Option.map_eq_some_iff] at h1
            obtain ⟨q, hq, rfl⟩ := h1
            have := (hk i q hq).2.2.2.2 r v h2
            rw [add_lit, add_lit] at this
            rw [← Nat.add_assoc]
            exact this
    · rename_i fs hu
      simp only [Bool.and_eq_true, beq_iff_eq, List.all_eq_true] at hd
      obtain ⟨hruns, hd⟩ := hd
      obtain ⟨xs, m, _, rfl, hl, hxl, hel⟩ := DataW.trod_struct hu h
      simp only [avD] at ha
      have sub : ∀ (l : List (DataW H × List MemPlace)) (as0 : List AV), avDL (l.map (·.1)) = some as0 → ∃ ks : List (List AV), ks.length = l.length ∧ as0 = ks.flatten ∧ ∀ (j : Nat) x k, l[j]? = some x → ks[j]? = some k → avD x.1 = some k := by
        intro l
        induction l with
        | nil => intro as0 h; simp [avDL] at h; exact ⟨[], rfl, by simp [h], fun j x k h1 h2 => by simp at h1⟩
        | cons y l ih =>
          intro as0 h
          simp only [List.map_cons, avDL, Option.bind_eq_some_iff, Option.map_eq_some_iff] at h
          obtain ⟨a1, h1, b1, h2, rfl⟩ := h
          obtain ⟨ks, k1, rfl, k3⟩ := ih b1 h2
          refine ⟨a1 :: ks, by simp [k1], rfl, fun j x k h3 h4 => ?_⟩
          cases j with
          | zero => simp at h3 h4; subst h3 h4; exact h1
          | succ j => exact k3 j x k (by simpa using h3) (by simpa using h4)
      obtain ⟨k, hk0, rfl, hkd⟩ := sub xs vs1 ha
      have hparts : ∀ (i : Nat) f p, fs.toList[i]? = some f → k[i]? = some p → RepL w (fun b => b < w.heap.size) P0 p ((cs.drop f.offset).take (P.cellsOf f.type)) ∧ oneL p = true := by
        intro i f p hf hp
        have hf' : fs[i]? = some f := by simpa using hf
        have hlt : i < fs.size := (Array.getElem?_eq_some_iff.1 hf').1
        have hs : xs[i]? = some (xs[i]'(by omega)) := List.getElem?_eq_getElem _
        have := hel i f hf'
        rw [hs] at this
        have hav := hkd i _ _ hs hp
        refine trod_av d m f.type _ _ (hd f (List.mem_of_getElem? hf)) this ?_ _ hav
        intro hh; rw [hh] at hav; simp [avD] at hav
      have hcs := fields_flatten cs fs.toList 0 (P.cellsOf t) hruns hl
      simp only [List.drop_zero] at hcs
      refine ⟨?_, oneL_flatten _ fun p hp => ?_⟩
      · have := flat_rep' (w := w) (N := fun b => b < w.heap.size) (i := P0) k (fs.toList.map fun f => (cs.drop f.offset).take (P.cellsOf f.type)) (by simp [hk0, hxl]) (fun j a v h1 h2 => by
          simp only [List.getElem?_map, Option.map_eq_some_iff] at h2
          obtain ⟨f, h3, rfl⟩ := h2
          exact (hparts j f a h3 h1).1)
        rwa [hcs] at this
      · obtain ⟨i, hi⟩ := List.getElem?_of_mem hp
        have hlt : i < fs.toList.length := by
          have := (List.getElem?_eq_some_iff.1 hi).1
          simp; omega
        exact (hparts i _ p (List.getElem?_eq_getElem hlt) hi).2
    · cases hd

/-- A listed variable stands for its datum. -/
theorem laid_glob {P : Program} {w : World} {n : String} {d : DataW Unit} {g : Nat} {t : TypeId} {vals : List AV} (h : laidMet P [(n, d)] w) (hg : P.globalNamed n = some g) (ht : (P.globals[g]?).map (·.type) = some t)
    (hT : globT P 8 t = true) (ha : avD d = some vals) : Rep w (fun b => b < w.heap.size) P0 (.fptr vals) (.pointer (some ⟨g, 0, none⟩)) := by
  obtain ⟨ps, ⟨g', t', cs, fuel, p, q, hg', ht', hvar, hd, _, _⟩, _⟩ := h
  obtain rfl := Option.some.inj (hg.symm.trans hg')
  obtain rfl := Option.some.inj (ht.symm.trans ht')
  obtain ⟨h1, h2⟩ := trod_av 8 fuel t _ _ hT hd (by intro hh; simp only at hh; rw [hh] at ha; simp [avD] at ha) vals ha
  refine ⟨g, 0, cs.toList, ?_, rfl, fun j v hj => ?_, RepL.oneL h2 h1, h1⟩
  · simp only [World.var?, hg, Option.bind_some] at hvar
    split at hvar
    · rename_i hh
      exact (Array.getElem?_eq_some_iff.1 hh).1
    · cases hvar
  · rw [Nat.zero_add, World.var?_cell hg hvar j]
    simpa using hj
end Go.AM

/-
  BODIES OF FUNCTIONS OF THE PROGRAM AS SMALL OPERATIONS (written by gen.py; checked by the kernel against the program). Conditions: none.
-/
namespace Go.Proofs.YtofceaeboboflaaDoor
open Go.AM
open Go.Proofs.Tryd (prog)
set_option maxRecDepth 100000
set_option linter.all false



namespace r04_Gcd
/-- pommel/pommelref04.Gcd -/
noncomputable def b : Code := (Tryd.f12.body).getD .skip
theorem hf : prog.funcs[12]? = some Tryd.f12 := by kernel_rfl
noncomputable def r0 : Code := findReg b 0
noncomputable def k0 : Code := findBlk b 0
noncomputable def l0 : Code := loopOf k0
noncomputable def L0 (x0 x1 : AV) (m : Mem) (K : List Item) : Option Res := den prog ann 12 (.code l0 :: .inLoop l0 :: .inBlock 0 :: K) ⟨[(0, x0), (1, x1)], 12, m⟩
noncomputable def r1 : Code := findReg b 1
noncomputable def i0 : Code := findCond b 0
noncomputable def i0t : Code := thenOf i0
noncomputable def i0e : Code := elseOf i0
noncomputable def k1 : Code := findBlk b 1
noncomputable def r2 : Code := findReg b 2
noncomputable def r3 : Code := findReg b 3
theorem b_eq (K : List Item) (s : St) : den prog ann 12 (.code b :: K) s = den prog ann 12 (.code r0 :: .code k0 :: .code r3 :: .code .ret :: K) s := den_flat hf (l := [r0, k0, r3, .ret]) (by kernel_rfl) K s
theorem r0_eq (K : List Item) (s : St) : den prog ann 12 (.code r0 :: K) s = mreg prog ann 12 none [] none [] [
    ⟨some 4, none, .v fun s => some (.int .i64 0)⟩] K s := (den_reg hf _ K s).trans (by kernel_rfl)
theorem k0_eq (K : List Item) (t : List (Nat × AV)) (m : Mem) : den prog ann 12 (.code k0 :: K) ⟨t, 12, m⟩ = L0 (get t 0) (get t 1) m K := den_loop_enter hf (b := l0) (id := 1) (l := [0, 1]) (by kernel_rfl) (by kernel_rfl) (by kernel_rfl) K _
theorem l0_eq (K : List Item) (t : List (Nat × AV)) (m : Mem) : den prog ann 12 (.inLoop l0 :: .inBlock 0 :: K) ⟨t, 12, m⟩ = L0 (get t 0) (get t 1) m K := den_loop_again hf (id := 1) (l := [0, 1]) (by kernel_rfl) (by kernel_rfl) (.inBlock 0 :: K) _
theorem L0_eq (x0 x1 : AV) (m : Mem) (K : List Item) : L0 x0 x1 m K = den prog ann 12 (.code r1 :: .code i0 :: .code k1 :: .inLoop l0 :: .inBlock 0 :: K) ⟨[(0, x0), (1, x1)], 12, m⟩ := den_flat hf (l := [r1, i0, k1]) (by kernel_rfl) _ _
theorem r1_eq (K : List Item) (s : St) : den prog ann 12 (.code r1 :: K) s = mreg prog ann 12 (some [0, 1]) [] none [] [
    ⟨some 5, none, .v fun s => some (s.get 1)⟩,
    ⟨some 6, none, .v fun s => binA prog .gtr 3 (s.get 5) (.int .i64 0)⟩] K s := (den_reg hf _ K s).trans (by kernel_rfl)
theorem i0_eq (K : List Item) (s : St) : den prog ann 12 (.code i0 :: K) s = ifV prog ann 12 6 i0t i0e K s (s.get 6) := den_if hf (by kernel_rfl) K s
theorem i0t_eq (K : List Item) (s : St) : den prog ann 12 (.code i0t :: K) s = den prog ann 12 (K) s := den_flat hf (l := []) (by kernel_rfl) K s
theorem i0e_eq (K : List Item) (s : St) : den prog ann 12 (.code i0e :: K) s = den prog ann 12 (.code (.exit 0) :: K) s := den_flat hf (l := [(.exit 0)]) (by kernel_rfl) K s
theorem k1_eq (K : List Item) (s : St) : den prog ann 12 (.code k1 :: K) s = den prog ann 12 (.code r2 :: .inBlock 1 :: K) s := den_blk hf (b := blkOf k1) (l := [r2]) (by kernel_rfl) (by kernel_rfl) K s
theorem r2_draw : drawOk (fun g => (ann g).pure) (modeOf (ann 12) (idOf r2)) (frzOf (ann 12) (idOf r2)) (opsOf r2) = true := drawOk_of (an := [0, 0, 0, 6, 3, 31]) (by kernel_rfl) (by kernel_rfl)
theorem r2_eq (K : List Item) (s : St) : den prog ann 12 (.code r2 :: K) s = mreg prog ann 12 none [] (some 6) [] [
    ⟨some 7, none, .v fun s => some (s.get 1)⟩,
    ⟨some 8, none, .v fun s => some (s.get 0)⟩,
    ⟨some 9, none, .v fun s => some (s.get 1)⟩,
    ⟨some 10, none, .v fun s => binA prog .rem 3 (s.get 8) (s.get 9)⟩,
    ⟨some 0, none, .v fun s => some (s.get 7)⟩,
    ⟨some 1, none, .v fun s => some (s.get 10)⟩] K s := (den_regD hf r2_draw K s).trans (by kernel_rfl)
theorem r3_eq (K : List Item) (s : St) : den prog ann 12 (.code r3 :: K) s = mreg prog ann 12 (some [0]) [] none [] [
    ⟨some 11, none, .v fun s => some (s.get 0)⟩,
    ⟨some 4, none, .v fun s => some (s.get 11)⟩] K s := (den_reg hf _ K s).trans (by kernel_rfl)
theorem ret_eq (K : List Item) (s : St) : den prog ann 12 (.code .ret :: K) s = finM true [fun s => some (s.get 4)] s := (den_ret hf K s).trans (by kernel_rfl)
theorem nil_eq (s : St) : den prog ann 12 [] s = finM true [fun s => some (s.get 4)] s := (den_nil hf s).trans (by kernel_rfl)
theorem inBlock_eq (id : Nat) (K : List Item) (s : St) : den prog ann 12 (.inBlock id :: K) s = den prog ann 12 K s := den_inBlock hf id K s
theorem exit_eq (id : Nat) (K : List Item) (s : St) : den prog ann 12 (.code (.exit id) :: K) s = exitV prog ann 12 (exitTo id K) s := den_exitV hf id K s
theorem call_eq (v0 v1 : AV) (m : Mem) (h : closedL [v0, v1] = true) : denC prog ann 12 [v0, v1] m = (den prog ann 12 [.code b] ⟨[(0, v0), (1, v1)], 12, Mem.empty⟩).bind fun r => some (r.1, m) := (denC_pure hf (b := b) (by kernel_rfl) (by kernel_rfl) (by kernel_rfl) h m).trans (by kernel_rfl)
theorem pure_eq : (ann 12).pure = true := by kernel_rfl
attribute [simp] b_eq r0_eq k0_eq l0_eq r1_eq i0_eq i0t_eq i0e_eq k1_eq r2_eq r3_eq ret_eq nil_eq inBlock_eq exit_eq pure_eq
end r04_Gcd

namespace r04_Turned
/-- pommel/pommelref04.Turned -/
noncomputable def b : Code := (Tryd.f13.body).getD .skip
theorem hf : prog.funcs[13]? = some Tryd.f13 := by kernel_rfl
noncomputable def r0 : Code := findReg b 0
noncomputable def r1 : Code := findReg b 1
noncomputable def r2 : Code := findReg b 2
noncomputable def k0 : Code := findBlk b 0
noncomputable def l0 : Code := loopOf k0
noncomputable def L0 (x0 x1 x2 x3 x9 x10 x11 : AV) (m : Mem) (K : List Item) : Option Res := den prog ann 13 (.code l0 :: .inLoop l0 :: .inBlock 0 :: K) ⟨[(0, x0), (1, x1), (2, x2), (3, x3), (9, x9), (10, x10), (11, x11)], 48, m⟩
noncomputable def r3 : Code := findReg b 3
noncomputable def i0 : Code := findCond b 0
noncomputable def i0t : Code := thenOf i0
noncomputable def i0e : Code := elseOf i0
noncomputable def k1 : Code := findBlk b 1
noncomputable def r5 : Code := findReg b 5
noncomputable def r4 : Code := findReg b 4
noncomputable def r6 : Code := findReg b 6
noncomputable def k2 : Code := findBlk b 2
noncomputable def l2 : Code := loopOf k2
noncomputable def L2 (x0 x9 x10 x12 : AV) (m : Mem) (K : List Item) : Option Res := den prog ann 13 (.code l2 :: .inLoop l2 :: .inBlock 2 :: K) ⟨[(0, x0), (9, x9), (10, x10), (12, x12)], 48, m⟩
noncomputable def r7 : Code := findReg b 7
noncomputable def i1 : Code := findCond b 1
noncomputable def i1t : Code := thenOf i1
noncomputable def i1e : Code := elseOf i1
noncomputable def k3 : Code := findBlk b 3
noncomputable def r9 : Code := findReg b 9
noncomputable def i2 : Code := findCond b 2
noncomputable def i2t : Code := thenOf i2
noncomputable def i2e : Code := elseOf i2
noncomputable def r10 : Code := findReg b 10
noncomputable def r8 : Code := findReg b 8
noncomputable def r11 : Code := findReg b 11
theorem b_eq (K : List Item) (s : St) : den prog ann 13 (.code b :: K) s = den prog ann 13 (.code r0 :: .code r1 :: .code r2 :: .code k0 :: .code r6 :: .code k2 :: .code r11 :: .code .ret :: K) s := den_flat hf (l := [r0, r1, r2, k0, r6, k2, r11, .ret]) (by kernel_rfl) K s
theorem r0_eq (K : List Item) (s : St) : den prog ann 13 (.code r0 :: K) s = mreg prog ann 13 none [] none [] [
    ⟨some 8, none, .v fun s => some (.nils)⟩] K s := (den_reg hf _ K s).trans (by kernel_rfl)
theorem r1_eq (K : List Item) (s : St) : den prog ann 13 (.code r1 :: K) s = mreg prog ann 13 none [] none [] [
    ⟨some 13, none, .v fun s => some (s.get 0)⟩,
    ⟨some 14, none, .w false none fun s => makeA 1 1 (.bool false) s.m (s.get 13) (s.get 13)⟩,
    ⟨some 15, none, .w false none fun s => bslM s.m 0 (bslA 1 0 [.int .i64 0] [])⟩,
    ⟨some 9, none, .v fun s => some (s.get 14)⟩,
    ⟨some 10, none, .v fun s => some (s.get 15)⟩] K s := (den_reg hf _ K s).trans (by kernel_rfl)
theorem r2_eq (K : List Item) (s : St) : den prog ann 13 (.code r2 :: K) s = mreg prog ann 13 none [] none [] [
    ⟨some 11, none, .v fun s => some (.int .i64 0)⟩] K s := (den_reg hf _ K s).trans (by kernel_rfl)
theorem k0_eq (K : List Item) (t : List (Nat × AV)) (m : Mem) : den prog ann 13 (.code k0 :: K) ⟨t, 48, m⟩ = L0 (get t 0) (get t 1) (get t 2) (get t 3) (get t 9) (get t 10) (get t 11) m K := den_loop_enter hf (b := l0) (id := 3) (l := [0, 1, 2, 3, 9, 10, 11]) (by kernel_rfl) (by kernel_rfl) (by kernel_rfl) K _
theorem l0_eq (K : List Item) (t : List (Nat × AV)) (m : Mem) : den prog ann 13 (.inLoop l0 :: .inBlock 0 :: K) ⟨t, 48, m⟩ = L0 (get t 0) (get t 1) (get t 2) (get t 3) (get t 9) (get t 10) (get t 11) m K := den_loop_again hf (id := 3) (l := [0, 1, 2, 3, 9, 10, 11]) (by kernel_rfl) (by kernel_rfl) (.inBlock 0 :: K) _
theorem L0_eq (x0 x1 x2 x3 x9 x10 x11 : AV) (m : Mem) (K : List Item) : L0 x0 x1 x2 x3 x9 x10 x11 m K = den prog ann 13 (.code r3 :: .code i0 :: .code k1 :: .code r4 :: .inLoop l0 :: .inBlock 0 :: K) ⟨[(0, x0), (1, x1), (2, x2), (3, x3), (9, x9), (10, x10), (11, x11)], 48, m⟩ := den_flat hf (l := [r3, i0, k1, r4]) (by kernel_rfl) _ _
theorem r3_eq (K : List Item) (s : St) : den prog ann 13 (.code r3 :: K) s = mreg prog ann 13 (some [0, 1, 2, 3, 9, 10, 11]) [] none [] [
    ⟨some 16, none, .v fun s => some (s.get 11)⟩,
    ⟨some 17, none, .v fun s => some (s.get 1)⟩,
    ⟨some 18, none, .v fun s => lenSl (s.get 17)⟩,
    ⟨some 19, none, .v fun s => binA prog .lss 3 (s.get 16) (s.get 18)⟩] K s := (den_reg hf _ K s).trans (by kernel_rfl)
theorem i0_eq (K : List Item) (s : St) : den prog ann 13 (.code i0 :: K) s = ifV prog ann 13 19 i0t i0e K s (s.get 19) := den_if hf (by kernel_rfl) K s
theorem i0t_eq (K : List Item) (s : St) : den prog ann 13 (.code i0t :: K) s = den prog ann 13 (K) s := den_flat hf (l := []) (by kernel_rfl) K s
theorem i0e_eq (K : List Item) (s : St) : den prog ann 13 (.code i0e :: K) s = den prog ann 13 (.code (.exit 0) :: K) s := den_flat hf (l := [(.exit 0)]) (by kernel_rfl) K s
theorem k1_eq (K : List Item) (s : St) : den prog ann 13 (.code k1 :: K) s = den prog ann 13 (.code r5 :: .inBlock 1 :: K) s := den_blk hf (b := blkOf k1) (l := [r5]) (by kernel_rfl) (by kernel_rfl) K s
theorem r5_eq (K : List Item) (s : St) : den prog ann 13 (.code r5 :: K) s = mreg prog ann 13 none [] none [] [
    ⟨some 22, none, .v fun s => some (s.get 9)⟩,
    ⟨some 23, none, .v fun s => some (s.get 1)⟩,
    ⟨some 24, none, .v fun s => some (s.get 11)⟩,
    ⟨some 25, none, .v fun s => idxSl 1 (s.get 23) (s.get 24)⟩,
    ⟨some 26, none, .v fun s => loadF false 1 (s.get 25)⟩,
    ⟨some 27, none, .v fun s => some (s.get 2)⟩,
    ⟨some 28, none, .v fun s => binA prog .mul 3 (s.get 26) (s.get 27)⟩,
    ⟨some 29, none, .v fun s => some (s.get 3)⟩,
    ⟨some 30, none, .v fun s => binA prog .add 3 (s.get 28) (s.get 29)⟩,
    ⟨some 31, none, .v fun s => some (s.get 0)⟩,
    ⟨some 32, none, .v fun s => binA prog .rem 3 (s.get 30) (s.get 31)⟩,
    ⟨some 33, none, .v fun s => idxSl 1 (s.get 22) (s.get 32)⟩,
    ⟨none, none, .w false none fun s => stA false 1 s.m (s.get 33) (.bool true)⟩] K s := (den_reg hf _ K s).trans (by kernel_rfl)
theorem r4_eq (K : List Item) (s : St) : den prog ann 13 (.code r4 :: K) s = mreg prog ann 13 (some [0, 1, 2, 3, 9, 10, 11]) [] none [] [
    ⟨some 20, none, .v fun s => some (s.get 11)⟩,
    ⟨some 21, none, .v fun s => binA prog .add 3 (s.get 20) (.int .i64 1)⟩,
    ⟨some 11, none, .v fun s => some (s.get 21)⟩] K s := (den_reg hf _ K s).trans (by kernel_rfl)
theorem r6_eq (K : List Item) (s : St) : den prog ann 13 (.code r6 :: K) s = mreg prog ann 13 (some [0, 9, 10]) [] none [] [
    ⟨some 12, none, .v fun s => some (.int .i64 0)⟩] K s := (den_reg hf _ K s).trans (by kernel_rfl)
theorem k2_eq (K : List Item) (t : List (Nat × AV)) (m : Mem) : den prog ann 13 (.code k2 :: K) ⟨t, 48, m⟩ = L2 (get t 0) (get t 9) (get t 10) (get t 12) m K := den_loop_enter hf (b := l2) (id := 7) (l := [0, 9, 10, 12]) (by kernel_rfl) (by kernel_rfl) (by kernel_rfl) K _
theorem l2_eq (K : List Item) (t : List (Nat × AV)) (m : Mem) : den prog ann 13 (.inLoop l2 :: .inBlock 2 :: K) ⟨t, 48, m⟩ = L2 (get t 0) (get t 9) (get t 10) (get t 12) m K := den_loop_again hf (id := 7) (l := [0, 9, 10, 12]) (by kernel_rfl) (by kernel_rfl) (.inBlock 2 :: K) _
theorem L2_eq (x0 x9 x10 x12 : AV) (m : Mem) (K : List Item) : L2 x0 x9 x10 x12 m K = den prog ann 13 (.code r7 :: .code i1 :: .code k3 :: .code r8 :: .inLoop l2 :: .inBlock 2 :: K) ⟨[(0, x0), (9, x9), (10, x10), (12, x12)], 48, m⟩ := den_flat hf (l := [r7, i1, k3, r8]) (by kernel_rfl) _ _
theorem r7_eq (K : List Item) (s : St) : den prog ann 13 (.code r7 :: K) s = mreg prog ann 13 (some [0, 9, 10, 12]) [] none [] [
    ⟨some 34, none, .v fun s => some (s.get 12)⟩,
    ⟨some 35, none, .v fun s => some (s.get 0)⟩,
    ⟨some 36, none, .v fun s => binA prog .lss 3 (s.get 34) (s.get 35)⟩] K s := (den_reg hf _ K s).trans (by kernel_rfl)
theorem i1_eq (K : List Item) (s : St) : den prog ann 13 (.code i1 :: K) s = ifV prog ann 13 36 i1t i1e K s (s.get 36) := den_if hf (by kernel_rfl) K s
theorem i1t_eq (K : List Item) (s : St) : den prog ann 13 (.code i1t :: K) s = den prog ann 13 (K) s := den_flat hf (l := []) (by kernel_rfl) K s
theorem i1e_eq (K : List Item) (s : St) : den prog ann 13 (.code i1e :: K) s = den prog ann 13 (.code (.exit 2) :: K) s := den_flat hf (l := [(.exit 2)]) (by kernel_rfl) K s
theorem k3_eq (K : List Item) (s : St) : den prog ann 13 (.code k3 :: K) s = den prog ann 13 (.code r9 :: .code i2 :: .inBlock 3 :: K) s := den_blk hf (b := blkOf k3) (l := [r9, i2]) (by kernel_rfl) (by kernel_rfl) K s
theorem r9_eq (K : List Item) (s : St) : den prog ann 13 (.code r9 :: K) s = mreg prog ann 13 none [] none [] [
    ⟨some 39, none, .v fun s => some (s.get 9)⟩,
    ⟨some 40, none, .v fun s => some (s.get 12)⟩,
    ⟨some 41, none, .v fun s => idxSl 1 (s.get 39) (s.get 40)⟩,
    ⟨some 42, none, .v fun s => loadA false 1 s.m (s.get 41)⟩] K s := (den_reg hf _ K s).trans (by kernel_rfl)
theorem i2_eq (K : List Item) (s : St) : den prog ann 13 (.code i2 :: K) s = ifV prog ann 13 42 i2t i2e K s (s.get 42) := den_if hf (by kernel_rfl) K s
theorem i2t_eq (K : List Item) (s : St) : den prog ann 13 (.code i2t :: K) s = den prog ann 13 (.code r10 :: K) s := den_flat hf (l := [r10]) (by kernel_rfl) K s
theorem r10_eq (K : List Item) (s : St) : den prog ann 13 (.code r10 :: K) s = mreg prog ann 13 none [] none [] [
    ⟨some 43, none, .v fun s => some (s.get 10)⟩,
    ⟨some 44, none, .v fun s => some (s.get 12)⟩,
    ⟨some 45, none, .v fun s => bslF 1 (bslA 1 1 [.int .i64 0] [(0, (s.get 44))])⟩,
    ⟨some 46, none, .w false none fun s => appendA 1 8 s.m (s.get 43) (s.get 45)⟩,
    ⟨some 10, none, .v fun s => some (s.get 46)⟩] K s := (den_reg hf _ K s).trans (by kernel_rfl)
theorem i2e_eq (K : List Item) (s : St) : den prog ann 13 (.code i2e :: K) s = den prog ann 13 (K) s := den_flat hf (l := []) (by kernel_rfl) K s
theorem r8_eq (K : List Item) (s : St) : den prog ann 13 (.code r8 :: K) s = mreg prog ann 13 (some [0, 9, 10, 12]) [] none [] [
    ⟨some 37, none, .v fun s => some (s.get 12)⟩,
    ⟨some 38, none, .v fun s => binA prog .add 3 (s.get 37) (.int .i64 1)⟩,
    ⟨some 12, none, .v fun s => some (s.get 38)⟩] K s := (den_reg hf _ K s).trans (by kernel_rfl)
theorem r11_eq (K : List Item) (s : St) : den prog ann 13 (.code r11 :: K) s = mreg prog ann 13 (some [10]) [] none [] [
    ⟨some 47, none, .v fun s => some (s.get 10)⟩,
    ⟨some 8, none, .v fun s => some (s.get 47)⟩] K s := (den_reg hf _ K s).trans (by kernel_rfl)
theorem ret_eq (K : List Item) (s : St) : den prog ann 13 (.code .ret :: K) s = finM true [fun s => some (s.get 8)] s := (den_ret hf K s).trans (by kernel_rfl)
theorem nil_eq (s : St) : den prog ann 13 [] s = finM true [fun s => some (s.get 8)] s := (den_nil hf s).trans (by kernel_rfl)
theorem inBlock_eq (id : Nat) (K : List Item) (s : St) : den prog ann 13 (.inBlock id :: K) s = den prog ann 13 K s := den_inBlock hf id K s
theorem exit_eq (id : Nat) (K : List Item) (s : St) : den prog ann 13 (.code (.exit id) :: K) s = exitV prog ann 13 (exitTo id K) s := den_exitV hf id K s
theorem call_eq (v0 v1 v2 v3 : AV) (m : Mem) (h : closedL [v0, v1, v2, v3] = true) : denC prog ann 13 [v0, v1, v2, v3] m = (den prog ann 13 [.code b] ⟨[(0, v0), (1, v1), (2, v2), (3, v3)], 48, Mem.empty⟩).bind fun r => some (r.1, m) := (denC_pure hf (b := b) (by kernel_rfl) (by kernel_rfl) (by kernel_rfl) h m).trans (by kernel_rfl)
theorem pure_eq : (ann 13).pure = true := by kernel_rfl
attribute [simp] b_eq r0_eq r1_eq r2_eq k0_eq l0_eq r3_eq i0_eq i0t_eq i0e_eq k1_eq r5_eq r4_eq r6_eq k2_eq l2_eq r7_eq i1_eq i1t_eq i1e_eq k3_eq r9_eq i2_eq i2t_eq r10_eq i2e_eq r8_eq r11_eq ret_eq nil_eq inBlock_eq exit_eq pure_eq
end r04_Turned


namespace slices_Max_int
/-- slices.Maxintint -/
noncomputable def b : Code := (Tryd.f23.body).getD .skip
theorem hf : prog.funcs[23]? = some Tryd.f23 := by kernel_rfl
noncomputable def r0 : Code := findReg b 0
noncomputable def r1 : Code := findReg b 1
noncomputable def i0 : Code := findCond b 0
noncomputable def i0t : Code := thenOf i0
noncomputable def i0e : Code := elseOf i0
noncomputable def r2 : Code := findReg b 2
noncomputable def r3 : Code := findReg b 3
noncomputable def r4 : Code := findReg b 4
noncomputable def k0 : Code := findBlk b 0
noncomputable def l0 : Code := loopOf k0
noncomputable def L0 (x0 x3 x4 : AV) (m : Mem) (K : List Item) : Option Res := den prog ann 23 (.code l0 :: .inLoop l0 :: .inBlock 0 :: K) ⟨[(0, x0), (3, x3), (4, x4)], 25, m⟩
noncomputable def r5 : Code := findReg b 5
noncomputable def i1 : Code := findCond b 1
noncomputable def i1t : Code := thenOf i1
noncomputable def i1e : Code := elseOf i1
noncomputable def k1 : Code := findBlk b 1
noncomputable def r7 : Code := findReg b 7
noncomputable def r6 : Code := findReg b 6
noncomputable def r8 : Code := findReg b 8
theorem b_eq (K : List Item) (s : St) : den prog ann 23 (.code b :: K) s = den prog ann 23 (.code r0 :: .code r1 :: .code i0 :: .code r3 :: .code r4 :: .code k0 :: .code r8 :: .code .ret :: K) s := den_flat hf (l := [r0, r1, i0, r3, r4, k0, r8, .ret]) (by kernel_rfl) K s
theorem r0_eq (K : List Item) (s : St) : den prog ann 23 (.code r0 :: K) s = mreg prog ann 23 none [] none [] [
    ⟨some 2, none, .v fun s => some (.int .i64 0)⟩] K s := (den_reg hf _ K s).trans (by kernel_rfl)
theorem r1_eq (K : List Item) (s : St) : den prog ann 23 (.code r1 :: K) s = mreg prog ann 23 none [] none [] [
    ⟨some 5, none, .v fun s => some (s.get 0)⟩,
    ⟨some 6, none, .v fun s => lenSl (s.get 5)⟩,
    ⟨some 7, none, .v fun s => binA prog .lss 3 (s.get 6) (.int .i64 1)⟩] K s := (den_reg hf _ K s).trans (by kernel_rfl)
theorem i0_eq (K : List Item) (s : St) : den prog ann 23 (.code i0 :: K) s = ifV prog ann 23 7 i0t i0e K s (s.get 7) := den_if hf (by kernel_rfl) K s
theorem i0t_eq (K : List Item) (s : St) : den prog ann 23 (.code i0t :: K) s = den prog ann 23 (.code r2 :: K) s := den_flat hf (l := [r2]) (by kernel_rfl) K s
-- not covered: r2, operation 1
theorem i0e_eq (K : List Item) (s : St) : den prog ann 23 (.code i0e :: K) s = den prog ann 23 (K) s := den_flat hf (l := []) (by kernel_rfl) K s
theorem r3_eq (K : List Item) (s : St) : den prog ann 23 (.code r3 :: K) s = mreg prog ann 23 (some [0]) [] none [] [
    ⟨some 9, none, .v fun s => some (s.get 0)⟩,
    ⟨some 10, none, .v fun s => idxSl 1 (s.get 9) (.int .i64 0)⟩,
    ⟨some 11, none, .v fun s => loadF false 1 (s.get 10)⟩,
    ⟨some 3, none, .v fun s => some (s.get 11)⟩] K s := (den_reg hf _ K s).trans (by kernel_rfl)
theorem r4_eq (K : List Item) (s : St) : den prog ann 23 (.code r4 :: K) s = mreg prog ann 23 none [] none [] [
    ⟨some 4, none, .v fun s => some (.int .i64 1)⟩] K s := (den_reg hf _ K s).trans (by kernel_rfl)
theorem k0_eq (K : List Item) (t : List (Nat × AV)) (m : Mem) : den prog ann 23 (.code k0 :: K) ⟨t, 25, m⟩ = L0 (get t 0) (get t 3) (get t 4) m K := den_loop_enter hf (b := l0) (id := 5) (l := [0, 3, 4]) (by kernel_rfl) (by kernel_rfl) (by kernel_rfl) K _
theorem l0_eq (K : List Item) (t : List (Nat × AV)) (m : Mem) : den prog ann 23 (.inLoop l0 :: .inBlock 0 :: K) ⟨t, 25, m⟩ = L0 (get t 0) (get t 3) (get t 4) m K := den_loop_again hf (id := 5) (l := [0, 3, 4]) (by kernel_rfl) (by kernel_rfl) (.inBlock 0 :: K) _
theorem L0_eq (x0 x3 x4 : AV) (m : Mem) (K : List Item) : L0 x0 x3 x4 m K = den prog ann 23 (.code r5 :: .code i1 :: .code k1 :: .code r6 :: .inLoop l0 :: .inBlock 0 :: K) ⟨[(0, x0), (3, x3), (4, x4)], 25, m⟩ := den_flat hf (l := [r5, i1, k1, r6]) (by kernel_rfl) _ _
theorem r5_eq (K : List Item) (s : St) : den prog ann 23 (.code r5 :: K) s = mreg prog ann 23 (some [0, 3, 4]) [] none [] [
    ⟨some 12, none, .v fun s => some (s.get 4)⟩,
    ⟨some 13, none, .v fun s => some (s.get 0)⟩,
    ⟨some 14, none, .v fun s => lenSl (s.get 13)⟩,
    ⟨some 15, none, .v fun s => binA prog .lss 3 (s.get 12) (s.get 14)⟩] K s := (den_reg hf _ K s).trans (by kernel_rfl)
theorem i1_eq (K : List Item) (s : St) : den prog ann 23 (.code i1 :: K) s = ifV prog ann 23 15 i1t i1e K s (s.get 15) := den_if hf (by kernel_rfl) K s
theorem i1t_eq (K : List Item) (s : St) : den prog ann 23 (.code i1t :: K) s = den prog ann 23 (K) s := den_flat hf (l := []) (by kernel_rfl) K s
theorem i1e_eq (K : List Item) (s : St) : den prog ann 23 (.code i1e :: K) s = den prog ann 23 (.code (.exit 0) :: K) s := den_flat hf (l := [(.exit 0)]) (by kernel_rfl) K s
theorem k1_eq (K : List Item) (s : St) : den prog ann 23 (.code k1 :: K) s = den prog ann 23 (.code r7 :: .inBlock 1 :: K) s := den_blk hf (b := blkOf k1) (l := [r7]) (by kernel_rfl) (by kernel_rfl) K s
theorem r7_eq (K : List Item) (s : St) : den prog ann 23 (.code r7 :: K) s = mreg prog ann 23 none [] none [] [
    ⟨some 18, none, .v fun s => some (s.get 3)⟩,
    ⟨some 19, none, .v fun s => some (s.get 0)⟩,
    ⟨some 20, none, .v fun s => some (s.get 4)⟩,
    ⟨some 21, none, .v fun s => idxSl 1 (s.get 19) (s.get 20)⟩,
    ⟨some 22, none, .v fun s => loadF false 1 (s.get 21)⟩,
    ⟨some 23, none, .v fun s => foldA max2A (s.get 18) [(s.get 22)]⟩,
    ⟨some 3, none, .v fun s => some (s.get 23)⟩] K s := (den_reg hf _ K s).trans (by kernel_rfl)
theorem r6_eq (K : List Item) (s : St) : den prog ann 23 (.code r6 :: K) s = mreg prog ann 23 (some [0, 3, 4]) [] none [] [
    ⟨some 16, none, .v fun s => some (s.get 4)⟩,
    ⟨some 17, none, .v fun s => binA prog .add 3 (s.get 16) (.int .i64 1)⟩,
    ⟨some 4, none, .v fun s => some (s.get 17)⟩] K s := (den_reg hf _ K s).trans (by kernel_rfl)
theorem r8_eq (K : List Item) (s : St) : den prog ann 23 (.code r8 :: K) s = mreg prog ann 23 (some [3]) [] none [] [
    ⟨some 24, none, .v fun s => some (s.get 3)⟩,
    ⟨some 2, none, .v fun s => some (s.get 24)⟩] K s := (den_reg hf _ K s).trans (by kernel_rfl)
theorem ret_eq (K : List Item) (s : St) : den prog ann 23 (.code .ret :: K) s = finM true [fun s => some (s.get 2)] s := (den_ret hf K s).trans (by kernel_rfl)
theorem nil_eq (s : St) : den prog ann 23 [] s = finM true [fun s => some (s.get 2)] s := (den_nil hf s).trans (by kernel_rfl)
theorem inBlock_eq (id : Nat) (K : List Item) (s : St) : den prog ann 23 (.inBlock id :: K) s = den prog ann 23 K s := den_inBlock hf id K s
theorem exit_eq (id : Nat) (K : List Item) (s : St) : den prog ann 23 (.code (.exit id) :: K) s = exitV prog ann 23 (exitTo id K) s := den_exitV hf id K s
theorem call_eq (v0 : AV) (m : Mem) (h : closedL [v0] = true) : denC prog ann 23 [v0] m = (den prog ann 23 [.code b] ⟨[(0, v0)], 25, Mem.empty⟩).bind fun r => some (r.1, m) := (denC_pure hf (b := b) (by kernel_rfl) (by kernel_rfl) (by kernel_rfl) h m).trans (by kernel_rfl)
theorem pure_eq : (ann 23).pure = true := by kernel_rfl
attribute [simp] b_eq r0_eq r1_eq i0_eq i0t_eq i0e_eq r3_eq r4_eq k0_eq l0_eq r5_eq i1_eq i1t_eq i1e_eq k1_eq r7_eq r6_eq r8_eq ret_eq nil_eq inBlock_eq exit_eq pure_eq
end slices_Max_int

namespace slices_Min_int
/-- slices.Minintint -/
noncomputable def b : Code := (Tryd.f22.body).getD .skip
theorem hf : prog.funcs[22]? = some Tryd.f22 := by kernel_rfl
noncomputable def r0 : Code := findReg b 0
noncomputable def r1 : Code := findReg b 1
noncomputable def i0 : Code := findCond b 0
noncomputable def i0t : Code := thenOf i0
noncomputable def i0e : Code := elseOf i0
noncomputable def r2 : Code := findReg b 2
noncomputable def r3 : Code := findReg b 3
noncomputable def r4 : Code := findReg b 4
noncomputable def k0 : Code := findBlk b 0
noncomputable def l0 : Code := loopOf k0
noncomputable def L0 (x0 x3 x4 : AV) (m : Mem) (K : List Item) : Option Res := den prog ann 22 (.code l0 :: .inLoop l0 :: .inBlock 0 :: K) ⟨[(0, x0), (3, x3), (4, x4)], 25, m⟩
noncomputable def r5 : Code := findReg b 5
noncomputable def i1 : Code := findCond b 1
noncomputable def i1t : Code := thenOf i1
noncomputable def i1e : Code := elseOf i1
noncomputable def k1 : Code := findBlk b 1
noncomputable def r7 : Code := findReg b 7
noncomputable def r6 : Code := findReg b 6
noncomputable def r8 : Code := findReg b 8
theorem b_eq (K : List Item) (s : St) : den prog ann 22 (.code b :: K) s = den prog ann 22 (.code r0 :: .code r1 :: .code i0 :: .code r3 :: .code r4 :: .code k0 :: .code r8 :: .code .ret :: K) s := den_flat hf (l := [r0, r1, i0, r3, r4, k0, r8, .ret]) (by kernel_rfl) K s
theorem r0_eq (K : List Item) (s : St) : den prog ann 22 (.code r0 :: K) s = mreg prog ann 22 none [] none [] [
    ⟨some 2, none, .v fun s => some (.int .i64 0)⟩] K s := (den_reg hf _ K s).trans (by kernel_rfl)
theorem r1_eq (K : List Item) (s : St) : den prog ann 22 (.code r1 :: K) s = mreg prog ann 22 none [] none [] [
    ⟨some 5, none, .v fun s => some (s.get 0)⟩,
    ⟨some 6, none, .v fun s => lenSl (s.get 5)⟩,
    ⟨some 7, none, .v fun s => binA prog .lss 3 (s.get 6) (.int .i64 1)⟩] K s := (den_reg hf _ K s).trans (by kernel_rfl)
theorem i0_eq (K : List Item) (s : St) : den prog ann 22 (.code i0 :: K) s = ifV prog ann 22 7 i0t i0e K s (s.get 7) := den_if hf (by kernel_rfl) K s
theorem i0t_eq (K : List Item) (s : St) : den prog ann 22 (.code i0t :: K) s = den prog ann 22 (.code r2 :: K) s := den_flat hf (l := [r2]) (by kernel_rfl) K s
-- not covered: r2, operation 1
theorem i0e_eq (K : List Item) (s : St) : den prog ann 22 (.code i0e :: K) s = den prog ann 22 (K) s := den_flat hf (l := []) (by kernel_rfl) K s
theorem r3_eq (K : List Item) (s : St) : den prog ann 22 (.code r3 :: K) s = mreg prog ann 22 (some [0]) [] none [] [
    ⟨some 9, none, .v fun s => some (s.get 0)⟩,
    ⟨some 10, none, .v fun s => idxSl 1 (s.get 9) (.int .i64 0)⟩,
    ⟨some 11, none, .v fun s => loadF false 1 (s.get 10)⟩,
    ⟨some 3, none, .v fun s => some (s.get 11)⟩] K s := (den_reg hf _ K s).trans (by kernel_rfl)
theorem r4_eq (K : List Item) (s : St) : den prog ann 22 (.code r4 :: K) s = mreg prog ann 22 none [] none [] [
    ⟨some 4, none, .v fun s => some (.int .i64 1)⟩] K s := (den_reg hf _ K s).trans (by kernel_rfl)
theorem k0_eq (K : List Item) (t : List (Nat × AV)) (m : Mem) : den prog ann 22 (.code k0 :: K) ⟨t, 25, m⟩ = L0 (get t 0) (get t 3) (get t 4) m K := den_loop_enter hf (b := l0) (id := 5) (l := [0, 3, 4]) (by kernel_rfl) (by kernel_rfl) (by kernel_rfl) K _
theorem l0_eq (K : List Item) (t : List (Nat × AV)) (m : Mem) : den prog ann 22 (.inLoop l0 :: .inBlock 0 :: K) ⟨t, 25, m⟩ = L0 (get t 0) (get t 3) (get t 4) m K := den_loop_again hf (id := 5) (l := [0, 3, 4]) (by kernel_rfl) (by kernel_rfl) (.inBlock 0 :: K) _
theorem L0_eq (x0 x3 x4 : AV) (m : Mem) (K : List Item) : L0 x0 x3 x4 m K = den prog ann 22 (.code r5 :: .code i1 :: .code k1 :: .code r6 :: .inLoop l0 :: .inBlock 0 :: K) ⟨[(0, x0), (3, x3), (4, x4)], 25, m⟩ := den_flat hf (l := [r5, i1, k1, r6]) (by kernel_rfl) _ _
theorem r5_eq (K : List Item) (s : St) : den prog ann 22 (.code r5 :: K) s = mreg prog ann 22 (some [0, 3, 4]) [] none [] [
    ⟨some 12, none, .v fun s => some (s.get 4)⟩,
    ⟨some 13, none, .v fun s => some (s.get 0)⟩,
    ⟨some 14, none, .v fun s => lenSl (s.get 13)⟩,
    ⟨some 15, none, .v fun s => binA prog .lss 3 (s.get 12) (s.get 14)⟩] K s := (den_reg hf _ K s).trans (by kernel_rfl)
theorem i1_eq (K : List Item) (s : St) : den prog ann 22 (.code i1 :: K) s = ifV prog ann 22 15 i1t i1e K s (s.get 15) := den_if hf (by kernel_rfl) K s
theorem i1t_eq (K : List Item) (s : St) : den prog ann 22 (.code i1t :: K) s = den prog ann 22 (K) s := den_flat hf (l := []) (by kernel_rfl) K s
theorem i1e_eq (K : List Item) (s : St) : den prog ann 22 (.code i1e :: K) s = den prog ann 22 (.code (.exit 0) :: K) s := den_flat hf (l := [(.exit 0)]) (by kernel_rfl) K s
theorem k1_eq (K : List Item) (s : St) : den prog ann 22 (.code k1 :: K) s = den prog ann 22 (.code r7 :: .inBlock 1 :: K) s := den_blk hf (b := blkOf k1) (l := [r7]) (by kernel_rfl) (by kernel_rfl) K s
theorem r7_eq (K : List Item) (s : St) : den prog ann 22 (.code r7 :: K) s = mreg prog ann 22 none [] none [] [
    ⟨some 18, none, .v fun s => some (s.get 3)⟩,
    ⟨some 19, none, .v fun s => some (s.get 0)⟩,
    ⟨some 20, none, .v fun s => some (s.get 4)⟩,
    ⟨some 21, none, .v fun s => idxSl 1 (s.get 19) (s.get 20)⟩,
    ⟨some 22, none, .v fun s => loadF false 1 (s.get 21)⟩,
    ⟨some 23, none, .v fun s => foldA min2A (s.get 18) [(s.get 22)]⟩,
    ⟨some 3, none, .v fun s => some (s.get 23)⟩] K s := (den_reg hf _ K s).trans (by kernel_rfl)
theorem r6_eq (K : List Item) (s : St) : den prog ann 22 (.code r6 :: K) s = mreg prog ann 22 (some [0, 3, 4]) [] none [] [
    ⟨some 16, none, .v fun s => some (s.get 4)⟩,
    ⟨some 17, none, .v fun s => binA prog .add 3 (s.get 16) (.int .i64 1)⟩,
    ⟨some 4, none, .v fun s => some (s.get 17)⟩] K s := (den_reg hf _ K s).trans (by kernel_rfl)
theorem r8_eq (K : List Item) (s : St) : den prog ann 22 (.code r8 :: K) s = mreg prog ann 22 (some [3]) [] none [] [
    ⟨some 24, none, .v fun s => some (s.get 3)⟩,
    ⟨some 2, none, .v fun s => some (s.get 24)⟩] K s := (den_reg hf _ K s).trans (by kernel_rfl)
theorem ret_eq (K : List Item) (s : St) : den prog ann 22 (.code .ret :: K) s = finM true [fun s => some (s.get 2)] s := (den_ret hf K s).trans (by kernel_rfl)
theorem nil_eq (s : St) : den prog ann 22 [] s = finM true [fun s => some (s.get 2)] s := (den_nil hf s).trans (by kernel_rfl)
theorem inBlock_eq (id : Nat) (K : List Item) (s : St) : den prog ann 22 (.inBlock id :: K) s = den prog ann 22 K s := den_inBlock hf id K s
theorem exit_eq (id : Nat) (K : List Item) (s : St) : den prog ann 22 (.code (.exit id) :: K) s = exitV prog ann 22 (exitTo id K) s := den_exitV hf id K s
theorem call_eq (v0 : AV) (m : Mem) (h : closedL [v0] = true) : denC prog ann 22 [v0] m = (den prog ann 22 [.code b] ⟨[(0, v0)], 25, Mem.empty⟩).bind fun r => some (r.1, m) := (denC_pure hf (b := b) (by kernel_rfl) (by kernel_rfl) (by kernel_rfl) h m).trans (by kernel_rfl)
theorem pure_eq : (ann 22).pure = true := by kernel_rfl
attribute [simp] b_eq r0_eq r1_eq i0_eq i0t_eq i0e_eq r3_eq r4_eq k0_eq l0_eq r5_eq i1_eq i1t_eq i1e_eq k1_eq r7_eq r6_eq r8_eq ret_eq nil_eq inBlock_eq exit_eq pure_eq
end slices_Min_int

namespace strap_Even
/-- pommel/strap.Even -/
noncomputable def b : Code := (Tryd.f10.body).getD .skip
theorem hf : prog.funcs[10]? = some Tryd.f10 := by kernel_rfl
noncomputable def r0 : Code := findReg b 0
noncomputable def r1 : Code := findReg b 1
noncomputable def r2 : Code := findReg b 2
noncomputable def i0 : Code := findCond b 0
noncomputable def i0t : Code := thenOf i0
noncomputable def i0e : Code := elseOf i0
noncomputable def r3 : Code := findReg b 3
noncomputable def r4 : Code := findReg b 4
noncomputable def r5 : Code := findReg b 5
noncomputable def i1 : Code := findCond b 1
noncomputable def i1t : Code := thenOf i1
noncomputable def i1e : Code := elseOf i1
noncomputable def r6 : Code := findReg b 6
noncomputable def r7 : Code := findReg b 7
theorem b_eq (K : List Item) (s : St) : den prog ann 10 (.code b :: K) s = den prog ann 10 (.code r0 :: .code r1 :: .code r2 :: .code i0 :: .code r4 :: .code r5 :: .code i1 :: .code r7 :: .code .ret :: K) s := den_flat hf (l := [r0, r1, r2, i0, r4, r5, i1, r7, .ret]) (by kernel_rfl) K s
theorem r0_eq (K : List Item) (s : St) : den prog ann 10 (.code r0 :: K) s = mreg prog ann 10 none [] none [] [
    ⟨some 4, none, .v fun s => some (.int .i64 0)⟩,
    ⟨some 5, none, .v fun s => some (.int .i64 0)⟩] K s := (den_reg hf _ K s).trans (by kernel_rfl)
theorem r1_eq (K : List Item) (s : St) : den prog ann 10 (.code r1 :: K) s = mreg prog ann 10 none [] none [] [
    ⟨some 8, none, .v fun s => some (s.get 0)⟩,
    ⟨some 9, none, .v fun s => some (s.get 1)⟩,
    ⟨some 10, none, .c 0 (fun s => (.fn 14 [] [])) fun s => [(s.get 8), (s.get 9)]⟩,
    ⟨some 6, none, .v fun s => some (s.get 10)⟩] K s := (den_reg hf _ K s).trans (by kernel_rfl)
theorem r2_eq (K : List Item) (s : St) : den prog ann 10 (.code r2 :: K) s = mreg prog ann 10 none [] none [] [
    ⟨some 11, none, .v fun s => some (s.get 6)⟩,
    ⟨some 12, none, .v fun s => binA prog .neq 27 (s.get 11) (.int .i64 0)⟩] K s := (den_reg hf _ K s).trans (by kernel_rfl)
theorem i0_eq (K : List Item) (s : St) : den prog ann 10 (.code i0 :: K) s = ifV prog ann 10 12 i0t i0e K s (s.get 12) := den_if hf (by kernel_rfl) K s
theorem i0t_eq (K : List Item) (s : St) : den prog ann 10 (.code i0t :: K) s = den prog ann 10 (.code r3 :: .code .ret :: K) s := den_flat hf (l := [r3, .ret]) (by kernel_rfl) K s
theorem r3_eq (K : List Item) (s : St) : den prog ann 10 (.code r3 :: K) s = mreg prog ann 10 none [] none [] [
    ⟨some 13, none, .v fun s => some (s.get 6)⟩,
    ⟨some 4, none, .v fun s => some (.int .i64 0)⟩,
    ⟨some 5, none, .v fun s => some (s.get 13)⟩] K s := (den_reg hf _ K s).trans (by kernel_rfl)
theorem i0e_eq (K : List Item) (s : St) : den prog ann 10 (.code i0e :: K) s = den prog ann 10 (K) s := den_flat hf (l := []) (by kernel_rfl) K s
theorem r4_eq (K : List Item) (s : St) : den prog ann 10 (.code r4 :: K) s = mreg prog ann 10 none [] none [] [
    ⟨some 14, none, .v fun s => some (s.get 0)⟩,
    ⟨some 15, none, .v fun s => some (s.get 1)⟩,
    ⟨some 16, none, .c 0 (fun s => (.fn 21 [] [])) fun s => [(s.get 14), (s.get 15)]⟩,
    ⟨some 17, none, .v fun s => sliceSl 1 (s.get 16) (some (.int .i64 1)) none⟩,
    ⟨some 7, none, .v fun s => some (s.get 17)⟩] K s := (den_reg hf _ K s).trans (by kernel_rfl)
theorem r5_eq (K : List Item) (s : St) : den prog ann 10 (.code r5 :: K) s = mreg prog ann 10 none [] none [] [
    ⟨some 18, none, .v fun s => some (s.get 7)⟩,
    ⟨some 19, none, .c 0 (fun s => (.fn 22 [] [])) fun s => [(s.get 18)]⟩,
    ⟨some 20, none, .v fun s => some (s.get 7)⟩,
    ⟨some 21, none, .c 0 (fun s => (.fn 23 [] [])) fun s => [(s.get 20)]⟩,
    ⟨some 22, none, .v fun s => binA prog .neq 3 (s.get 19) (s.get 21)⟩] K s := (den_reg hf _ K s).trans (by kernel_rfl)
theorem i1_eq (K : List Item) (s : St) : den prog ann 10 (.code i1 :: K) s = ifV prog ann 10 22 i1t i1e K s (s.get 22) := den_if hf (by kernel_rfl) K s
theorem i1t_eq (K : List Item) (s : St) : den prog ann 10 (.code i1t :: K) s = den prog ann 10 (.code r6 :: .code .ret :: K) s := den_flat hf (l := [r6, .ret]) (by kernel_rfl) K s
theorem r6_eq (K : List Item) (s : St) : den prog ann 10 (.code r6 :: K) s = mreg prog ann 10 none [] none [] [
    ⟨some 4, none, .v fun s => some (.int .i64 0)⟩,
    ⟨some 5, none, .v fun s => some (.int .i64 5)⟩] K s := (den_reg hf _ K s).trans (by kernel_rfl)
theorem i1e_eq (K : List Item) (s : St) : den prog ann 10 (.code i1e :: K) s = den prog ann 10 (K) s := den_flat hf (l := []) (by kernel_rfl) K s
theorem r7_eq (K : List Item) (s : St) : den prog ann 10 (.code r7 :: K) s = mreg prog ann 10 none [] none [] [
    ⟨some 23, none, .v fun s => some (s.get 7)⟩,
    ⟨some 24, none, .v fun s => idxSl 1 (s.get 23) (.int .i64 0)⟩,
    ⟨some 25, none, .v fun s => loadF false 1 (s.get 24)⟩,
    ⟨some 4, none, .v fun s => some (s.get 25)⟩,
    ⟨some 5, none, .v fun s => some (.int .i64 0)⟩] K s := (den_reg hf _ K s).trans (by kernel_rfl)
theorem ret_eq (K : List Item) (s : St) : den prog ann 10 (.code .ret :: K) s = finM true [fun s => some (s.get 4), fun s => some (s.get 5)] s := (den_ret hf K s).trans (by kernel_rfl)
theorem nil_eq (s : St) : den prog ann 10 [] s = finM true [fun s => some (s.get 4), fun s => some (s.get 5)] s := (den_nil hf s).trans (by kernel_rfl)
theorem inBlock_eq (id : Nat) (K : List Item) (s : St) : den prog ann 10 (.inBlock id :: K) s = den prog ann 10 K s := den_inBlock hf id K s
theorem exit_eq (id : Nat) (K : List Item) (s : St) : den prog ann 10 (.code (.exit id) :: K) s = exitV prog ann 10 (exitTo id K) s := den_exitV hf id K s
theorem call_eq (v0 v1 : AV) (m : Mem) (h : closedL [v0, v1] = true) : denC prog ann 10 [v0, v1] m = (den prog ann 10 [.code b] ⟨[(0, v0), (1, v1)], 26, Mem.empty⟩).bind fun r => some (r.1, m) := (denC_pure hf (b := b) (by kernel_rfl) (by kernel_rfl) (by kernel_rfl) h m).trans (by kernel_rfl)
theorem pure_eq : (ann 10).pure = true := by kernel_rfl
attribute [simp] b_eq r0_eq r1_eq r2_eq i0_eq i0t_eq r3_eq i0e_eq r4_eq r5_eq i1_eq i1t_eq r6_eq i1e_eq r7_eq ret_eq nil_eq inBlock_eq exit_eq pure_eq
end strap_Even


namespace strap_differences
/-- pommel/strap.differences -/
noncomputable def b : Code := (Tryd.f21.body).getD .skip
theorem hf : prog.funcs[21]? = some Tryd.f21 := by kernel_rfl
noncomputable def r0 : Code := findReg b 0
noncomputable def r1 : Code := findReg b 1
noncomputable def r2 : Code := findReg b 2
noncomputable def k0 : Code := findBlk b 0
noncomputable def l0 : Code := loopOf k0
noncomputable def L0 (x0 x1 x5 x12 x13 x14 : AV) (m : Mem) (K : List Item) : Option Res := den prog ann 21 (.code l0 :: .inLoop l0 :: .inBlock 0 :: K) ⟨[(0, x0), (1, x1), (5, x5), (12, x12), (13, x13), (14, x14)], 42, m⟩
noncomputable def r3 : Code := findReg b 3
noncomputable def i0 : Code := findCond b 0
noncomputable def i0t : Code := thenOf i0
noncomputable def i0e : Code := elseOf i0
noncomputable def k1 : Code := findBlk b 1
noncomputable def r4 : Code := findReg b 4
noncomputable def r5 : Code := findReg b 5
noncomputable def k2 : Code := findBlk b 2
noncomputable def l2 : Code := loopOf k2
noncomputable def L2 (x0 x1 x5 x7 x12 x13 x14 x18 x19 x20 : AV) (m : Mem) (K : List Item) : Option Res := den prog ann 21 (.code l2 :: .inLoop l2 :: .inBlock 2 :: K) ⟨[(0, x0), (1, x1), (5, x5), (7, x7), (12, x12), (13, x13), (14, x14), (18, x18), (19, x19), (20, x20)], 42, m⟩
noncomputable def r6 : Code := findReg b 6
noncomputable def i1 : Code := findCond b 1
noncomputable def i1t : Code := thenOf i1
noncomputable def i1e : Code := elseOf i1
noncomputable def k3 : Code := findBlk b 3
noncomputable def r7 : Code := findReg b 7
noncomputable def r8 : Code := findReg b 8
noncomputable def i2 : Code := findCond b 2
noncomputable def i2t : Code := thenOf i2
noncomputable def i2e : Code := elseOf i2
noncomputable def r9 : Code := findReg b 9
noncomputable def r10 : Code := findReg b 10
noncomputable def r11 : Code := findReg b 11
noncomputable def r12 : Code := findReg b 12
theorem b_eq (K : List Item) (s : St) : den prog ann 21 (.code b :: K) s = den prog ann 21 (.code r0 :: .code r1 :: .code r2 :: .code k0 :: .code r12 :: .code .ret :: K) s := den_flat hf (l := [r0, r1, r2, k0, r12, .ret]) (by kernel_rfl) K s
theorem r0_eq (K : List Item) (s : St) : den prog ann 21 (.code r0 :: K) s = mreg prog ann 21 none [] none [] [
    ⟨some 4, none, .v fun s => some (.nils)⟩] K s := (den_reg hf _ K s).trans (by kernel_rfl)
theorem r1_eq (K : List Item) (s : St) : den prog ann 21 (.code r1 :: K) s = mreg prog ann 21 none [] none [] [
    ⟨some 10, none, .v fun s => some (s.get 0)⟩,
    ⟨some 11, none, .w false none fun s => makeA 1 8 (.int .i64 0) s.m (s.get 10) (s.get 10)⟩,
    ⟨some 5, none, .v fun s => some (s.get 11)⟩] K s := (den_reg hf _ K s).trans (by kernel_rfl)
theorem r2_eq (K : List Item) (s : St) : den prog ann 21 (.code r2 :: K) s = mreg prog ann 21 none [] none [] [
    ⟨some 12, none, .v fun s => some (s.get 1)⟩,
    ⟨some 13, none, .v fun s => lenSl (s.get 12)⟩,
    ⟨some 14, none, .v fun s => some (.int .i64 0)⟩] K s := (den_reg hf _ K s).trans (by kernel_rfl)
theorem k0_eq (K : List Item) (t : List (Nat × AV)) (m : Mem) : den prog ann 21 (.code k0 :: K) ⟨t, 42, m⟩ = L0 (get t 0) (get t 1) (get t 5) (get t 12) (get t 13) (get t 14) m K := den_loop_enter hf (b := l0) (id := 3) (l := [0, 1, 5, 12, 13, 14]) (by kernel_rfl) (by kernel_rfl) (by kernel_rfl) K _
theorem l0_eq (K : List Item) (t : List (Nat × AV)) (m : Mem) : den prog ann 21 (.inLoop l0 :: .inBlock 0 :: K) ⟨t, 42, m⟩ = L0 (get t 0) (get t 1) (get t 5) (get t 12) (get t 13) (get t 14) m K := den_loop_again hf (id := 3) (l := [0, 1, 5, 12, 13, 14]) (by kernel_rfl) (by kernel_rfl) (.inBlock 0 :: K) _
theorem L0_eq (x0 x1 x5 x12 x13 x14 : AV) (m : Mem) (K : List Item) : L0 x0 x1 x5 x12 x13 x14 m K = den prog ann 21 (.code r3 :: .code i0 :: .code k1 :: .code r11 :: .inLoop l0 :: .inBlock 0 :: K) ⟨[(0, x0), (1, x1), (5, x5), (12, x12), (13, x13), (14, x14)], 42, m⟩ := den_flat hf (l := [r3, i0, k1, r11]) (by kernel_rfl) _ _
theorem r3_eq (K : List Item) (s : St) : den prog ann 21 (.code r3 :: K) s = mreg prog ann 21 (some [0, 1, 5, 12, 13, 14]) [] none [] [
    ⟨some 15, none, .v fun s => binA prog .lss 3 (s.get 14) (s.get 13)⟩] K s := (den_reg hf _ K s).trans (by kernel_rfl)
theorem i0_eq (K : List Item) (s : St) : den prog ann 21 (.code i0 :: K) s = ifV prog ann 21 15 i0t i0e K s (s.get 15) := den_if hf (by kernel_rfl) K s
theorem i0t_eq (K : List Item) (s : St) : den prog ann 21 (.code i0t :: K) s = den prog ann 21 (K) s := den_flat hf (l := []) (by kernel_rfl) K s
theorem i0e_eq (K : List Item) (s : St) : den prog ann 21 (.code i0e :: K) s = den prog ann 21 (.code (.exit 0) :: K) s := den_flat hf (l := [(.exit 0)]) (by kernel_rfl) K s
theorem k1_eq (K : List Item) (s : St) : den prog ann 21 (.code k1 :: K) s = den prog ann 21 (.code r4 :: .code r5 :: .code k2 :: .inBlock 1 :: K) s := den_blk hf (b := blkOf k1) (l := [r4, r5, k2]) (by kernel_rfl) (by kernel_rfl) K s
theorem r4_eq (K : List Item) (s : St) : den prog ann 21 (.code r4 :: K) s = mreg prog ann 21 none [] none [] [
    ⟨some 16, none, .v fun s => idxSl 1 (s.get 12) (s.get 14)⟩,
    ⟨some 17, none, .v fun s => loadF false 1 (s.get 16)⟩,
    ⟨some 7, none, .v fun s => some (s.get 17)⟩] K s := (den_reg hf _ K s).trans (by kernel_rfl)
theorem r5_eq (K : List Item) (s : St) : den prog ann 21 (.code r5 :: K) s = mreg prog ann 21 none [] none [] [
    ⟨some 18, none, .v fun s => some (s.get 1)⟩,
    ⟨some 19, none, .v fun s => lenSl (s.get 18)⟩,
    ⟨some 20, none, .v fun s => some (.int .i64 0)⟩] K s := (den_reg hf _ K s).trans (by kernel_rfl)
theorem k2_eq (K : List Item) (t : List (Nat × AV)) (m : Mem) : den prog ann 21 (.code k2 :: K) ⟨t, 42, m⟩ = L2 (get t 0) (get t 1) (get t 5) (get t 7) (get t 12) (get t 13) (get t 14) (get t 18) (get t 19) (get t 20) m K := den_loop_enter hf (b := l2) (id := 6) (l := [0, 1, 5, 7, 12, 13, 14, 18, 19, 20]) (by kernel_rfl) (by kernel_rfl) (by kernel_rfl) K _
theorem l2_eq (K : List Item) (t : List (Nat × AV)) (m : Mem) : den prog ann 21 (.inLoop l2 :: .inBlock 2 :: K) ⟨t, 42, m⟩ = L2 (get t 0) (get t 1) (get t 5) (get t 7) (get t 12) (get t 13) (get t 14) (get t 18) (get t 19) (get t 20) m K := den_loop_again hf (id := 6) (l := [0, 1, 5, 7, 12, 13, 14, 18, 19, 20]) (by kernel_rfl) (by kernel_rfl) (.inBlock 2 :: K) _
theorem L2_eq (x0 x1 x5 x7 x12 x13 x14 x18 x19 x20 : AV) (m : Mem) (K : List Item) : L2 x0 x1 x5 x7 x12 x13 x14 x18 x19 x20 m K = den prog ann 21 (.code r6 :: .code i1 :: .code k3 :: .code r10 :: .inLoop l2 :: .inBlock 2 :: K) ⟨[(0, x0), (1, x1), (5, x5), (7, x7), (12, x12), (13, x13), (14, x14), (18, x18), (19, x19), (20, x20)], 42, m⟩ := den_flat hf (l := [r6, i1, k3, r10]) (by kernel_rfl) _ _
theorem r6_eq (K : List Item) (s : St) : den prog ann 21 (.code r6 :: K) s = mreg prog ann 21 (some [0, 1, 5, 7, 12, 13, 14, 18, 19, 20]) [] none [] [
    ⟨some 21, none, .v fun s => binA prog .lss 3 (s.get 20) (s.get 19)⟩] K s := (den_reg hf _ K s).trans (by kernel_rfl)
theorem i1_eq (K : List Item) (s : St) : den prog ann 21 (.code i1 :: K) s = ifV prog ann 21 21 i1t i1e K s (s.get 21) := den_if hf (by kernel_rfl) K s
theorem i1t_eq (K : List Item) (s : St) : den prog ann 21 (.code i1t :: K) s = den prog ann 21 (K) s := den_flat hf (l := []) (by kernel_rfl) K s
theorem i1e_eq (K : List Item) (s : St) : den prog ann 21 (.code i1e :: K) s = den prog ann 21 (.code (.exit 2) :: K) s := den_flat hf (l := [(.exit 2)]) (by kernel_rfl) K s
theorem k3_eq (K : List Item) (s : St) : den prog ann 21 (.code k3 :: K) s = den prog ann 21 (.code r7 :: .code r8 :: .code i2 :: .inBlock 3 :: K) s := den_blk hf (b := blkOf k3) (l := [r7, r8, i2]) (by kernel_rfl) (by kernel_rfl) K s
theorem r7_eq (K : List Item) (s : St) : den prog ann 21 (.code r7 :: K) s = mreg prog ann 21 none [] none [] [
    ⟨some 22, none, .v fun s => idxSl 1 (s.get 18) (s.get 20)⟩,
    ⟨some 23, none, .v fun s => loadF false 1 (s.get 22)⟩,
    ⟨some 9, none, .v fun s => some (s.get 23)⟩] K s := (den_reg hf _ K s).trans (by kernel_rfl)
theorem r8_eq (K : List Item) (s : St) : den prog ann 21 (.code r8 :: K) s = mreg prog ann 21 none [] none [] [
    ⟨some 24, none, .v fun s => some (s.get 7)⟩,
    ⟨some 25, none, .v fun s => some (s.get 9)⟩,
    ⟨some 26, none, .v fun s => binA prog .neq 3 (s.get 24) (s.get 25)⟩] K s := (den_reg hf _ K s).trans (by kernel_rfl)
theorem i2_eq (K : List Item) (s : St) : den prog ann 21 (.code i2 :: K) s = ifV prog ann 21 26 i2t i2e K s (s.get 26) := den_if hf (by kernel_rfl) K s
theorem i2t_eq (K : List Item) (s : St) : den prog ann 21 (.code i2t :: K) s = den prog ann 21 (.code r9 :: K) s := den_flat hf (l := [r9]) (by kernel_rfl) K s
theorem r9_eq (K : List Item) (s : St) : den prog ann 21 (.code r9 :: K) s = mreg prog ann 21 none [] none [] [
    ⟨some 27, none, .v fun s => some (s.get 5)⟩,
    ⟨some 28, none, .v fun s => some (s.get 7)⟩,
    ⟨some 29, none, .v fun s => some (s.get 9)⟩,
    ⟨some 30, none, .v fun s => binA prog .sub 3 (s.get 28) (s.get 29)⟩,
    ⟨some 31, none, .v fun s => some (s.get 0)⟩,
    ⟨some 32, none, .v fun s => binA prog .add 3 (s.get 30) (s.get 31)⟩,
    ⟨some 33, none, .v fun s => some (s.get 0)⟩,
    ⟨some 34, none, .v fun s => binA prog .rem 3 (s.get 32) (s.get 33)⟩,
    ⟨some 35, none, .v fun s => idxSl 1 (s.get 27) (s.get 34)⟩,
    ⟨some 36, none, .v fun s => loadA false 1 s.m (s.get 35)⟩,
    ⟨some 37, none, .v fun s => binA prog .add 3 (s.get 36) (.int .i64 1)⟩,
    ⟨some 38, none, .v fun s => idxSl 1 (s.get 27) (s.get 34)⟩,
    ⟨none, none, .w false none fun s => stA false 1 s.m (s.get 38) (s.get 37)⟩] K s := (den_reg hf _ K s).trans (by kernel_rfl)
theorem i2e_eq (K : List Item) (s : St) : den prog ann 21 (.code i2e :: K) s = den prog ann 21 (K) s := den_flat hf (l := []) (by kernel_rfl) K s
theorem r10_eq (K : List Item) (s : St) : den prog ann 21 (.code r10 :: K) s = mreg prog ann 21 (some [0, 1, 5, 7, 12, 13, 14, 18, 19, 20]) [] none [] [
    ⟨some 39, none, .v fun s => binA prog .add 3 (s.get 20) (.int .i64 1)⟩,
    ⟨some 20, none, .v fun s => some (s.get 39)⟩] K s := (den_reg hf _ K s).trans (by kernel_rfl)
theorem r11_eq (K : List Item) (s : St) : den prog ann 21 (.code r11 :: K) s = mreg prog ann 21 (some [0, 1, 5, 12, 13, 14]) [] none [] [
    ⟨some 40, none, .v fun s => binA prog .add 3 (s.get 14) (.int .i64 1)⟩,
    ⟨some 14, none, .v fun s => some (s.get 40)⟩] K s := (den_reg hf _ K s).trans (by kernel_rfl)
theorem r12_eq (K : List Item) (s : St) : den prog ann 21 (.code r12 :: K) s = mreg prog ann 21 (some [5]) [] none [] [
    ⟨some 41, none, .v fun s => some (s.get 5)⟩,
    ⟨some 4, none, .v fun s => some (s.get 41)⟩] K s := (den_reg hf _ K s).trans (by kernel_rfl)
theorem ret_eq (K : List Item) (s : St) : den prog ann 21 (.code .ret :: K) s = finM true [fun s => some (s.get 4)] s := (den_ret hf K s).trans (by kernel_rfl)
theorem nil_eq (s : St) : den prog ann 21 [] s = finM true [fun s => some (s.get 4)] s := (den_nil hf s).trans (by kernel_rfl)
theorem inBlock_eq (id : Nat) (K : List Item) (s : St) : den prog ann 21 (.inBlock id :: K) s = den prog ann 21 K s := den_inBlock hf id K s
theorem exit_eq (id : Nat) (K : List Item) (s : St) : den prog ann 21 (.code (.exit id) :: K) s = exitV prog ann 21 (exitTo id K) s := den_exitV hf id K s
theorem call_eq (v0 v1 : AV) (m : Mem) (h : closedL [v0, v1] = true) : denC prog ann 21 [v0, v1] m = (den prog ann 21 [.code b] ⟨[(0, v0), (1, v1)], 42, Mem.empty⟩).bind fun r => some (r.1, m) := (denC_pure hf (b := b) (by kernel_rfl) (by kernel_rfl) (by kernel_rfl) h m).trans (by kernel_rfl)
theorem pure_eq : (ann 21).pure = true := by kernel_rfl
attribute [simp] b_eq r0_eq r1_eq r2_eq k0_eq l0_eq r3_eq i0_eq i0t_eq i0e_eq k1_eq r4_eq r5_eq k2_eq l2_eq r6_eq i1_eq i1t_eq i1e_eq k3_eq r7_eq r8_eq i2_eq i2t_eq r9_eq i2e_eq r10_eq r11_eq r12_eq ret_eq nil_eq inBlock_eq exit_eq pure_eq
end strap_differences



namespace strap_ring
/-- pommel/strap.ring -/
noncomputable def b : Code := (Tryd.f14.body).getD .skip
theorem hf : prog.funcs[14]? = some Tryd.f14 := by kernel_rfl
noncomputable def r0 : Code := findReg b 0
noncomputable def k0 : Code := findBlk b 0
noncomputable def r1 : Code := findReg b 1
noncomputable def i0 : Code := findCond b 0
noncomputable def i0t : Code := thenOf i0
noncomputable def i0e : Code := elseOf i0
noncomputable def r2 : Code := findReg b 2
noncomputable def r3 : Code := findReg b 3
noncomputable def i1 : Code := findCond b 1
noncomputable def i1t : Code := thenOf i1
noncomputable def i1e : Code := elseOf i1
noncomputable def r4 : Code := findReg b 4
noncomputable def r5 : Code := findReg b 5
noncomputable def i2 : Code := findCond b 2
noncomputable def i2t : Code := thenOf i2
noncomputable def i2e : Code := elseOf i2
noncomputable def r6 : Code := findReg b 6
noncomputable def r7 : Code := findReg b 7
noncomputable def k1 : Code := findBlk b 1
noncomputable def l1 : Code := loopOf k1
noncomputable def L1 (x0 x1 x22 x23 x24 : AV) (m : Mem) (K : List Item) : Option Res := den prog ann 14 (.code l1 :: .inLoop l1 :: .inBlock 1 :: K) ⟨[(0, x0), (1, x1), (22, x22), (23, x23), (24, x24)], 50, m⟩
noncomputable def r8 : Code := findReg b 8
noncomputable def i3 : Code := findCond b 3
noncomputable def i3t : Code := thenOf i3
noncomputable def i3e : Code := elseOf i3
noncomputable def k2 : Code := findBlk b 2
noncomputable def r9 : Code := findReg b 9
noncomputable def r10 : Code := findReg b 10
noncomputable def i4 : Code := findCond b 4
noncomputable def i4t : Code := thenOf i4
noncomputable def i4e : Code := elseOf i4
noncomputable def r11 : Code := findReg b 11
noncomputable def r12 : Code := findReg b 12
noncomputable def r13 : Code := findReg b 13
theorem b_eq (K : List Item) (s : St) : den prog ann 14 (.code b :: K) s = den prog ann 14 (.code r0 :: .code k0 :: .code r7 :: .code k1 :: .code r13 :: .code .ret :: K) s := den_flat hf (l := [r0, k0, r7, k1, r13, .ret]) (by kernel_rfl) K s
theorem r0_eq (K : List Item) (s : St) : den prog ann 14 (.code r0 :: K) s = mreg prog ann 14 none [] none [] [
    ⟨some 4, none, .v fun s => some (.int .i64 0)⟩] K s := (den_reg hf _ K s).trans (by kernel_rfl)
theorem k0_eq (K : List Item) (s : St) : den prog ann 14 (.code k0 :: K) s = den prog ann 14 (.code r1 :: .code i0 :: .inBlock 0 :: K) s := den_blk hf (b := blkOf k0) (l := [r1, i0]) (by kernel_rfl) (by kernel_rfl) K s
theorem r1_eq (K : List Item) (s : St) : den prog ann 14 (.code r1 :: K) s = mreg prog ann 14 none [] none [] [
    ⟨some 8, none, .v fun s => some (s.get 1)⟩,
    ⟨some 9, none, .v fun s => lenSl (s.get 8)⟩,
    ⟨some 10, none, .v fun s => binA prog .gtr 3 (s.get 9) (.int .i64 31)⟩,
    ⟨some 7, none, .v fun s => some (s.get 10)⟩] K s := (den_reg hf _ K s).trans (by kernel_rfl)
theorem i0_eq (K : List Item) (s : St) : den prog ann 14 (.code i0 :: K) s = ifV prog ann 14 7 i0t i0e K s (s.get 7) := den_if hf (by kernel_rfl) K s
theorem i0t_eq (K : List Item) (s : St) : den prog ann 14 (.code i0t :: K) s = den prog ann 14 (.code r2 :: .code .ret :: K) s := den_flat hf (l := [r2, .ret]) (by kernel_rfl) K s
theorem r2_eq (K : List Item) (s : St) : den prog ann 14 (.code r2 :: K) s = mreg prog ann 14 none [] none [] [
    ⟨some 4, none, .v fun s => some (.int .i64 3)⟩] K s := (den_reg hf _ K s).trans (by kernel_rfl)
theorem i0e_eq (K : List Item) (s : St) : den prog ann 14 (.code i0e :: K) s = den prog ann 14 (.code r3 :: .code i1 :: K) s := den_flat hf (l := [r3, i1]) (by kernel_rfl) K s
theorem r3_eq (K : List Item) (s : St) : den prog ann 14 (.code r3 :: K) s = mreg prog ann 14 none [] none [] [
    ⟨some 12, none, .v fun s => some (s.get 0)⟩,
    ⟨some 13, none, .v fun s => binA prog .lss 3 (s.get 12) (.int .i64 2)⟩,
    ⟨some 14, none, .v fun s => some (s.get 13)⟩,
    ⟨some 15, some (14, false), .v fun s => some (s.get 0)⟩,
    ⟨some 16, some (14, false), .v fun s => binA prog .gtr 3 (s.get 15) (.int .i64 31)⟩,
    ⟨some 17, none, .v fun s => pickA (s.get 14) (.bool true) (s.get 16)⟩,
    ⟨some 11, none, .v fun s => some (s.get 17)⟩] K s := (den_reg hf _ K s).trans (by kernel_rfl)
theorem i1_eq (K : List Item) (s : St) : den prog ann 14 (.code i1 :: K) s = ifV prog ann 14 11 i1t i1e K s (s.get 11) := den_if hf (by kernel_rfl) K s
theorem i1t_eq (K : List Item) (s : St) : den prog ann 14 (.code i1t :: K) s = den prog ann 14 (.code r4 :: .code .ret :: K) s := den_flat hf (l := [r4, .ret]) (by kernel_rfl) K s
theorem r4_eq (K : List Item) (s : St) : den prog ann 14 (.code r4 :: K) s = mreg prog ann 14 none [] none [] [
    ⟨some 4, none, .v fun s => some (.int .i64 1)⟩] K s := (den_reg hf _ K s).trans (by kernel_rfl)
theorem i1e_eq (K : List Item) (s : St) : den prog ann 14 (.code i1e :: K) s = den prog ann 14 (.code r5 :: .code i2 :: K) s := den_flat hf (l := [r5, i2]) (by kernel_rfl) K s
theorem r5_eq (K : List Item) (s : St) : den prog ann 14 (.code r5 :: K) s = mreg prog ann 14 none [] none [] [
    ⟨some 19, none, .v fun s => some (s.get 1)⟩,
    ⟨some 20, none, .v fun s => lenSl (s.get 19)⟩,
    ⟨some 21, none, .v fun s => binA prog .eql 3 (s.get 20) (.int .i64 0)⟩,
    ⟨some 18, none, .v fun s => some (s.get 21)⟩] K s := (den_reg hf _ K s).trans (by kernel_rfl)
theorem i2_eq (K : List Item) (s : St) : den prog ann 14 (.code i2 :: K) s = ifV prog ann 14 18 i2t i2e K s (s.get 18) := den_if hf (by kernel_rfl) K s
theorem i2t_eq (K : List Item) (s : St) : den prog ann 14 (.code i2t :: K) s = den prog ann 14 (.code r6 :: .code .ret :: K) s := den_flat hf (l := [r6, .ret]) (by kernel_rfl) K s
theorem r6_eq (K : List Item) (s : St) : den prog ann 14 (.code r6 :: K) s = mreg prog ann 14 none [] none [] [
    ⟨some 4, none, .v fun s => some (.int .i64 2)⟩] K s := (den_reg hf _ K s).trans (by kernel_rfl)
theorem i2e_eq (K : List Item) (s : St) : den prog ann 14 (.code i2e :: K) s = den prog ann 14 (K) s := den_flat hf (l := []) (by kernel_rfl) K s
theorem r7_eq (K : List Item) (s : St) : den prog ann 14 (.code r7 :: K) s = mreg prog ann 14 (some [0, 1]) [] none [] [
    ⟨some 22, none, .v fun s => some (s.get 1)⟩,
    ⟨some 23, none, .v fun s => lenSl (s.get 22)⟩,
    ⟨some 24, none, .v fun s => some (.int .i64 0)⟩] K s := (den_reg hf _ K s).trans (by kernel_rfl)
theorem k1_eq (K : List Item) (t : List (Nat × AV)) (m : Mem) : den prog ann 14 (.code k1 :: K) ⟨t, 50, m⟩ = L1 (get t 0) (get t 1) (get t 22) (get t 23) (get t 24) m K := den_loop_enter hf (b := l1) (id := 8) (l := [0, 1, 22, 23, 24]) (by kernel_rfl) (by kernel_rfl) (by kernel_rfl) K _
theorem l1_eq (K : List Item) (t : List (Nat × AV)) (m : Mem) : den prog ann 14 (.inLoop l1 :: .inBlock 1 :: K) ⟨t, 50, m⟩ = L1 (get t 0) (get t 1) (get t 22) (get t 23) (get t 24) m K := den_loop_again hf (id := 8) (l := [0, 1, 22, 23, 24]) (by kernel_rfl) (by kernel_rfl) (.inBlock 1 :: K) _
theorem L1_eq (x0 x1 x22 x23 x24 : AV) (m : Mem) (K : List Item) : L1 x0 x1 x22 x23 x24 m K = den prog ann 14 (.code r8 :: .code i3 :: .code k2 :: .code r12 :: .inLoop l1 :: .inBlock 1 :: K) ⟨[(0, x0), (1, x1), (22, x22), (23, x23), (24, x24)], 50, m⟩ := den_flat hf (l := [r8, i3, k2, r12]) (by kernel_rfl) _ _
theorem r8_eq (K : List Item) (s : St) : den prog ann 14 (.code r8 :: K) s = mreg prog ann 14 (some [0, 1, 22, 23, 24]) [] none [] [
    ⟨some 25, none, .v fun s => binA prog .lss 3 (s.get 24) (s.get 23)⟩] K s := (den_reg hf _ K s).trans (by kernel_rfl)
theorem i3_eq (K : List Item) (s : St) : den prog ann 14 (.code i3 :: K) s = ifV prog ann 14 25 i3t i3e K s (s.get 25) := den_if hf (by kernel_rfl) K s
theorem i3t_eq (K : List Item) (s : St) : den prog ann 14 (.code i3t :: K) s = den prog ann 14 (K) s := den_flat hf (l := []) (by kernel_rfl) K s
theorem i3e_eq (K : List Item) (s : St) : den prog ann 14 (.code i3e :: K) s = den prog ann 14 (.code (.exit 1) :: K) s := den_flat hf (l := [(.exit 1)]) (by kernel_rfl) K s
theorem k2_eq (K : List Item) (s : St) : den prog ann 14 (.code k2 :: K) s = den prog ann 14 (.code r9 :: .code r10 :: .code i4 :: .inBlock 2 :: K) s := den_blk hf (b := blkOf k2) (l := [r9, r10, i4]) (by kernel_rfl) (by kernel_rfl) K s
theorem r9_eq (K : List Item) (s : St) : den prog ann 14 (.code r9 :: K) s = mreg prog ann 14 none [] none [] [
    ⟨some 26, none, .v fun s => some (s.get 24)⟩,
    ⟨some 27, none, .v fun s => idxSl 1 (s.get 22) (s.get 24)⟩,
    ⟨some 28, none, .v fun s => loadF false 1 (s.get 27)⟩,
    ⟨some 5, none, .v fun s => some (s.get 26)⟩,
    ⟨some 6, none, .v fun s => some (s.get 28)⟩] K s := (den_reg hf _ K s).trans (by kernel_rfl)
theorem r10_eq (K : List Item) (s : St) : den prog ann 14 (.code r10 :: K) s = mreg prog ann 14 none [] none [] [
    ⟨some 29, none, .v fun s => some (s.get 6)⟩,
    ⟨some 30, none, .v fun s => binA prog .lss 3 (s.get 29) (.int .i64 0)⟩,
    ⟨some 31, none, .v fun s => some (s.get 30)⟩,
    ⟨some 32, some (31, false), .v fun s => some (s.get 6)⟩,
    ⟨some 33, some (31, false), .v fun s => some (s.get 0)⟩,
    ⟨some 34, some (31, false), .v fun s => binA prog .geq 3 (s.get 32) (s.get 33)⟩,
    ⟨some 35, none, .v fun s => pickA (s.get 31) (.bool true) (s.get 34)⟩,
    ⟨some 36, none, .v fun s => some (s.get 35)⟩,
    ⟨some 37, some (36, false), .v fun s => some (s.get 5)⟩,
    ⟨some 38, some (36, false), .v fun s => binA prog .gtr 3 (s.get 37) (.int .i64 0)⟩,
    ⟨some 39, some (36, false), .v fun s => some (s.get 38)⟩,
    ⟨some 40, some (39, true), .v fun s => some (s.get 6)⟩,
    ⟨some 41, some (39, true), .v fun s => some (s.get 1)⟩,
    ⟨some 42, some (39, true), .v fun s => some (s.get 5)⟩,
    ⟨some 43, some (39, true), .v fun s => binA prog .sub 3 (s.get 42) (.int .i64 1)⟩,
    ⟨some 44, some (39, true), .v fun s => idxSl 1 (s.get 41) (s.get 43)⟩,
    ⟨some 45, some (39, true), .v fun s => loadF false 1 (s.get 44)⟩,
    ⟨some 46, some (39, true), .v fun s => binA prog .leq 3 (s.get 40) (s.get 45)⟩,
    ⟨some 47, some (36, false), .v fun s => pickA (s.get 39) (s.get 46) (.bool false)⟩,
    ⟨some 48, none, .v fun s => pickA (s.get 36) (.bool true) (s.get 47)⟩] K s := (den_reg hf _ K s).trans (by kernel_rfl)
theorem i4_eq (K : List Item) (s : St) : den prog ann 14 (.code i4 :: K) s = ifV prog ann 14 48 i4t i4e K s (s.get 48) := den_if hf (by kernel_rfl) K s
theorem i4t_eq (K : List Item) (s : St) : den prog ann 14 (.code i4t :: K) s = den prog ann 14 (.code r11 :: .code .ret :: K) s := den_flat hf (l := [r11, .ret]) (by kernel_rfl) K s
theorem r11_eq (K : List Item) (s : St) : den prog ann 14 (.code r11 :: K) s = mreg prog ann 14 none [] none [] [
    ⟨some 4, none, .v fun s => some (.int .i64 2)⟩] K s := (den_reg hf _ K s).trans (by kernel_rfl)
theorem i4e_eq (K : List Item) (s : St) : den prog ann 14 (.code i4e :: K) s = den prog ann 14 (K) s := den_flat hf (l := []) (by kernel_rfl) K s
theorem r12_eq (K : List Item) (s : St) : den prog ann 14 (.code r12 :: K) s = mreg prog ann 14 (some [0, 1, 22, 23, 24]) [] none [] [
    ⟨some 49, none, .v fun s => binA prog .add 3 (s.get 24) (.int .i64 1)⟩,
    ⟨some 24, none, .v fun s => some (s.get 49)⟩] K s := (den_reg hf _ K s).trans (by kernel_rfl)
theorem r13_eq (K : List Item) (s : St) : den prog ann 14 (.code r13 :: K) s = mreg prog ann 14 (some []) [] none [] [
    ⟨some 4, none, .v fun s => some (.int .i64 0)⟩] K s := (den_reg hf _ K s).trans (by kernel_rfl)
theorem ret_eq (K : List Item) (s : St) : den prog ann 14 (.code .ret :: K) s = finM true [fun s => some (s.get 4)] s := (den_ret hf K s).trans (by kernel_rfl)
theorem nil_eq (s : St) : den prog ann 14 [] s = finM true [fun s => some (s.get 4)] s := (den_nil hf s).trans (by kernel_rfl)
theorem inBlock_eq (id : Nat) (K : List Item) (s : St) : den prog ann 14 (.inBlock id :: K) s = den prog ann 14 K s := den_inBlock hf id K s
theorem exit_eq (id : Nat) (K : List Item) (s : St) : den prog ann 14 (.code (.exit id) :: K) s = exitV prog ann 14 (exitTo id K) s := den_exitV hf id K s
theorem call_eq (v0 v1 : AV) (m : Mem) (h : closedL [v0, v1] = true) : denC prog ann 14 [v0, v1] m = (den prog ann 14 [.code b] ⟨[(0, v0), (1, v1)], 50, Mem.empty⟩).bind fun r => some (r.1, m) := (denC_pure hf (b := b) (by kernel_rfl) (by kernel_rfl) (by kernel_rfl) h m).trans (by kernel_rfl)
theorem pure_eq : (ann 14).pure = true := by kernel_rfl
attribute [simp] b_eq r0_eq k0_eq r1_eq i0_eq i0t_eq r2_eq i0e_eq r3_eq i1_eq i1t_eq r4_eq i1e_eq r5_eq i2_eq i2t_eq r6_eq i2e_eq r7_eq k1_eq l1_eq r8_eq i3_eq i3t_eq i3e_eq k2_eq r9_eq r10_eq i4_eq i4t_eq r11_eq i4e_eq r12_eq r13_eq ret_eq nil_eq inBlock_eq exit_eq pure_eq
end strap_ring

end Go.Proofs.YtofceaeboboflaaDoor

/-
  LISTS OF NUMBERS: what all laws share. Conditions: none.
-/
namespace Go.AM
set_option linter.all false

/-- The lexicographic order. -/
def lexLt : List Int → List Int → Bool
  | [], [] => false
  | [], _ :: _ => true
  | _ :: _, [] => false
  | a :: x, b :: y => if a = b then lexLt x y else decide (a < b)
theorem lexLt_irr : ∀ a : List Int, lexLt a a = false
  | [] => rfl
  | a :: x => by simp [lexLt, lexLt_irr x]
theorem lex_trans : ∀ {a b c : List Int}, lexLt a b = true → lexLt b c = true → lexLt a c = true
  | [], [], _, h, _ => by simp [lexLt] at h
  | [], _ :: _, [], _, h => by simp [lexLt] at h
  | [], _ :: _, _ :: _, _, _ => rfl
  | _ :: _, [], _, h, _ => by simp [lexLt] at h
  | _ :: _, _ :: _, [], _, h => by simp [lexLt] at h
  | x :: a, y :: b, z :: c, h1, h2 => by
    simp only [lexLt] at h1 h2 ⊢
    by_cases e1 : x = y
    · subst e1
      rw [if_pos rfl] at h1
      by_cases e2 : x = z
      · subst e2
        rw [if_pos rfl] at h2 ⊢
        exact lex_trans h1 h2
      · rw [if_neg e2] at h2 ⊢; exact h2
    · rw [if_neg e1, decide_eq_true_eq] at h1
      by_cases e2 : y = z
      · subst e2
        rw [if_neg e1, decide_eq_true_eq]; exact h1
      · rw [if_neg e2, decide_eq_true_eq] at h2
        rw [if_neg (by omega), decide_eq_true_eq]; omega

theorem updNe {h : Nat → Option AObj} {i j : Nat} {o : Option AObj} (e : j ≠ i) : upd h i o j = h j := by simp [upd, show (j == i) = false from beq_eq_false_iff_ne.2 e]
theorem nth_set (l : List Int) (i j : Nat) (v : Int) : nth (l.set i v) j = if i = j ∧ i < l.length then v else nth l j := by
  simp only [nth, List.getD, List.getElem?_set]
  by_cases h : i = j
  · subst h
    by_cases h2 : i < l.length
    · simp [h2]
    · simp [h2, List.getElem?_eq_none (show l.length ≤ i by omega)]
  · simp [h]
theorem nth_zero' (n i : Nat) : nth (List.replicate n 0) i = 0 := by
  simp only [nth, List.getD, List.getElem?_replicate]; split <;> rfl
/-- One more at a place. -/
def bump (c : List Int) (h : Nat) : List Int := c.set h (nth c h + 1)
theorem bump_len (c : List Int) (h : Nat) : (bump c h).length = c.length := by simp [bump]
def I64 (n : Int) : Prop := -9223372036854775808 ≤ n ∧ n ≤ 9223372036854775807
/-! ### A list that grows in memory -/
/-- The slice: nothing at first, then one object. -/
def outI (oid : Nat) (acc : List Int) : AV := if acc = [] then .nils else .sl oid 1 0 acc.length acc.length
def OutI (m : Mem) (oid : Nat) (acc : List Int) : Prop := acc ≠ [] → m.h oid = some (.cells (ints acc)) ∧ oid < m.nx
def intsV (acc : List Int) : AV := if acc = [] then .nils else .fsl false acc.length (ints acc)
theorem intsV_is (acc : List Int) : IsInts (intsV acc) acc := by
  by_cases e : acc = []
  · exact .inl ⟨by rw [intsV, if_pos e], e⟩
  · exact .inr ⟨false, by rw [intsV, if_neg e]⟩
/-- One more. -/
theorem outI_app {m : Mem} {oid : Nat} {acc : List Int} (h : OutI m oid acc) (hl : acc.length < 1000000) (x : Int) (ex : Bool) : ∃ oid' m', appendA 1 8 m (outI oid acc) (.fsl ex 1 [.int .i64 x]) = some (outI oid' (acc ++ [x]), m') ∧ OutI m' oid' (acc ++ [x]) ∧ m.nx ≤ m'.nx ∧ (∀ id, id < m.nx → id ≠ oid → m'.h id = m.h id) ∧ (acc = [] → ∀ id, id < m.nx → m'.h id = m.h id) := by
  by_cases e : acc = []
  · subst e
    refine ⟨m.nx, ⟨upd m.h m.nx (some (.cells [.int .i64 x])), m.nx + 1⟩, by simp [outI], fun _ => ⟨by simp, by show m.nx < m.nx + 1; omega⟩, by simp, fun id hid _ => updNe (by omega), fun _ id hid => updNe (by omega)⟩
  · obtain ⟨a, b⟩ := h e
    have hx : ints acc ++ [AV.int .i64 x] = ints (acc ++ [x]) := by simp [ints]
    refine ⟨oid, ⟨upd m.h oid (some (.cells (ints (acc ++ [x])))), m.nx⟩, ?_, fun _ => ⟨by simp, b⟩, Nat.le_refl _, fun id _ hne => updNe hne, fun h => absurd h e⟩
    have e2 : outI oid (acc ++ [x]) = .sl oid 1 0 (acc.length + 1) (acc.length + 1) := by simp [outI]
    rw [e2, outI, if_neg e]
    simp [a, hx, Mem.set, show acc.length ≤ 4611686018427387903 by omega, show (acc.length + 1) * 8 ≤ 70368744177664 by omega]
theorem outI_appT {m : Mem} {oid : Nat} {acc : List Int} (h : OutI m oid acc) (hl : acc.length < 1000000) (x : Int) : ∃ oid' m', appT 1 8 m (outI oid acc) (some (1, [.int .i64 x])) = some (outI oid' (acc ++ [x]), m') ∧ OutI m' oid' (acc ++ [x]) ∧ m.nx ≤ m'.nx ∧ (∀ id, id < m.nx → id ≠ oid → m'.h id = m.h id) ∧ (acc = [] → ∀ id, id < m.nx → m'.h id = m.h id) := by
  obtain ⟨o, m', a, b⟩ := outI_app h hl x false
  exact ⟨o, m', by simpa using a, b⟩
end Go.AM

/-
  THE LIBRARY'S SORT OF WHOLE NUMBERS, AS A THEOREM OF THIS PROGRAM (the shelf's contract). Conditions: none.
-/
namespace Go.Proofs.YtofceaeboboflaaDoor
open Go.Shelf Go.Proofs Go.AM
open Go.Proofs.Tryd (prog)
set_option maxRecDepth 100000
def sortRen : Go.Shelf.Ren := ⟨fun | 189 => 26 | 125 => 37 | 257 => 36 | 128 => 51 | 129 => 52 | 294 => 42 | 295 => 43 | 296 => 44 | 297 => 45 | 298 => 46 | 299 => 47 | 216 => 48 | 300 => 49 | 301 => 50 | 328 => 53 | 329 => 54 | 330 => 55 | 331 => 56 | 332 => 57 | 215 => 58 | 343 => 59 | n => n, fun | 28 => 24 | 3 => 3 | 46 => 61 | 0 => 0 | 51 => 22 | 53 => 74 | 4 => 4 | 183 => 65 | 182 => 64 | 131 => 70 | 5 => 5 | 9 => 9 | 218 => 75 | 222 => 79 | 228 => 81 | 229 => 82 | n => n, fun n => n⟩
theorem sortLays : Lays.n189 Tryd.prog sortRen where
  mixed := by kernel_rfl
  f125 := Tryd.func37.trans (congrArg some (by kernel_rfl))
  f128 := Tryd.func51.trans (congrArg some (by kernel_rfl))
  f129 := Tryd.func52.trans (congrArg some (by kernel_rfl))
  f189 := Tryd.func26.trans (congrArg some (by kernel_rfl))
  f215 := Tryd.func58.trans (congrArg some (by kernel_rfl))
  f216 := Tryd.func48.trans (congrArg some (by kernel_rfl))
  f257 := Tryd.func36.trans (congrArg some (by kernel_rfl))
  f294 := Tryd.func42.trans (congrArg some (by kernel_rfl))
  f295 := Tryd.func43.trans (congrArg some (by kernel_rfl))
  f296 := Tryd.func44.trans (congrArg some (by kernel_rfl))
  f297 := Tryd.func45.trans (congrArg some (by kernel_rfl))
  f298 := Tryd.func46.trans (congrArg some (by kernel_rfl))
  f299 := Tryd.func47.trans (congrArg some (by kernel_rfl))
  f300 := Tryd.func49.trans (congrArg some (by kernel_rfl))
  f301 := Tryd.func50.trans (congrArg some (by kernel_rfl))
  f328 := Tryd.func53.trans (congrArg some (by kernel_rfl))
  f329 := Tryd.func54.trans (congrArg some (by kernel_rfl))
  f330 := Tryd.func55.trans (congrArg some (by kernel_rfl))
  f331 := Tryd.func56.trans (congrArg some (by kernel_rfl))
  f332 := Tryd.func57.trans (congrArg some (by kernel_rfl))
  f343 := Tryd.func59.trans (congrArg some (by kernel_rfl))
  t0 := Tryd.underlying0
  a0 := Tryd.isAgg0
  z0 := Tryd.sizeOf0
  v0 := Tryd.zeroValue0
  t3 := Tryd.underlying3
  a3 := Tryd.isAgg3
  z3 := Tryd.sizeOf3
  v3 := Tryd.zeroValue3
  t4 := Tryd.underlying4
  a4 := Tryd.isAgg4
  z4 := Tryd.sizeOf4
  v4 := Tryd.zeroValue4
  t5 := Tryd.underlying5
  a5 := Tryd.isAgg5
  z5 := Tryd.sizeOf5
  v5 := Tryd.zeroValue5
  t9 := Tryd.underlying9
  a9 := Tryd.isAgg9
  z9 := Tryd.sizeOf9
  v9 := Tryd.zeroValue9
  t28 := Tryd.underlying24
  a28 := Tryd.isAgg24
  z28 := Tryd.sizeOf24
  v28 := Tryd.zeroValue24
  t46 := Tryd.underlying61
  a46 := Tryd.isAgg61
  z46 := Tryd.sizeOf61
  v46 := Tryd.zeroValue61
  t51 := Tryd.underlying22
  a51 := Tryd.isAgg22
  z51 := Tryd.sizeOf22
  v51 := Tryd.zeroValue22
  t53 := Tryd.underlying74
  a53 := Tryd.isAgg74
  z53 := Tryd.sizeOf74
  v53 := Tryd.zeroValue74
  t131 := Tryd.underlying70
  a131 := Tryd.isAgg70
  z131 := Tryd.sizeOf70
  v131 := Tryd.zeroValue70
  t182 := Tryd.underlying64
  a182 := Tryd.isAgg64
  z182 := Tryd.sizeOf64
  v182 := Tryd.zeroValue64
  t183 := Tryd.underlying65
  a183 := Tryd.isAgg65
  z183 := Tryd.sizeOf65
  v183 := Tryd.zeroValue65
  t218 := Tryd.underlying75
  a218 := Tryd.isAgg75
  z218 := Tryd.sizeOf75
  v218 := Tryd.zeroValue75
  t222 := Tryd.underlying79
  a222 := Tryd.isAgg79
  z222 := Tryd.sizeOf79
  v222 := Tryd.zeroValue79
  t228 := Tryd.underlying81
  a228 := Tryd.isAgg81
  z228 := Tryd.sizeOf81
  v228 := Tryd.zeroValue81
  t229 := Tryd.underlying82
  a229 := Tryd.isAgg82
  z229 := Tryd.sizeOf82
  v229 := Tryd.zeroValue82
theorem sortS : ∀ g, (ann g).srt = true → SortCalls prog g := fun g h => by
  have := srt_only (l := annL) (d := ⟨false, [], [], [], []⟩) rfl (fun g => g == 26) (by kernel_rfl) g h
  have e : g = 26 := by simpa using this
  subst e
  exact fun blk off cap zs w hH hblk hsz => Any.slices_Sort_int sortLays blk off cap zs w hH hblk hsz
end Go.Proofs.YtofceaeboboflaaDoor

/-
  STRAPS (1): the order of lists, the same list; what a strap is. Conditions: none.
-/
namespace Go.Proofs.YtofceaeboboflaaDoor
open Go.AM
open Go.Proofs.Tryd (prog)
set_option linter.all false
set_option maxRecDepth 100000
set_option maxHeartbeats 4000000

/-! ### What a strap is -/
def ascB (l : List Int) (k i : Nat) : Bool := (List.range' i k).all fun i => decide (nth l (i - 1) < nth l i)
/-- A strap: from 0, rising, no more than 1000 long. -/
structure StrapOk (l : List Int) : Prop where
  pos : 0 < l.length
  few : l.length ≤ 40
  zero : nth l 0 = 0
  asc : ∀ i, i + 1 < l.length → nth l i < nth l (i + 1)
  top : nth l (l.length - 1) ≤ 1000
theorem StrapOk.lt {l : List Int} (s : StrapOk l) {i : Nat} : ∀ {j : Nat}, i < j → j < l.length → nth l i < nth l j
  | j + 1, h, hj => by
    rcases Nat.eq_or_lt_of_le (Nat.le_of_lt_succ h) with e | e
    · subst e; exact s.asc i hj
    · exact Int.lt_trans (s.lt e (by omega)) (s.asc j hj)
theorem StrapOk.le {l : List Int} (s : StrapOk l) {i j : Nat} (h : i ≤ j) (hj : j < l.length) : nth l i ≤ nth l j := by
  rcases Nat.eq_or_lt_of_le h with e | e
  · subst e; exact Int.le_refl _
  · exact Int.le_of_lt (s.lt e hj)
theorem StrapOk.nonneg {l : List Int} (s : StrapOk l) {i : Nat} (hi : i < l.length) : 0 ≤ nth l i := by
  have := s.le (Nat.zero_le i) hi
  rw [s.zero] at this; exact this
theorem StrapOk.most {l : List Int} (s : StrapOk l) {i : Nat} (hi : i < l.length) : nth l i ≤ 1000 := by
  have := s.le (show i ≤ l.length - 1 by omega) (by omega)
  have := s.top
  omega
/-- Why a list is no strap. -/
inductive StrapErr (l : List Int) : Int → Prop where
  | long (h : 40 < l.length) : StrapErr l 3
  | form (h : l.length ≤ 40) (h2 : ¬ StrapOk l) : StrapErr l 2
  | ok (h : StrapOk l) : StrapErr l 0
theorem StrapErr.uniq {l : List Int} {a b : Int} (h : StrapErr l a) (k : StrapErr l b) : a = b := by
  cases h with
  | long h => cases k with
    | long _ => rfl
    | form h2 _ => omega
    | ok s => have := s.few; omega
  | form h h2 => cases k with
    | long _ => omega
    | form _ _ => rfl
    | ok s => exact absurd s h2
  | ok s => cases k with
    | long _ => have := s.few; omega
    | form _ h => exact absurd s h
    | ok _ => rfl

end Go.Proofs.YtofceaeboboflaaDoor

/-
  STRAPS (2): the specification's test; how often each distance comes. Conditions: none.
-/
namespace Go.Proofs.YtofceaeboboflaaDoor
open Go.AM
open Go.Proofs.Tryd (prog)
set_option linter.all false
set_option maxRecDepth 100000
set_option maxHeartbeats 4000000

def okAt (l : List Int) (j : Nat) : Bool := if j = 0 then decide (nth l 0 = 0) else decide (nth l (j - 1) < nth l j) && decide (nth l j ≤ 1000)
/-! ### How often each distance comes -/
def cntF (l : List Int) (x : Int) (k j : Nat) (c : List Int) : List Int := (List.range' j k).foldl (fun c q => bump c (x - nth l q).toNat) c
def cntO (l : List Int) (k i : Nat) (c : List Int) : List Int := (List.range' i k).foldl (fun c i => cntF l (nth l i) i 0 c) c
theorem cntF_succ (l : List Int) (x : Int) (k j : Nat) (c : List Int) : cntF l x (k + 1) j c = cntF l x k (j + 1) (bump c (x - nth l j).toNat) := by simp [cntF, List.range'_succ]
/-- The counts are small. -/
def Small (c : List Int) (B : Int) : Prop := ∀ g, 0 ≤ nth c g ∧ nth c g ≤ B
theorem Small.bump {c : List Int} {B : Int} (h : Small c B) (hB : 0 ≤ B) (q : Nat) : Small (bump c q) (B + 1) := by
  intro g
  have := h g
  have h2 := h q
  rw [Go.AM.bump, nth_set]
  split <;> omega
theorem Small.cntF {l : List Int} {x : Int} : ∀ {k j : Nat} {c : List Int} {B : Int}, Small c B → 0 ≤ B → Small (cntF l x k j c) (B + k)
  | 0, _, _, _, h, _ => by simpa [Go.Proofs.YtofceaeboboflaaDoor.cntF] using h
  | k + 1, j, c, B, h, hB => by
    rw [cntF_succ]
    have := (h.bump hB (x - nth l j).toNat).cntF (l := l) (x := x) (k := k) (j := j + 1) (by omega)
    rwa [show B + 1 + (k : Int) = B + ((k + 1 : Nat) : Int) by omega] at this

/-- What a strap's counting keeps. -/
def top (l : List Int) : Int := nth l (l.length - 1)
def counts (l : List Int) : List Int := cntO l l.length 0 (List.replicate (top l + 1).toNat 0)
end Go.Proofs.YtofceaeboboflaaDoor

/-
  STRAPS (3): the distances that a strap lacks. Conditions: none.
-/
namespace Go.Proofs.YtofceaeboboflaaDoor
open Go.AM
open Go.Proofs.Tryd (prog)
set_option linter.all false
set_option maxRecDepth 100000
set_option maxHeartbeats 4000000

def missL (c : List Int) (k i : Nat) : List Int := ((List.range' i k).filter fun d => decide (0 < d) && decide (nth c d = 0)).map fun d : Nat => (d : Int)
def misses (l : List Int) : List Int := missL (counts l) (counts l).length 0
end Go.Proofs.YtofceaeboboflaaDoor

/-
  STRAPS (4): the first distance that comes twice. Conditions: none.
-/
namespace Go.Proofs.YtofceaeboboflaaDoor
open Go.AM
open Go.Proofs.Tryd (prog)
set_option linter.all false
set_option maxRecDepth 100000
set_option maxHeartbeats 4000000

def fstL (p : Nat → Bool) (k i : Nat) : Int := match (List.range' i k).find? p with | some d => (d : Int) | none => -1
def moreP (c : List Int) (d : Nat) : Bool := decide (1 < nth c d)
def twStep (l : List Int) (d : Nat) (acc : List Int) (a : Int) : List Int := if acc.length < 4 ∧ a + (d : Int) ∈ l then acc ++ [a, a + (d : Int)] else acc
/-- What Twice hands back. -/
inductive TwRes (l : List Int) : AV → Int → Int → Prop where
  | bad {e : Int} (h : e ≠ 0) : TwRes l .nils e e
  | none (s : StrapOk l) (h : fstL (moreP (counts l)) (counts l).length 0 < 0) : TwRes l .nils 0 5
  | ok {w : AV} {d : Nat} (s : StrapOk l) (h : fstL (moreP (counts l)) (counts l).length 0 = d) (i : IsInts w (l.foldl (twStep l d) [])) : TwRes l w 0 0
end Go.Proofs.YtofceaeboboflaaDoor

/-
  WHAT AN INPUT'S VALUE IS; equality of lists with nothing, and of truth values. Conditions: none.
-/
namespace Go.Proofs.YtofceaeboboflaaDoor
open Go.AM
open Go.Proofs.Tryd (prog)
set_option linter.all false
set_option maxRecDepth 100000
theorem u3 : prog.underlying 3 = some (.int .i64) := by kernel_rfl
theorem u4 : prog.underlying 4 = some .bool := by kernel_rfl
theorem u22 : prog.underlying 24 = some (.slice 3) := by kernel_rfl
@[simp] theorem eql_nils : binA prog .eql 24 .nils .nils = some (.bool true) := by simp [binA, eqT, eqA, u22]
@[simp] theorem neq_nils : binA prog .neq 24 .nils .nils = some (.bool false) := by simp [binA, eqT, eqA, u22]
@[simp] theorem eql_fsl (ex : Bool) (n : Nat) (cs : List AV) : binA prog .eql 24 (.fsl ex n cs) .nils = some (.bool false) := by simp [binA, eqT, eqA, u22]
@[simp] theorem neq_fsl (ex : Bool) (n : Nat) (cs : List AV) : binA prog .neq 24 (.fsl ex n cs) .nils = some (.bool true) := by simp [binA, eqT, eqA, u22]
@[simp] theorem eql_bool (a b : Bool) : binA prog .eql 4 (.bool a) (.bool b) = some (.bool (a == b)) := by simp [binA, eqT, eqA, u4]

/-! ### Bytes -/
theorem u5 : prog.underlying 5 = some (.int .u8) := by kernel_rfl
def byteC (n : Int) : List AV := [.int .u8 n]
theorem dat5 {d : Nat} {cs : List AV} (h : Dat prog (d + 1) 5 cs) : ∃ n, cs = byteC n ∧ 0 ≤ n ∧ n ≤ 255 := by
  simp only [Dat, u5] at h
  obtain ⟨n, rfl, hw⟩ := h
  refine ⟨n, rfl, ?_⟩
  simp only [Lit.wf, Bool.and_eq_true, decide_eq_true_eq] at hw
  have e1 : IntKind.min .u8 = 0 := by decide
  have e2 : IntKind.max .u8 = 255 := by decide
  rw [e1, e2] at hw
  exact hw
end Go.Proofs.YtofceaeboboflaaDoor

/-
  STRAPS (5): the specification's four loops. Conditions: none.
-/
namespace Go.Proofs.YtofceaeboboflaaDoor
open Go.AM
open Go.Proofs.Tryd (prog)
set_option linter.all false
set_option maxRecDepth 100000
set_option maxHeartbeats 8000000

/-- The best four so far: none, or four. -/
def bestV (b : List Int) : AV := if b = [] then .nils else .fsl true b.length (ints b)
def twC (b q : List Int) : Bool := decide (b = []) || (decide (nth q 1 - nth q 0 < nth b 1 - nth b 0) || (decide (nth q 1 - nth q 0 = nth b 1 - nth b 0) && lexLt [nth q 0, nth q 2] [nth b 0, nth b 2]))
def twQ (l : List Int) (i j m n : Nat) : List Int := [nth l i, nth l j, nth l m, nth l n]
def tw7 (l : List Int) (i j m n : Nat) (b : List Int) : List Int := if nth l j - nth l i = nth l n - nth l m then (if twC b (twQ l i j m n) = true then twQ l i j m n else b) else b
def tw6 (l : List Int) (i j m k n : Nat) (b : List Int) : List Int := (List.range' n k).foldl (fun b n => tw7 l i j m n b) b
def tw4 (l : List Int) (i j k m : Nat) (b : List Int) : List Int := (List.range' m k).foldl (fun b m => tw6 l i j m (l.length - (m + 1)) (m + 1) b) b
def tw2 (l : List Int) (i k j : Nat) (b : List Int) : List Int := (List.range' j k).foldl (fun b j => tw4 l i j (l.length - (i + 1)) (i + 1) b) b
def tw0 (l : List Int) (k i : Nat) (b : List Int) : List Int := (List.range' i k).foldl (fun b i => tw2 l i (l.length - (i + 1)) (i + 1) b) b
theorem tw6_succ (l : List Int) (i j m k n : Nat) (b : List Int) : tw6 l i j m (k + 1) n b = tw6 l i j m k (n + 1) (tw7 l i j m n b) := by simp [tw6, List.range'_succ]
theorem tw4_succ (l : List Int) (i j k m : Nat) (b : List Int) : tw4 l i j (k + 1) m b = tw4 l i j k (m + 1) (tw6 l i j m (l.length - (m + 1)) (m + 1) b) := by simp [tw4, List.range'_succ]
theorem tw2_succ (l : List Int) (i k j : Nat) (b : List Int) : tw2 l i (k + 1) j b = tw2 l i k (j + 1) (tw4 l i j (l.length - (i + 1)) (i + 1) b) := by simp [tw2, List.range'_succ]
theorem tw0_succ (l : List Int) (k i : Nat) (b : List Int) : tw0 l (k + 1) i b = tw0 l k (i + 1) (tw2 l i (l.length - (i + 1)) (i + 1) b) := by simp [tw0, List.range'_succ]
/-- The best is none, or four holes. -/
def Fit (b : List Int) : Prop := b = [] ∨ ∃ p q r t : Int, b = [p, q, r, t] ∧ (0 ≤ p ∧ p ≤ 1000) ∧ (0 ≤ q ∧ q ≤ 1000) ∧ 0 ≤ r ∧ r ≤ 1000
theorem Fit.step {l : List Int} (s : StrapOk l) {b : List Int} (h : Fit b) {i j m n : Nat} (hi : i < l.length) (hj : j < l.length) (hm : m < l.length) : Fit (tw7 l i j m n b) := by
  unfold tw7
  split
  · split
    · exact .inr ⟨_, _, _, _, rfl, ⟨s.nonneg hi, s.most hi⟩, ⟨s.nonneg hj, s.most hj⟩, s.nonneg hm, s.most hm⟩
    · exact h
  · exact h
theorem Fit.six {l : List Int} (s : StrapOk l) {i j m : Nat} (hi : i < l.length) (hj : j < l.length) (hm : m < l.length) : ∀ {k n : Nat} {b : List Int}, Fit b → Fit (tw6 l i j m k n b)
  | 0, _, _, h => h
  | k + 1, n, b, h => by rw [tw6_succ]; exact (h.step s hi hj hm).six s hi hj hm
theorem Fit.four {l : List Int} (s : StrapOk l) {i j : Nat} (hi : i < l.length) (hj : j < l.length) : ∀ {k m : Nat} {b : List Int}, m + k ≤ l.length → Fit b → Fit (tw4 l i j k m b)
  | 0, _, _, _, h => h
  | k + 1, m, b, hk, h => by rw [tw4_succ]; exact (h.six s hi hj (by omega)).four s hi hj (by omega)
theorem Fit.two {l : List Int} (s : StrapOk l) {i : Nat} (hi : i < l.length) : ∀ {k j : Nat} {b : List Int}, j + k ≤ l.length → Fit b → Fit (tw2 l i k j b)
  | 0, _, _, _, h => h
  | k + 1, j, b, hk, h => by rw [tw2_succ]; exact (h.four s hi (by omega) (by omega)).two s hi (by omega)

end Go.Proofs.YtofceaeboboflaaDoor

/-
  STRAPS (6): how often each distance comes, in plain terms. Conditions: none.
-/
namespace Go.Proofs.YtofceaeboboflaaDoor
open Go.AM
set_option linter.all false
set_option maxRecDepth 10000
set_option maxHeartbeats 2000000

def hit (l : List Int) (g i : Nat) : Bool := (List.range' 0 i).any fun q => decide (nth l q = nth l i - g)
def D (l : List Int) (g : Nat) : Nat := l.countP fun a => decide (a - (g : Int) ∈ l)
def U (l : List Int) (g : Nat) : Nat := l.countP fun a => decide (a + (g : Int) ∈ l)
theorem lt_nodup {l : List Int} (h : l.Pairwise (· < ·)) : l.Nodup := h.imp fun h => by omega
end Go.Proofs.YtofceaeboboflaaDoor

/-
  STRAPS (7): the first four holes with one distance are those that the four loops find. Conditions: none.
-/
namespace Go.Proofs.YtofceaeboboflaaDoor
open Go.AM
set_option linter.all false
set_option maxRecDepth 10000
set_option maxHeartbeats 2000000

def key (q : List Int) : List Int := [nth q 1 - nth q 0, nth q 0, nth q 2]
def Val (l : List Int) (i j m n : Nat) : Prop := nth l j - nth l i = nth l n - nth l m
theorem twC_key (b q : List Int) : twC b q = (decide (b = []) || lexLt (key q) (key b)) := by
  simp only [twC, key, lexLt]
  by_cases h : nth q 1 - nth q 0 = nth b 1 - nth b 0
  · simp [h]
  · simp [h]
/-- The best of what was seen. -/
def BestOk (l : List Int) (S : Nat → Nat → Nat → Nat → Prop) (b : List Int) : Prop :=
  (b = [] ∨ ∃ i j m n, S i j m n ∧ Val l i j m n ∧ b = twQ l i j m n) ∧ ∀ i j m n, S i j m n → Val l i j m n → b ≠ [] ∧ lexLt (key (twQ l i j m n)) (key b) = false
theorem BestOk.congr {l : List Int} {S S' : Nat → Nat → Nat → Nat → Prop} {b : List Int} (h : BestOk l S b) (e : ∀ i j m n, S i j m n ↔ S' i j m n) : BestOk l S' b := by
  have : S = S' := by funext i j m n; exact propext (e i j m n)
  rwa [← this]
theorem BestOk.step {l : List Int} {S : Nat → Nat → Nat → Nat → Prop} {b : List Int} (h : BestOk l S b) (i j m n : Nat) : BestOk l (fun i' j' m' n' => S i' j' m' n' ∨ (i' = i ∧ j' = j ∧ m' = m ∧ n' = n)) (tw7 l i j m n b) := by
  unfold tw7
  by_cases v : nth l j - nth l i = nth l n - nth l m
  · rw [if_pos v, twC_key]
    cases t : (decide (b = []) || lexLt (key (twQ l i j m n)) (key b)) with
    | true =>
      rw [if_pos rfl]
      refine ⟨.inr ⟨i, j, m, n, .inr ⟨rfl, rfl, rfl, rfl⟩, v, rfl⟩, ?_⟩
      rintro i' j' m' n' (hs | ⟨rfl, rfl, rfl, rfl⟩) v'
      · refine ⟨by simp [twQ], ?_⟩
        obtain ⟨h1, h2⟩ := h.2 i' j' m' n' hs v'
        rw [decide_eq_false h1, Bool.false_or] at t
        cases q : lexLt (key (twQ l i' j' m' n')) (key (twQ l i j m n)) with
        | false => rfl
        | true => rw [lex_trans q t] at h2; cases h2
      · exact ⟨by simp [twQ], lexLt_irr _⟩
    | false =>
      rw [if_neg (by decide)]
      simp only [Bool.or_eq_false_iff, decide_eq_false_iff_not] at t
      refine ⟨h.1.imp id (fun ⟨i', j', m', n', a, b⟩ => ⟨i', j', m', n', .inl a, b⟩), ?_⟩
      rintro i' j' m' n' (hs | ⟨rfl, rfl, rfl, rfl⟩) v'
      · exact h.2 i' j' m' n' hs v'
      · exact t
  · rw [if_neg v]
    refine ⟨h.1.imp id (fun ⟨i', j', m', n', a, b⟩ => ⟨i', j', m', n', .inl a, b⟩), ?_⟩
    rintro i' j' m' n' (hs | ⟨rfl, rfl, rfl, rfl⟩) v'
    · exact h.2 i' j' m' n' hs v'
    · exact absurd v' v
theorem BestOk.six {l : List Int} (i j m : Nat) : ∀ (k n : Nat) {S : Nat → Nat → Nat → Nat → Prop} {b : List Int}, BestOk l S b → BestOk l (fun i' j' m' n' => S i' j' m' n' ∨ (i' = i ∧ j' = j ∧ m' = m ∧ n ≤ n' ∧ n' < n + k)) (tw6 l i j m k n b)
  | 0, n, S, b, h => h.congr fun i' j' m' n' => ⟨.inl, fun h => h.elim id fun h => by omega⟩
  | k + 1, n, S, b, h => by
    rw [tw6_succ]
    refine ((h.step i j m n).six i j m k (n + 1)).congr fun i' j' m' n' => ⟨?_, ?_⟩
    · rintro ((h | h) | h)
      · exact .inl h
      · exact .inr (by omega)
      · exact .inr (by omega)
    · rintro (h | h)
      · exact .inl (.inl h)
      · by_cases e : n' = n
        · exact .inl (.inr (by omega))
        · exact .inr (by omega)
theorem BestOk.four {l : List Int} (i j : Nat) : ∀ (k m : Nat) {S : Nat → Nat → Nat → Nat → Prop} {b : List Int}, m + k ≤ l.length → BestOk l S b → BestOk l (fun i' j' m' n' => S i' j' m' n' ∨ (i' = i ∧ j' = j ∧ (m ≤ m' ∧ m' < m + k) ∧ m' < n' ∧ n' < l.length)) (tw4 l i j k m b)
  | 0, m, S, b, _, h => h.congr fun i' j' m' n' => ⟨.inl, fun h => h.elim id fun h => by omega⟩
  | k + 1, m, S, b, hk, h => by
    rw [tw4_succ]
    refine (BestOk.four i j k (m + 1) (by omega) (h.six i j m (l.length - (m + 1)) (m + 1))).congr fun i' j' m' n' => ⟨?_, ?_⟩
    · rintro ((h | h) | h)
      · exact .inl h
      · exact .inr (by omega)
      · exact .inr (by omega)
    · rintro (h | h)
      · exact .inl (.inl h)
      · by_cases e : m' = m
        · exact .inl (.inr (by omega))
        · exact .inr (by omega)
theorem BestOk.two {l : List Int} (i : Nat) (hi : i < l.length) : ∀ (k j : Nat) {S : Nat → Nat → Nat → Nat → Prop} {b : List Int}, j + k ≤ l.length → BestOk l S b → BestOk l (fun i' j' m' n' => S i' j' m' n' ∨ (i' = i ∧ (j ≤ j' ∧ j' < j + k) ∧ i < m' ∧ m' < n' ∧ n' < l.length)) (tw2 l i k j b)
  | 0, j, S, b, _, h => h.congr fun i' j' m' n' => ⟨.inl, fun h => h.elim id fun h => by omega⟩
  | k + 1, j, S, b, hk, h => by
    rw [tw2_succ]
    refine (BestOk.two i hi k (j + 1) (by omega) (h.four i j (l.length - (i + 1)) (i + 1) (by omega))).congr fun i' j' m' n' => ⟨?_, ?_⟩
    · rintro ((h | h) | h)
      · exact .inl h
      · exact .inr (by omega)
      · exact .inr (by omega)
    · rintro (h | h)
      · exact .inl (.inl h)
      · by_cases e : j' = j
        · exact .inl (.inr (by omega))
        · exact .inr (by omega)
theorem BestOk.zero {l : List Int} : ∀ (k i : Nat) {S : Nat → Nat → Nat → Nat → Prop} {b : List Int}, i + k ≤ l.length → BestOk l S b → BestOk l (fun i' j' m' n' => S i' j' m' n' ∨ ((i ≤ i' ∧ i' < i + k) ∧ (i' < j' ∧ j' < l.length) ∧ i' < m' ∧ m' < n' ∧ n' < l.length)) (tw0 l k i b)
  | 0, i, S, b, _, h => h.congr fun i' j' m' n' => ⟨.inl, fun h => h.elim id fun h => by omega⟩
  | k + 1, i, S, b, hk, h => by
    rw [tw0_succ]
    refine (BestOk.zero k (i + 1) (by omega) (h.two i (by omega) (l.length - (i + 1)) (i + 1) (by omega))).congr fun i' j' m' n' => ⟨?_, ?_⟩
    · rintro ((h | h) | h)
      · exact .inl h
      · exact .inr (by omega)
      · exact .inr (by omega)
    · rintro (h | h)
      · exact .inl (.inl h)
      · by_cases e : i' = i
        · exact .inl (.inr (by omega))
        · exact .inr (by omega)
def Quad (l : List Int) (i j m n : Nat) : Prop := (i < j ∧ j < l.length) ∧ i < m ∧ m < n ∧ n < l.length
theorem nth_mem {l : List Int} {i : Nat} (h : i < l.length) : nth l i ∈ l := by rw [← nth_get h]; exact List.getElem_mem h
end Go.Proofs.YtofceaeboboflaaDoor

/-
  STRAPS (9): the search for the first list. Conditions: none.
-/
namespace Go.Proofs.YtofceaeboboflaaDoor
open Go.AM
open Go.Proofs.Tryd (prog)
set_option linter.all false
set_option maxRecDepth 100000
set_option maxHeartbeats 4000000

/-! ### The greatest of a list; single lists -/
def maxL (c : List Int) : Int := (c.drop 1).foldl max (nth c 0)
theorem max_loop {w : AV} {c : List Int} (hw0 : IsInts w c) (hcl : c.length ≤ 1001) : ∀ (k i : Nat) (x : Int) (m : Mem), i + k = c.length →
    slices_Max_int.L0 w (.int .i64 x) (.int .i64 i) m [.code slices_Max_int.r8, .code .ret] = some (.int .i64 ((c.drop i).foldl max x), Mem.empty) := by
  intro k
  induction k with
  | zero =>
    intro i x m h1
    have e : i = c.length := by omega
    subst e
    rw [slices_Max_int.L0_eq]
    simp [hw0.len]
    done
  | succ k ih =>
    intro i x m h1
    have hi : i < c.length := by omega
    have hw : IntKind.wrap .i64 ((i : Int) + 1) = (i : Int) + 1 := wrap_id (by omega) (by omega)
    have hst := ih (i + 1) (max x (nth c i)) m (by omega)
    simp only [Int.natCast_add, Int.cast_ofNat_Int] at hst
    rw [drop_nth hi, List.foldl_cons, slices_Max_int.L0_eq]
    simp [hi, hw0.len, hw0.idx hi, ints_head hi, hw, hst]
    done
theorem max_spec {w : AV} {c : List Int} (hw0 : IsInts w c) (hcl : c.length ≤ 1001) (h0 : 0 < c.length) (m : Mem) : denC prog ann 23 [w] m = some (.int .i64 (maxL c), m) := by
  have lp := max_loop hw0 hcl (c.length - 1) 1 (nth c 0) Mem.empty (by omega)
  simp only [Int.cast_ofNat_Int] at lp
  have i0 := hw0.idx h0 .i64
  have i1 := ints_head h0
  simp only [Int.ofNat_zero, Int.cast_ofNat_Int, List.drop_zero] at i0 i1
  rw [slices_Max_int.call_eq _ _ (by simp [hw0.closed])]
  have hn : ¬ (c.length : Int) < 1 := by omega
  simp [hw0.len, hn, i0, i1, lp, maxL]
  done
def gSingle (l : List Int) : Bool := decide (maxL (counts l) ≤ 1)
/-! ### The search -/
def firstF (r : List Int → Option (List Int)) (l : List Int) : Nat → Int → Option (List Int)
  | 0, _ => none
  | n + 1, x => match r (l ++ [x]) with
    | some q => some q
    | none => firstF r l n (x + 1)
def findF (g e : List Int → Bool) (last : Int) : Nat → List Int → Option (List Int)
  | 0, l => if g l = true then (if e l = true then some l else none) else none
  | f + 1, l => if g l = true then firstF (findF g e last f) l (last - f - top l).toNat (top l + 1) else none
def ResV (r : Option (List Int)) (w : AV) : Prop := match r with
  | none => w = .nils
  | some l => ∃ ex, w = .fsl ex l.length (ints l)
/-- A function value that answers a question about straps. -/
structure Clo (gV : AV) (g : List Int → Bool) (d : Nat) (last : Int) : Prop where
  closed : gV.closed = true
  one : gV.one = true
  says : ∀ {w : AV} {l : List Int}, IsInts w l → StrapOk l → top l ≤ last → ∀ m, callA (fun g => (ann g).pure) (denC prog ann) 0 m gV [w] = some (.bool (g l), ⟨m.h, m.nx + d⟩)
end Go.Proofs.YtofceaeboboflaaDoor
