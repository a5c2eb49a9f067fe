/-
  LISTS AND MAPS THAT GROW IN MEMORY, AND THE SEARCH LEVEL BY LEVEL. Conditions: none.
-/
import Derived.Test.YthnpflkpjimkfaaK00
import Derived.Test.YthnpflkpjimkfaaKAmH
set_option linter.all false
namespace Go.Proofs.Ythnpflkpjimkfaa
open Go.AM
open Go.Proofs.Try (prog)
set_option linter.all false
set_option maxRecDepth 100000
set_option maxHeartbeats 4000000

/-! ### A list of cells in memory, of which some at the front may be gone -/
def elP (v : AV) (sz i : Nat) : AV := match v with
  | .sl id es off n top => .ptr id (off + i * sz) top
  | _ => .undef
def tlV (v : AV) (sz : Nat) : AV := match v with
  | .sl id es off n top => .sl id es (off + sz) (n - 1) top
  | _ => .undef
structure Gl (m : Mem) (v : AV) (id sz n : Nat) (xs : List AV) : Prop where
  ex : ∃ pre : List AV, v = .sl id sz pre.length n (pre.length + xs.length) ∧ m.h id = some (.cells (pre ++ xs))
  n : xs.length = n * sz
  lt : id < m.nx
theorem Gl.frame {m m' : Mem} {v : AV} {id sz n : Nat} {xs : List AV} (h : Gl m v id sz n xs) (e : m'.h id = m.h id) (l : m.nx ≤ m'.nx) : Gl m' v id sz n xs := by
  obtain ⟨⟨pre, hv, hm⟩, hn, hl⟩ := h
  exact ⟨⟨pre, hv, by rw [e, hm]⟩, hn, by omega⟩
theorem Gl.fr {m m' : Mem} {v : AV} {id sz n : Nat} {xs : List AV} (h : Gl m v id sz n xs) (e : m'.h id = m.h id) (l : id < m'.nx) : Gl m' v id sz n xs := by
  obtain ⟨⟨pre, hv, hm⟩, hn, hl⟩ := h
  exact ⟨⟨pre, hv, by rw [e, hm]⟩, hn, l⟩
theorem Gl.one {m : Mem} {v : AV} {id sz n : Nat} {xs : List AV} (h : Gl m v id sz n xs) : v.one = true := by
  obtain ⟨⟨pre, rfl, hm⟩, hn, hl⟩ := h; rfl
theorem Gl.cells {m : Mem} {v : AV} {id sz n : Nat} {xs : List AV} (h : Gl m v id sz n xs) : v.cells = [v] := by
  obtain ⟨⟨pre, rfl, hm⟩, hn, hl⟩ := h; rfl
theorem Gl.len {m : Mem} {v : AV} {id sz n : Nat} {xs : List AV} (h : Gl m v id sz n xs) : lenSl v = some (.int .i64 n) := by
  obtain ⟨⟨pre, rfl, hm⟩, hn, hl⟩ := h; rfl
theorem Gl.idx {m : Mem} {v : AV} {id sz n : Nat} {xs : List AV} (h : Gl m v id sz n xs) {i : Nat} (hi : i < n) (k : IntKind) : idxSl sz v (.int k (i : Int)) = some (elP v sz i) := by
  obtain ⟨⟨pre, rfl, hm⟩, hn, hl⟩ := h
  simp [hi, elP]
theorem Gl.idx0 {m : Mem} {v : AV} {id sz n : Nat} {xs : List AV} (h : Gl m v id sz n xs) (hi : 0 < n) (k : IntKind) : idxSl sz v (.int k 0) = some (elP v sz 0) := h.idx hi k
theorem Gl.load {m : Mem} {v : AV} {id sz n : Nat} {xs : List AV} (h : Gl m v id sz n xs) {i : Nat} (hi : i < n) : loadA true sz m (elP v sz i) = some (.agg ((xs.drop (i * sz)).take sz)) := by
  obtain ⟨⟨pre, rfl, hm⟩, hn, hl⟩ := h
  have : pre.length + i * sz + sz ≤ pre.length + xs.length := by
    rw [hn]
    have := Nat.mul_le_mul_right sz (show i + 1 ≤ n from hi)
    rw [Nat.succ_mul] at this
    omega
  have e : (pre ++ xs).drop (pre.length + i * sz) = xs.drop (i * sz) := by rw [List.drop_append, List.drop_of_length_le (by omega)]; simp
  simp only [elP, loadA_ptr, hm, loadO_cells, e, cond_true]
  simp [this]
theorem Gl.load1 {m : Mem} {v : AV} {id n : Nat} {xs : List AV} (h : Gl m v id 1 n xs) {i : Nat} (hi : i < n) : loadA false 1 m (elP v 1 i) = xs[i]? := by
  obtain ⟨⟨pre, rfl, hm⟩, hn, hl⟩ := h
  simp [elP, hm, List.getElem?_append_right]
theorem Gl.cut {m : Mem} {v : AV} {id sz n : Nat} {xs : List AV} (h : Gl m v id sz n xs) (hi : 0 < n) : sliceSl sz v (some (.int .i64 1)) none = some (tlV v sz) := by
  obtain ⟨⟨pre, rfl, hm⟩, hn, hl⟩ := h
  have : (1 : Int) ≤ n := by omega
  simp [sliceSl, tlV, bnds, bnd, this]
theorem Gl.tail {m : Mem} {v : AV} {id sz n : Nat} {xs : List AV} (h : Gl m v id sz n xs) (hi : 0 < n) : Gl m (tlV v sz) id sz (n - 1) (xs.drop sz) := by
  obtain ⟨⟨pre, rfl, hm⟩, hn, hl⟩ := h
  have hs : sz ≤ xs.length := by
    rw [hn]; exact Nat.le_mul_of_pos_left _ hi
  refine ⟨⟨pre ++ xs.take sz, ?_, ?_⟩, ?_, hl⟩
  · simp [tlV]; omega
  · rw [hm]; simp
  · simp [hn, Nat.sub_mul]
theorem Gl.app {m : Mem} {v : AV} {id sz n by' : Nat} {xs ys : List AV} (h : Gl m v id sz n xs) (hy : ys.length = sz) (hr : room (n + 1) by' = true) :
    ∃ v' m' id', appT sz by' m v (some (1, ys)) = some (v', m') ∧ Gl m' v' id' sz (n + 1) (xs ++ ys) ∧ m.nx ≤ m'.nx ∧ (id' = id ∨ id' = m.nx) ∧ ∀ j, j < m.nx → j ≠ id → m'.h j = m.h j := by
  obtain ⟨⟨pre, rfl, hm⟩, hn, hl⟩ := h
  rw [appT_sl, hm, appO_eq]
  by_cases e : pre.length = 0
  · have : pre = [] := List.length_eq_zero_iff.1 e
    subst this
    refine ⟨.sl id sz 0 (n + 1) (xs ++ ys).length, m.set id (some (.cells (xs ++ ys))), id, ?_, ⟨⟨[], by simp, by simp [Mem.set]⟩, by simp [hn, hy, Nat.succ_mul], hl⟩, Nat.le_refl _, .inl rfl, fun j hj hne => updNe hne⟩
    simp at hr
    simp [hn, hr.1, hr.2]
  · refine ⟨.sl m.nx sz 0 (n + 1) (xs ++ ys).length, (m.set id none).new (.cells (xs ++ ys)), m.nx, ?_, ⟨⟨[], by simp, by simp [Mem.new, Mem.set]⟩, by simp [hn, hy, Nat.succ_mul], by simp [Mem.new, Mem.set]⟩, by simp [Mem.new, Mem.set], .inr rfl, fun j hj hne => ?_⟩
    · simp at hr
      have : (pre.length == 0) = false := by simpa using e
      simp [hn, hr.1, hr.2, this]
    · simp only [Mem.new, Mem.set]
      rw [updNe (by omega), updNe hne]

/-! ### Maps -/
def Mp (m : Mem) (id : Nat) (ks vs : List AV) : Prop := (∃ g, m.h id = some (.map g ks vs)) ∧ id < m.nx
theorem Mp.frame {m m' : Mem} {id : Nat} {ks vs : List AV} (h : Mp m id ks vs) (e : m'.h id = m.h id) (l : m.nx ≤ m'.nx) : Mp m' id ks vs := by
  obtain ⟨⟨g, hg⟩, hl⟩ := h
  exact ⟨⟨g, by rw [e, hg]⟩, by omega⟩
theorem Mp.fr {m m' : Mem} {id : Nat} {ks vs : List AV} (h : Mp m id ks vs) (e : m'.h id = m.h id) (l : id < m'.nx) : Mp m' id ks vs := by
  obtain ⟨⟨g, hg⟩, hl⟩ := h
  exact ⟨⟨g, by rw [e, hg]⟩, l⟩
/-- Keys of a type, as values. -/
structure Keys (t : TypeId) {α : Type} [DecidableEq α] (enc : α → AV) (ok : α → Prop) : Prop where
  eq : ∀ a b, ok a → ok b → keyEq prog t (enc a) (enc b) = some (decide (a = b))
  key : ∀ a, ok a → keyT prog t (enc a) = true
section
variable {t : TypeId} {α β : Type} [DecidableEq α] {enc : α → AV} {ok : α → Prop} {ev : β → AV}
/-- What stands beside a key. -/
def lkP : List α → List β → α → Option β
  | k :: ks, v :: vs, c => if c = k then some v else lkP ks vs c
  | _, _, _ => none
theorem lkP_none : ∀ {ks : List α} {vs : List β} {c : α}, c ∉ ks → lkP ks vs c = none
  | [], _, _, _ => by simp [lkP]
  | k :: ks, [], _, _ => rfl
  | k :: ks, v :: vs, c, h => by
    simp only [List.mem_cons, not_or] at h
    rw [lkP, if_neg h.1, lkP_none h.2]
theorem lkP_at : ∀ {ks : List α} {vs : List β} {i : Nat} {c : α} {w : β}, ks.Nodup → ks[i]? = some c → vs[i]? = some w → lkP ks vs c = some w
  | [], _, _, _, _, _, h, _ => by simp at h
  | _ :: _, [], _, _, _, _, _, h => by simp at h
  | k :: ks, v :: vs, 0, c, w, _, h1, h2 => by
    simp at h1 h2
    rw [lkP, if_pos h1.symm, h2]
  | k :: ks, v :: vs, i + 1, c, w, hn, h1, h2 => by
    simp at h1 h2
    rw [List.nodup_cons] at hn
    have : c ≠ k := fun e => hn.1 (e ▸ List.mem_of_getElem? h1)
    rw [lkP, if_neg this]
    exact lkP_at hn.2 h1 h2
theorem lkP_tt : ∀ {ks : List α} {c : α}, lkP ks (ks.map fun _ => true) c = if c ∈ ks then some true else none
  | [], _ => by simp [lkP]
  | k :: ks, c => by
    by_cases h : c = k
    · simp [lkP, h]
    · simp only [List.map_cons, lkP, if_neg h, lkP_tt, List.mem_cons]
      simp [h]
theorem findK_of (hk : Keys t enc ok) : ∀ {ks : List α} {vs : List β} {c : α}, (∀ a ∈ ks, ok a) → ok c → ks.length = vs.length → findK prog t (enc c) (ks.map enc) (vs.map ev) = some ((lkP ks vs c).map ev)
  | [], [], c, _, _, _ => rfl
  | [], _ :: _, _, _, _, h => by simp at h
  | _ :: _, [], _, _, _, h => by simp at h
  | k :: ks, v :: vs, c, h, hc, hl => by
    have ih := findK_of hk (ks := ks) (vs := vs) (c := c) (fun a ha => h a (by simp [ha])) hc (by simpa using hl)
    simp only [List.map_cons, findK, hk.eq c k hc (h k (by simp)), Option.bind_some]
    by_cases q : c = k
    · simp [q, lkP]
    · simp [q, lkP, ih]
theorem setK_of (hk : Keys t enc ok) {v : AV} : ∀ {ks : List α} {vs : List AV} {c : α}, (∀ a ∈ ks, ok a) → ok c → ks.length = vs.length → c ∉ ks → setK prog t (enc c) v (ks.map enc) vs = some ((ks ++ [c]).map enc, vs ++ [v])
  | [], [], c, _, _, _, _ => rfl
  | [], _ :: _, _, _, _, h, _ => by simp at h
  | _ :: _, [], _, _, _, h, _ => by simp at h
  | k :: ks, w :: vs, c, h, hc, hl, hm => by
    simp only [List.mem_cons, not_or] at hm
    have ih := setK_of hk (v := v) (ks := ks) (vs := vs) (c := c) (fun a ha => h a (by simp [ha])) hc (by simpa using hl) hm.2
    simp only [List.map_cons, setK, hk.eq c k hc (h k (by simp)), Option.bind_some]
    simp [hm.1, ih]
theorem Mp.look (hk : Keys t enc ok) {m : Mem} {id : Nat} {ks : List α} {vs : List β} (h : Mp m id (ks.map enc) (vs.map ev)) (ha : ∀ a ∈ ks, ok a) (hl : ks.length = vs.length) {c : α} (hc : ok c) (z : AV) (b : Bool) :
    lookP prog m t z (.map id) (enc c) b = some (match lkP ks vs c with | some v => bif b then .tup [ev v, .bool true] else ev v | none => bif b then .tup [z, .bool false] else z) := by
  obtain ⟨⟨g, hg⟩, _⟩ := h
  simp only [lookP, hk.key c hc, cond_true, lookA, hg, findK_of hk ha hc hl, Option.bind_some]
  cases lkP ks vs c <;> rfl
theorem Mp.put (hk : Keys t enc ok) {m : Mem} {id : Nat} {ks : List α} {vs : List β} (h : Mp m id (ks.map enc) (vs.map ev)) (ha : ∀ a ∈ ks, ok a) (hl : ks.length = vs.length) {c : α} (hc : ok c) (hm : c ∉ ks) (v : β) :
    ∃ m', updM prog m t (.map id) (enc c) (ev v) = some (.tup [], m') ∧ Mp m' id ((ks ++ [c]).map enc) ((vs ++ [v]).map ev) ∧ m'.nx = m.nx ∧ ∀ j, j ≠ id → m'.h j = m.h j := by
  obtain ⟨⟨g, hg⟩, hlt⟩ := h
  refine ⟨m.set id (some (.map (g + 1) ((ks ++ [c]).map enc) ((vs ++ [v]).map ev))), ?_, ⟨⟨g + 1, by simp [Mem.set]⟩, hlt⟩, rfl, fun j hj => updNe hj⟩
  simp only [updM, updP, hk.key c hc, cond_true, hg, setK_of hk ha hc (vs := vs.map ev) (by simpa using hl) hm, Option.bind_some, Option.map_some]
  simp
end

/-! ### The search -/
section
variable {α β : Type} [DecidableEq α] (nxt : α → Nat → α) (ext : β → Nat → β)
def bIn (x : α) (w : β) : Nat → Nat → List α × List β → List α × List β
  | 0, _, s => s
  | j + 1, a, s => if nxt x a ∈ s.1 then bIn x w j (a + 1) s else bIn x w j (a + 1) (s.1 ++ [nxt x a], s.2 ++ [ext w a])
def bfs (stop : α → Bool) (k : Nat) : Nat → Nat → List α × List β → Option β
  | 0, _, _ => none
  | f + 1, i, s => match s.1[i]?, s.2[i]? with
    | some x, some w => if stop x = true then some w else bfs stop k f (i + 1) (bIn nxt ext x w k 0 s)
    | _, _ => none
structure BOk (ok : α → Prop) (ln : β → Nat) (s : List α × List β) : Prop where
  nd : s.1.Nodup
  all : ∀ x ∈ s.1, ok x
  len : s.1.length = s.2.length
  wl : ∀ w ∈ s.2, ln w ≤ s.2.length
theorem bok_add {ok : α → Prop} {ln : β → Nat} {s : List α × List β} (h : BOk ok ln s) {x : α} {w : β} (hx : ok x) (hn : x ∉ s.1) (hw : ln w ≤ s.2.length + 1) : BOk ok ln (s.1 ++ [x], s.2 ++ [w]) := by
  refine ⟨?_, ?_, by simp [h.len], ?_⟩
  · rw [List.nodup_append]
    refine ⟨h.nd, by simp, ?_⟩
    intro a ha b hb
    simp at hb
    subst hb
    exact fun e => hn (e ▸ ha)
  · intro y hy
    rcases List.mem_append.1 hy with hy | hy
    · exact h.all y hy
    · simp at hy; rw [hy]; exact hx
  · intro y hy
    rcases List.mem_append.1 hy with hy | hy
    · have := h.wl y hy; simp; omega
    · simp at hy; rw [hy]; simpa using hw
theorem bIn_pre (x : α) (w : β) : ∀ (j a : Nat) (s : List α × List β), ∃ p q, (bIn nxt ext x w j a s).1 = s.1 ++ p ∧ (bIn nxt ext x w j a s).2 = s.2 ++ q
  | 0, _, s => ⟨[], [], by simp [bIn], by simp [bIn]⟩
  | j + 1, a, s => by
    rw [bIn]
    split
    · exact bIn_pre x w j (a + 1) s
    · obtain ⟨p, q, h1, h2⟩ := bIn_pre x w j (a + 1) (s.1 ++ [nxt x a], s.2 ++ [ext w a])
      exact ⟨nxt x a :: p, ext w a :: q, by rw [h1]; simp, by rw [h2]; simp⟩
theorem bIn_ok {ok : α → Prop} {ln : β → Nat} {k : Nat} (hnx : ∀ x a, ok x → a < k → ok (nxt x a)) (hex : ∀ w a, ln (ext w a) ≤ ln w + 1) (x : α) (w : β) (hx : ok x) : ∀ (j a : Nat) (s : List α × List β), a + j ≤ k → BOk ok ln s → ln w ≤ s.2.length → BOk ok ln (bIn nxt ext x w j a s)
  | 0, _, s, _, h, _ => h
  | j + 1, a, s, ha, h, hw => by
    rw [bIn]
    split
    · exact bIn_ok hnx hex x w hx j (a + 1) s (by omega) h hw
    · rename_i hn
      exact bIn_ok hnx hex x w hx j (a + 1) _ (by omega) (bok_add h (hnx x a hx (by omega)) hn (by have := hex w a; omega)) (by simp; omega)
end
theorem nodup_sub {α : Type} [DecidableEq α] : ∀ {l L : List α}, l.Nodup → (∀ x ∈ l, x ∈ L) → l.length ≤ L.length
  | [], _, _, _ => by simp
  | a :: l, L, hn, hs => by
    rw [List.nodup_cons] at hn
    have ha := hs a (by simp)
    have ih := nodup_sub (l := l) (L := L.erase a) hn.2 fun x hx => by
      have : x ≠ a := fun e => hn.1 (e ▸ hx)
      exact (List.mem_erase_of_ne this).2 (hs x (by simp [hx]))
    rw [List.length_erase_of_mem ha] at ih
    have : 0 < L.length := List.length_pos_of_mem ha
    simp; omega
end Go.Proofs.Ythnpflkpjimkfaa

/-
  BODIES OF FUNCTIONS OF THE PROGRAM AS SMALL OPERATIONS (written by gen.py; checked by the kernel against the program). Conditions: none.
-/
namespace Go.Proofs.Ythnpflkpjimkfaa
open Go.AM
open Go.Proofs.Try (prog)
set_option maxRecDepth 100000
set_option linter.all false

namespace l07_BrandDiffers
/-- pommel/pommellaw07.BrandDiffers -/
noncomputable def b : Code := (Try.f7.body).getD .skip
theorem hf : prog.funcs[7]? = some Try.f7 := by kernel_rfl
noncomputable def r0 : Code := findReg b 0
noncomputable def r1 : Code := findReg b 1
noncomputable def r2 : Code := findReg b 2
noncomputable def r3 : Code := findReg b 3
noncomputable def i0 : Code := findCond b 0
noncomputable def i0t : Code := thenOf i0
noncomputable def i0e : Code := elseOf i0
noncomputable def r4 : Code := findReg b 4
noncomputable def r5 : Code := findReg b 5
noncomputable def r6 : Code := findReg b 6
theorem b_eq (K : List Item) (s : St) : den prog ann 7 (.code b :: K) s = den prog ann 7 (.code r0 :: .code r1 :: .code r2 :: .code r3 :: .code i0 :: .code r5 :: .code r6 :: .code .ret :: K) s := den_flat hf (l := [r0, r1, r2, r3, i0, r5, r6, .ret]) (by kernel_rfl) K s
theorem r0_eq (K : List Item) (s : St) : den prog ann 7 (.code r0 :: K) s = mreg prog ann 7 none [] none [] [
    ⟨some 2, none, .v fun s => frozenPtr (s.get 0)⟩,
    ⟨some 3, none, .v fun s => frozenPtr (s.get 1)⟩,
    ⟨some 4, none, .v fun s => some (.bool false)⟩] K s := (den_reg hf _ K s).trans (by kernel_rfl)
theorem r1_draw : drawOk (fun g => (ann g).pure) (modeOf (ann 7) (idOf r1)) (frzOf (ann 7) (idOf r1)) (opsOf r1) = true := drawOk_of (an := [0, 1, 0, 7, 0, 0, 63, 127]) (by kernel_rfl) (by kernel_rfl)
theorem r1_eq (K : List Item) (s : St) : den prog ann 7 (.code r1 :: K) s = mreg prog ann 7 none [] (some 8) [5, 6] [
    ⟨some 11, none, .v fun s => loadF true 2 (s.get 2)⟩,
    ⟨some 12, none, .c 0 (fun s => (.fn 17 [] [])) fun s => [(s.get 11)]⟩,
    ⟨some 13, none, .v fun s => loadF true 2 (s.get 3)⟩,
    ⟨some 14, none, .c 0 (fun s => (.fn 17 [] [])) fun s => [(s.get 13)]⟩,
    ⟨some 5, none, .w false (some 4) fun s => newPtr s.m [.nils, .nils]⟩,
    ⟨some 6, none, .w false (some 5) fun s => newPtr s.m [.nils, .nils]⟩,
    ⟨none, none, .w false (some 6) fun s => stA true 2 s.m (s.get 5) (s.get 12)⟩,
    ⟨none, none, .w false (some 7) fun s => stA true 2 s.m (s.get 6) (s.get 14)⟩] K s := (den_regD hf r1_draw K s).trans (by kernel_rfl)
theorem r2_eq (K : List Item) (s : St) : den prog ann 7 (.code r2 :: K) s = mreg prog ann 7 none [] none [] [
    ⟨some 16, none, .v fun s => loadF true 2 (s.get 5)⟩,
    ⟨some 17, none, .v fun s => loadF true 2 (s.get 6)⟩,
    ⟨some 18, none, .c 0 (fun s => (.fn 33 [] [])) fun s => [(s.get 16), (s.get 17)]⟩,
    ⟨some 15, none, .v fun s => some (s.get 18)⟩,
    ⟨some 19, none, .v fun s => extA (s.get 15) 0⟩,
    ⟨some 20, none, .v fun s => extA (s.get 15) 1⟩,
    ⟨some 7, none, .v fun s => some (s.get 19)⟩,
    ⟨some 8, none, .v fun s => some (s.get 20)⟩] K s := (den_reg hf _ K s).trans (by kernel_rfl)
theorem r3_draw : drawOk (fun g => (ann g).pure) (modeOf (ann 7) (idOf r3)) (frzOf (ann 7) (idOf r3)) (opsOf r3) = true := drawOk_of (an := [0, 1, 3, 7, 15, 31, 63, 127, 255, 511, 1023, 2047, 4095, 8191, 511, 16895, 49663, 115199, 246271, 524287, 1048575]) (by kernel_rfl) (by kernel_rfl)
theorem r3_eq (K : List Item) (s : St) : den prog ann 7 (.code r3 :: K) s = mreg prog ann 7 none [] (some 21) [] [
    ⟨some 21, none, .v fun s => loadF true 2 (s.get 5)⟩,
    ⟨some 22, none, .c 0 (fun s => (.fn 19 [] [])) fun s => [(s.get 21)]⟩,
    ⟨some 23, none, .v fun s => unA .not (s.get 22)⟩,
    ⟨some 24, none, .v fun s => some (s.get 23)⟩,
    ⟨some 25, some (24, false), .v fun s => loadF true 2 (s.get 6)⟩,
    ⟨some 26, some (24, false), .c 0 (fun s => (.fn 19 [] [])) fun s => [(s.get 25)]⟩,
    ⟨some 27, some (24, false), .v fun s => unA .not (s.get 26)⟩,
    ⟨some 28, none, .v fun s => pickA (s.get 24) (.bool true) (s.get 27)⟩,
    ⟨some 29, none, .v fun s => some (s.get 28)⟩,
    ⟨some 30, some (29, false), .v fun s => fieldA 0 (s.get 5)⟩,
    ⟨some 31, some (29, false), .v fun s => loadF false 1 (s.get 30)⟩,
    ⟨some 32, some (29, false), .v fun s => idxSl 1 (s.get 31) (.int .i64 0)⟩,
    ⟨some 33, some (29, false), .v fun s => loadA false 1 s.m (s.get 32)⟩,
    ⟨some 34, some (29, false), .v fun s => lenSl (s.get 33)⟩,
    ⟨some 35, some (29, false), .v fun s => fieldA 0 (s.get 6)⟩,
    ⟨some 36, some (29, false), .v fun s => loadF false 1 (s.get 35)⟩,
    ⟨some 37, some (29, false), .v fun s => idxSl 1 (s.get 36) (.int .i64 0)⟩,
    ⟨some 38, some (29, false), .v fun s => loadA false 1 s.m (s.get 37)⟩,
    ⟨some 39, some (29, false), .v fun s => lenSl (s.get 38)⟩,
    ⟨some 40, some (29, false), .v fun s => binA prog .neq 3 (s.get 34) (s.get 39)⟩,
    ⟨some 41, none, .v fun s => pickA (s.get 29) (.bool true) (s.get 40)⟩] K s := (den_regD hf r3_draw K s).trans (by kernel_rfl)
theorem i0_eq (K : List Item) (s : St) : den prog ann 7 (.code i0 :: K) s = ifV prog ann 7 41 i0t i0e K s (s.get 41) := den_if hf (by kernel_rfl) K s
theorem i0t_eq (K : List Item) (s : St) : den prog ann 7 (.code i0t :: K) s = den prog ann 7 (.code r4 :: .code .ret :: K) s := den_flat hf (l := [r4, .ret]) (by kernel_rfl) K s
theorem r4_eq (K : List Item) (s : St) : den prog ann 7 (.code r4 :: K) s = mreg prog ann 7 none [] none [] [
    ⟨some 42, none, .v fun s => some (s.get 7)⟩,
    ⟨some 43, none, .v fun s => binA prog .eql 9 (s.get 42) (.str [])⟩,
    ⟨some 44, none, .v fun s => some (s.get 43)⟩,
    ⟨some 45, some (44, true), .v fun s => some (s.get 8)⟩,
    ⟨some 46, some (44, true), .v fun s => binA prog .eql 27 (s.get 45) (.int .i64 1)⟩,
    ⟨some 47, none, .v fun s => pickA (s.get 44) (s.get 46) (.bool false)⟩,
    ⟨some 48, none, .v fun s => some (s.get 47)⟩,
    ⟨some 49, some (48, true), .c 0 (fun s => (.fn 21 [] [])) fun s => []⟩,
    ⟨some 50, none, .v fun s => pickA (s.get 48) (s.get 49) (.bool false)⟩,
    ⟨some 4, none, .v fun s => some (s.get 50)⟩] K s := (den_reg hf _ K s).trans (by kernel_rfl)
theorem i0e_eq (K : List Item) (s : St) : den prog ann 7 (.code i0e :: K) s = den prog ann 7 (K) s := den_flat hf (l := []) (by kernel_rfl) K s
theorem r5_eq (K : List Item) (s : St) : den prog ann 7 (.code r5 :: K) s = mreg prog ann 7 none [] none [] [
    ⟨some 52, none, .v fun s => loadF true 2 (s.get 5)⟩,
    ⟨some 53, none, .v fun s => loadF true 2 (s.get 6)⟩,
    ⟨some 54, none, .c 0 (fun s => (.fn 34 [] [])) fun s => [(s.get 52), (s.get 53)]⟩,
    ⟨some 51, none, .v fun s => some (s.get 54)⟩,
    ⟨some 55, none, .v fun s => extA (s.get 51) 0⟩,
    ⟨some 56, none, .v fun s => extA (s.get 51) 1⟩,
    ⟨some 9, none, .v fun s => some (s.get 55)⟩,
    ⟨some 10, none, .v fun s => some (s.get 56)⟩] K s := (den_reg hf _ K s).trans (by kernel_rfl)
theorem r6_eq (K : List Item) (s : St) : den prog ann 7 (.code r6 :: K) s = mreg prog ann 7 none [] none [] [
    ⟨some 57, none, .v fun s => some (s.get 7)⟩,
    ⟨some 58, none, .v fun s => some (s.get 9)⟩,
    ⟨some 59, none, .v fun s => binA prog .eql 9 (s.get 57) (s.get 58)⟩,
    ⟨some 60, none, .v fun s => some (s.get 59)⟩,
    ⟨some 61, some (60, true), .v fun s => some (s.get 8)⟩,
    ⟨some 62, some (60, true), .v fun s => binA prog .eql 27 (s.get 61) (.int .i64 0)⟩,
    ⟨some 63, some (60, true), .v fun s => some (s.get 10)⟩,
    ⟨some 64, some (60, true), .v fun s => binA prog .eql 4 (s.get 62) (s.get 63)⟩,
    ⟨some 65, none, .v fun s => pickA (s.get 60) (s.get 64) (.bool false)⟩,
    ⟨some 66, none, .v fun s => some (s.get 65)⟩,
    ⟨some 67, some (66, true), .v fun s => some (s.get 10)⟩,
    ⟨some 68, some (66, true), .v fun s => some (s.get 67)⟩,
    ⟨some 69, some (68, false), .v fun s => some (s.get 8)⟩,
    ⟨some 70, some (68, false), .v fun s => binA prog .eql 27 (s.get 69) (.int .i64 5)⟩,
    ⟨some 71, some (66, true), .v fun s => pickA (s.get 68) (.bool true) (s.get 70)⟩,
    ⟨some 72, none, .v fun s => pickA (s.get 66) (s.get 71) (.bool false)⟩,
    ⟨some 73, none, .v fun s => some (s.get 72)⟩,
    ⟨some 74, some (73, true), .c 0 (fun s => (.fn 21 [] [])) fun s => []⟩,
    ⟨some 75, none, .v fun s => pickA (s.get 73) (s.get 74) (.bool false)⟩,
    ⟨some 4, none, .v fun s => some (s.get 75)⟩] K s := (den_reg hf _ K s).trans (by kernel_rfl)
theorem ret_eq (K : List Item) (s : St) : den prog ann 7 (.code .ret :: K) s = finM true [fun s => some (s.get 4)] s := (den_ret hf K s).trans (by kernel_rfl)
theorem nil_eq (s : St) : den prog ann 7 [] s = finM true [fun s => some (s.get 4)] s := (den_nil hf s).trans (by kernel_rfl)
theorem inBlock_eq (id : Nat) (K : List Item) (s : St) : den prog ann 7 (.inBlock id :: K) s = den prog ann 7 K s := den_inBlock hf id K s
theorem exit_eq (id : Nat) (K : List Item) (s : St) : den prog ann 7 (.code (.exit id) :: K) s = exitV prog ann 7 (exitTo id K) s := den_exitV hf id K s
theorem call_eq (v0 v1 : AV) (m : Mem) (h : closedL [v0, v1] = true) : denC prog ann 7 [v0, v1] m = (den prog ann 7 [.code b] ⟨[(0, v0), (1, v1)], 76, Mem.empty⟩).bind fun r => some (r.1, m) := (denC_pure hf (b := b) (by kernel_rfl) (by kernel_rfl) (by kernel_rfl) h m).trans (by kernel_rfl)
theorem pure_eq : (ann 7).pure = true := by kernel_rfl
attribute [simp] b_eq r0_eq r1_eq r2_eq r3_eq i0_eq i0t_eq r4_eq i0e_eq r5_eq r6_eq ret_eq nil_eq inBlock_eq exit_eq pure_eq
end l07_BrandDiffers

namespace brand_Differ
/-- pommel/brand.Differ -/
noncomputable def b : Code := (Try.f33.body).getD .skip
theorem hf : prog.funcs[33]? = some Try.f33 := by kernel_rfl
noncomputable def r0 : Code := findReg b 0
noncomputable def r1 : Code := findReg b 1
noncomputable def i0 : Code := findCond b 0
noncomputable def i0t : Code := thenOf i0
noncomputable def i0e : Code := elseOf i0
noncomputable def r2 : Code := findReg b 2
noncomputable def r3 : Code := findReg b 3
noncomputable def r4 : Code := findReg b 4
noncomputable def k0 : Code := findBlk b 0
noncomputable def l0 : Code := loopOf k0
noncomputable def L0 (x2 x3 x6 x7 : AV) (m : Mem) (K : List Item) : Option Res := den prog ann 33 (.code l0 :: .inLoop l0 :: .inBlock 0 :: K) ⟨[(2, x2), (3, x3), (6, x6), (7, x7)], 111, m⟩
noncomputable def r5 : Code := findReg b 5
noncomputable def i1 : Code := findCond b 1
noncomputable def i1t : Code := thenOf i1
noncomputable def i1e : Code := elseOf i1
noncomputable def k1 : Code := findBlk b 1
noncomputable def r7 : Code := findReg b 7
noncomputable def r8 : Code := findReg b 8
noncomputable def i2 : Code := findCond b 2
noncomputable def i2t : Code := thenOf i2
noncomputable def i2e : Code := elseOf i2
noncomputable def r9 : Code := findReg b 9
noncomputable def r10 : Code := findReg b 10
noncomputable def k2 : Code := findBlk b 2
noncomputable def l2 : Code := loopOf k2
noncomputable def L2 (x2 x3 x6 x7 x8 x67 x68 : AV) (m : Mem) (K : List Item) : Option Res := den prog ann 33 (.code l2 :: .inLoop l2 :: .inBlock 2 :: K) ⟨[(2, x2), (3, x3), (6, x6), (7, x7), (8, x8), (67, x67), (68, x68)], 111, m⟩
noncomputable def r11 : Code := findReg b 11
noncomputable def i3 : Code := findCond b 3
noncomputable def i3t : Code := thenOf i3
noncomputable def i3e : Code := elseOf i3
noncomputable def k3 : Code := findBlk b 3
noncomputable def r12 : Code := findReg b 12
noncomputable def r13 : Code := findReg b 13
noncomputable def r14 : Code := findReg b 14
noncomputable def r15 : Code := findReg b 15
noncomputable def i4 : Code := findCond b 4
noncomputable def i4t : Code := thenOf i4
noncomputable def i4e : Code := elseOf i4
noncomputable def r16 : Code := findReg b 16
noncomputable def r17 : Code := findReg b 17
noncomputable def r18 : Code := findReg b 18
noncomputable def r6 : Code := findReg b 6
noncomputable def r19 : Code := findReg b 19
theorem b_eq (K : List Item) (s : St) : den prog ann 33 (.code b :: K) s = den prog ann 33 (.code r0 :: .code r1 :: .code i0 :: .code r3 :: .code r4 :: .code k0 :: .code r19 :: .code .ret :: K) s := den_flat hf (l := [r0, r1, i0, r3, r4, k0, r19, .ret]) (by kernel_rfl) K s
theorem r0_eq (K : List Item) (s : St) : den prog ann 33 (.code r0 :: K) s = mreg prog ann 33 none [] none [] [
    ⟨some 2, none, .v fun s => frozenPtr (s.get 0)⟩,
    ⟨some 3, none, .v fun s => frozenPtr (s.get 1)⟩,
    ⟨some 4, none, .v fun s => some (.str [])⟩,
    ⟨some 5, none, .v fun s => some (.int .i64 0)⟩] K s := (den_reg hf _ K s).trans (by kernel_rfl)
theorem r1_draw : drawOk (fun g => (ann g).pure) (modeOf (ann 33) (idOf r1)) (frzOf (ann 33) (idOf r1)) (opsOf r1) = true := drawOk_of (an := [0, 1, 3, 7, 15, 31, 63, 127, 255, 511, 1023, 2047, 4095, 8191, 511, 16895, 49663, 115199, 246271, 524287, 1048575]) (by kernel_rfl) (by kernel_rfl)
theorem r1_eq (K : List Item) (s : St) : den prog ann 33 (.code r1 :: K) s = mreg prog ann 33 none [] (some 21) [] [
    ⟨some 13, none, .v fun s => loadF true 2 (s.get 2)⟩,
    ⟨some 14, none, .c 0 (fun s => (.fn 55 [] [])) fun s => [(s.get 13)]⟩,
    ⟨some 15, none, .v fun s => unA .not (s.get 14)⟩,
    ⟨some 16, none, .v fun s => some (s.get 15)⟩,
    ⟨some 17, some (16, false), .v fun s => loadF true 2 (s.get 3)⟩,
    ⟨some 18, some (16, false), .c 0 (fun s => (.fn 55 [] [])) fun s => [(s.get 17)]⟩,
    ⟨some 19, some (16, false), .v fun s => unA .not (s.get 18)⟩,
    ⟨some 20, none, .v fun s => pickA (s.get 16) (.bool true) (s.get 19)⟩,
    ⟨some 21, none, .v fun s => some (s.get 20)⟩,
    ⟨some 22, some (21, false), .v fun s => fieldA 0 (s.get 2)⟩,
    ⟨some 23, some (21, false), .v fun s => loadF false 1 (s.get 22)⟩,
    ⟨some 24, some (21, false), .v fun s => idxSl 1 (s.get 23) (.int .i64 0)⟩,
    ⟨some 25, some (21, false), .v fun s => loadF false 1 (s.get 24)⟩,
    ⟨some 26, some (21, false), .v fun s => lenSl (s.get 25)⟩,
    ⟨some 27, some (21, false), .v fun s => fieldA 0 (s.get 3)⟩,
    ⟨some 28, some (21, false), .v fun s => loadF false 1 (s.get 27)⟩,
    ⟨some 29, some (21, false), .v fun s => idxSl 1 (s.get 28) (.int .i64 0)⟩,
    ⟨some 30, some (21, false), .v fun s => loadF false 1 (s.get 29)⟩,
    ⟨some 31, some (21, false), .v fun s => lenSl (s.get 30)⟩,
    ⟨some 32, some (21, false), .v fun s => binA prog .neq 3 (s.get 26) (s.get 31)⟩,
    ⟨some 33, none, .v fun s => pickA (s.get 21) (.bool true) (s.get 32)⟩] K s := (den_regD hf r1_draw K s).trans (by kernel_rfl)
theorem i0_eq (K : List Item) (s : St) : den prog ann 33 (.code i0 :: K) s = ifV prog ann 33 33 i0t i0e K s (s.get 33) := den_if hf (by kernel_rfl) K s
theorem i0t_eq (K : List Item) (s : St) : den prog ann 33 (.code i0t :: K) s = den prog ann 33 (.code r2 :: .code .ret :: K) s := den_flat hf (l := [r2, .ret]) (by kernel_rfl) K s
theorem r2_eq (K : List Item) (s : St) : den prog ann 33 (.code r2 :: K) s = mreg prog ann 33 none [] none [] [
    ⟨some 4, none, .v fun s => some (.str [])⟩,
    ⟨some 5, none, .v fun s => some (.int .i64 1)⟩] K s := (den_reg hf _ K s).trans (by kernel_rfl)
theorem i0e_eq (K : List Item) (s : St) : den prog ann 33 (.code i0e :: K) s = den prog ann 33 (K) s := den_flat hf (l := []) (by kernel_rfl) K s
theorem r3_eq (K : List Item) (s : St) : den prog ann 33 (.code r3 :: K) s = mreg prog ann 33 none [] none [] [
    ⟨some 34, none, .w false none fun s => some (.map s.m.nx, s.m.new (.map 0 [] []))⟩,
    ⟨some 35, none, .v fun s => bldA (plc [(0, 1), (1, 1)]) [.int .i64 0, .int .i64 0] []⟩,
    ⟨none, none, .w false none fun s => updM prog s.m 114 (s.get 34) (s.get 35) (.str [])⟩,
    ⟨some 36, none, .v fun s => some (s.get 34)⟩,
    ⟨some 6, none, .v fun s => some (s.get 36)⟩] K s := (den_reg hf _ K s).trans (by kernel_rfl)
theorem r4_eq (K : List Item) (s : St) : den prog ann 33 (.code r4 :: K) s = mreg prog ann 33 none [] none [] [
    ⟨some 37, none, .v fun s => bldA (plc [(0, 1), (1, 1)]) [.int .i64 0, .int .i64 0] []⟩,
    ⟨some 38, none, .w false none fun s => bslM s.m 1 (bslA 2 1 [.int .i64 0, .int .i64 0] [(0, (s.get 37))])⟩,
    ⟨some 7, none, .v fun s => some (s.get 38)⟩] K s := (den_reg hf _ K s).trans (by kernel_rfl)
theorem k0_eq (K : List Item) (t : List (Nat × AV)) (m : Mem) : den prog ann 33 (.code k0 :: K) ⟨t, 111, m⟩ = L0 (get t 2) (get t 3) (get t 6) (get t 7) m K := den_loop_enter hf (b := l0) (id := 5) (l := [2, 3, 6, 7]) (by kernel_rfl) (by kernel_rfl) (by kernel_rfl) K _
theorem l0_eq (K : List Item) (t : List (Nat × AV)) (m : Mem) : den prog ann 33 (.inLoop l0 :: .inBlock 0 :: K) ⟨t, 111, m⟩ = L0 (get t 2) (get t 3) (get t 6) (get t 7) m K := den_loop_again hf (id := 5) (l := [2, 3, 6, 7]) (by kernel_rfl) (by kernel_rfl) (.inBlock 0 :: K) _
theorem L0_eq (x2 x3 x6 x7 : AV) (m : Mem) (K : List Item) : L0 x2 x3 x6 x7 m K = den prog ann 33 (.code r5 :: .code i1 :: .code k1 :: .code r6 :: .inLoop l0 :: .inBlock 0 :: K) ⟨[(2, x2), (3, x3), (6, x6), (7, x7)], 111, m⟩ := den_flat hf (l := [r5, i1, k1, r6]) (by kernel_rfl) _ _
theorem r5_eq (K : List Item) (s : St) : den prog ann 33 (.code r5 :: K) s = mreg prog ann 33 (some [2, 3, 6, 7]) [] none [] [
    ⟨some 39, none, .v fun s => some (s.get 7)⟩,
    ⟨some 40, none, .v fun s => lenSl (s.get 39)⟩,
    ⟨some 41, none, .v fun s => binA prog .gtr 3 (s.get 40) (.int .i64 0)⟩] K s := (den_reg hf _ K s).trans (by kernel_rfl)
theorem i1_eq (K : List Item) (s : St) : den prog ann 33 (.code i1 :: K) s = ifV prog ann 33 41 i1t i1e K s (s.get 41) := den_if hf (by kernel_rfl) K s
theorem i1t_eq (K : List Item) (s : St) : den prog ann 33 (.code i1t :: K) s = den prog ann 33 (K) s := den_flat hf (l := []) (by kernel_rfl) K s
theorem i1e_eq (K : List Item) (s : St) : den prog ann 33 (.code i1e :: K) s = den prog ann 33 (.code (.exit 0) :: K) s := den_flat hf (l := [(.exit 0)]) (by kernel_rfl) K s
theorem k1_eq (K : List Item) (s : St) : den prog ann 33 (.code k1 :: K) s = den prog ann 33 (.code r7 :: .code r8 :: .code i2 :: .code r10 :: .code k2 :: .inBlock 1 :: K) s := den_blk hf (b := blkOf k1) (l := [r7, r8, i2, r10, k2]) (by kernel_rfl) (by kernel_rfl) K s
theorem r7_eq (K : List Item) (s : St) : den prog ann 33 (.code r7 :: K) s = mreg prog ann 33 none [] none [8] [
    ⟨some 44, none, .v fun s => some (s.get 7)⟩,
    ⟨some 45, none, .v fun s => idxSl 2 (s.get 44) (.int .i64 0)⟩,
    ⟨some 46, none, .v fun s => loadA true 2 s.m (s.get 45)⟩,
    ⟨some 8, none, .w false none fun s => newPtr s.m [.int .i64 0, .int .i64 0]⟩,
    ⟨none, none, .w false none fun s => stA true 2 s.m (s.get 8) (s.get 46)⟩] K s := (den_reg hf _ K s).trans (by kernel_rfl)
theorem r8_draw : drawOk (fun g => (ann g).pure) (modeOf (ann 33) (idOf r8)) (frzOf (ann 33) (idOf r8)) (opsOf r8) = true := drawOk_of (an := [0, 1, 0, 4, 15, 31, 0, 64, 0, 256, 960, 1984, 4095]) (by kernel_rfl) (by kernel_rfl)
theorem r8_eq (K : List Item) (s : St) : den prog ann 33 (.code r8 :: K) s = mreg prog ann 33 none [] (some 13) [] [
    ⟨some 47, none, .v fun s => fieldA 1 (s.get 2)⟩,
    ⟨some 48, none, .v fun s => loadF false 1 (s.get 47)⟩,
    ⟨some 49, none, .v fun s => fieldA 0 (s.get 8)⟩,
    ⟨some 50, none, .v fun s => loadF false 1 (s.get 49)⟩,
    ⟨some 51, none, .v fun s => idxSl 1 (s.get 48) (s.get 50)⟩,
    ⟨some 52, none, .v fun s => loadF false 1 (s.get 51)⟩,
    ⟨some 53, none, .v fun s => fieldA 1 (s.get 3)⟩,
    ⟨some 54, none, .v fun s => loadF false 1 (s.get 53)⟩,
    ⟨some 55, none, .v fun s => fieldA 1 (s.get 8)⟩,
    ⟨some 56, none, .v fun s => loadF false 1 (s.get 55)⟩,
    ⟨some 57, none, .v fun s => idxSl 1 (s.get 54) (s.get 56)⟩,
    ⟨some 58, none, .v fun s => loadF false 1 (s.get 57)⟩,
    ⟨some 59, none, .v fun s => binA prog .neq 4 (s.get 52) (s.get 58)⟩] K s := (den_regD hf r8_draw K s).trans (by kernel_rfl)
theorem i2_eq (K : List Item) (s : St) : den prog ann 33 (.code i2 :: K) s = ifV prog ann 33 59 i2t i2e K s (s.get 59) := den_if hf (by kernel_rfl) K s
theorem i2t_eq (K : List Item) (s : St) : den prog ann 33 (.code i2t :: K) s = den prog ann 33 (.code r9 :: .code .ret :: K) s := den_flat hf (l := [r9, .ret]) (by kernel_rfl) K s
theorem r9_eq (K : List Item) (s : St) : den prog ann 33 (.code r9 :: K) s = mreg prog ann 33 none [] none [] [
    ⟨some 60, none, .v fun s => some (s.get 6)⟩,
    ⟨some 61, none, .v fun s => loadF true 2 (s.get 8)⟩,
    ⟨some 62, none, .v fun s => lookP prog s.m 114 (.str []) (s.get 60) (s.get 61) false⟩,
    ⟨some 4, none, .v fun s => some (s.get 62)⟩,
    ⟨some 5, none, .v fun s => some (.int .i64 0)⟩] K s := (den_reg hf _ K s).trans (by kernel_rfl)
theorem i2e_eq (K : List Item) (s : St) : den prog ann 33 (.code i2e :: K) s = den prog ann 33 (K) s := den_flat hf (l := []) (by kernel_rfl) K s
theorem r10_eq (K : List Item) (s : St) : den prog ann 33 (.code r10 :: K) s = mreg prog ann 33 none [] none [] [
    ⟨some 63, none, .v fun s => fieldA 0 (s.get 2)⟩,
    ⟨some 64, none, .v fun s => loadF false 1 (s.get 63)⟩,
    ⟨some 65, none, .v fun s => idxSl 1 (s.get 64) (.int .i64 0)⟩,
    ⟨some 66, none, .v fun s => loadF false 1 (s.get 65)⟩,
    ⟨some 67, none, .v fun s => lenSl (s.get 66)⟩,
    ⟨some 68, none, .v fun s => some (.int .i64 0)⟩] K s := (den_reg hf _ K s).trans (by kernel_rfl)
theorem k2_eq (K : List Item) (t : List (Nat × AV)) (m : Mem) : den prog ann 33 (.code k2 :: K) ⟨t, 111, m⟩ = L2 (get t 2) (get t 3) (get t 6) (get t 7) (get t 8) (get t 67) (get t 68) m K := den_loop_enter hf (b := l2) (id := 11) (l := [2, 3, 6, 7, 8, 67, 68]) (by kernel_rfl) (by kernel_rfl) (by kernel_rfl) K _
theorem l2_eq (K : List Item) (t : List (Nat × AV)) (m : Mem) : den prog ann 33 (.inLoop l2 :: .inBlock 2 :: K) ⟨t, 111, m⟩ = L2 (get t 2) (get t 3) (get t 6) (get t 7) (get t 8) (get t 67) (get t 68) m K := den_loop_again hf (id := 11) (l := [2, 3, 6, 7, 8, 67, 68]) (by kernel_rfl) (by kernel_rfl) (.inBlock 2 :: K) _
theorem L2_eq (x2 x3 x6 x7 x8 x67 x68 : AV) (m : Mem) (K : List Item) : L2 x2 x3 x6 x7 x8 x67 x68 m K = den prog ann 33 (.code r11 :: .code i3 :: .code k3 :: .code r18 :: .inLoop l2 :: .inBlock 2 :: K) ⟨[(2, x2), (3, x3), (6, x6), (7, x7), (8, x8), (67, x67), (68, x68)], 111, m⟩ := den_flat hf (l := [r11, i3, k3, r18]) (by kernel_rfl) _ _
theorem r11_eq (K : List Item) (s : St) : den prog ann 33 (.code r11 :: K) s = mreg prog ann 33 (some [2, 3, 6, 7, 8, 67, 68]) [] none [] [
    ⟨some 69, none, .v fun s => binA prog .lss 3 (s.get 68) (s.get 67)⟩] K s := (den_reg hf _ K s).trans (by kernel_rfl)
theorem i3_eq (K : List Item) (s : St) : den prog ann 33 (.code i3 :: K) s = ifV prog ann 33 69 i3t i3e K s (s.get 69) := den_if hf (by kernel_rfl) K s
theorem i3t_eq (K : List Item) (s : St) : den prog ann 33 (.code i3t :: K) s = den prog ann 33 (K) s := den_flat hf (l := []) (by kernel_rfl) K s
theorem i3e_eq (K : List Item) (s : St) : den prog ann 33 (.code i3e :: K) s = den prog ann 33 (.code (.exit 2) :: K) s := den_flat hf (l := [(.exit 2)]) (by kernel_rfl) K s
theorem k3_eq (K : List Item) (s : St) : den prog ann 33 (.code k3 :: K) s = den prog ann 33 (.code r12 :: .code r13 :: .code r14 :: .code r15 :: .code i4 :: .inBlock 3 :: K) s := den_blk hf (b := blkOf k3) (l := [r12, r13, r14, r15, i4]) (by kernel_rfl) (by kernel_rfl) K s
theorem r12_eq (K : List Item) (s : St) : den prog ann 33 (.code r12 :: K) s = mreg prog ann 33 none [] none [] [
    ⟨some 70, none, .v fun s => some (s.get 68)⟩,
    ⟨some 9, none, .v fun s => some (s.get 70)⟩] K s := (den_reg hf _ K s).trans (by kernel_rfl)
theorem r13_draw : drawOk (fun g => (ann g).pure) (modeOf (ann 33) (idOf r13)) (frzOf (ann 33) (idOf r13)) (opsOf r13) = true := drawOk_of (an := [0, 1, 0, 4, 15, 31, 0, 127, 255, 0, 512, 0, 2048, 7680, 15872, 0, 65024, 130560, 262143, 0, 1048575]) (by kernel_rfl) (by kernel_rfl)
theorem r13_eq (K : List Item) (s : St) : den prog ann 33 (.code r13 :: K) s = mreg prog ann 33 none [] (some 21) [10] [
    ⟨some 71, none, .v fun s => fieldA 0 (s.get 2)⟩,
    ⟨some 72, none, .v fun s => loadF false 1 (s.get 71)⟩,
    ⟨some 73, none, .v fun s => fieldA 0 (s.get 8)⟩,
    ⟨some 74, none, .v fun s => loadF false 1 (s.get 73)⟩,
    ⟨some 75, none, .v fun s => idxSl 1 (s.get 72) (s.get 74)⟩,
    ⟨some 76, none, .v fun s => loadF false 1 (s.get 75)⟩,
    ⟨some 77, none, .v fun s => some (s.get 9)⟩,
    ⟨some 78, none, .v fun s => idxSl 1 (s.get 76) (s.get 77)⟩,
    ⟨some 79, none, .v fun s => loadF false 1 (s.get 78)⟩,
    ⟨some 80, none, .v fun s => fieldA 0 (s.get 3)⟩,
    ⟨some 81, none, .v fun s => loadF false 1 (s.get 80)⟩,
    ⟨some 82, none, .v fun s => fieldA 1 (s.get 8)⟩,
    ⟨some 83, none, .v fun s => loadF false 1 (s.get 82)⟩,
    ⟨some 84, none, .v fun s => idxSl 1 (s.get 81) (s.get 83)⟩,
    ⟨some 85, none, .v fun s => loadF false 1 (s.get 84)⟩,
    ⟨some 86, none, .v fun s => some (s.get 9)⟩,
    ⟨some 87, none, .v fun s => idxSl 1 (s.get 85) (s.get 86)⟩,
    ⟨some 88, none, .v fun s => loadF false 1 (s.get 87)⟩,
    ⟨some 89, none, .v fun s => bldA (plc [(0, 1), (1, 1)]) [.int .i64 0, .int .i64 0] [(0, (s.get 79)), (1, (s.get 88))]⟩,
    ⟨some 10, none, .w false (some 19) fun s => newPtr s.m [.int .i64 0, .int .i64 0]⟩,
    ⟨none, none, .w false (some 20) fun s => stA true 2 s.m (s.get 10) (s.get 89)⟩] K s := (den_regD hf r13_draw K s).trans (by kernel_rfl)
theorem r14_eq (K : List Item) (s : St) : den prog ann 33 (.code r14 :: K) s = mreg prog ann 33 none [] none [] [
    ⟨some 91, none, .v fun s => some (s.get 6)⟩,
    ⟨some 92, none, .v fun s => loadF true 2 (s.get 10)⟩,
    ⟨some 93, none, .v fun s => lookP prog s.m 114 (.str []) (s.get 91) (s.get 92) true⟩,
    ⟨some 90, none, .v fun s => some (s.get 93)⟩,
    ⟨some 94, none, .v fun s => extA (s.get 90) 0⟩,
    ⟨some 95, none, .v fun s => extA (s.get 90) 1⟩,
    ⟨some 11, none, .v fun s => some (s.get 94)⟩,
    ⟨some 12, none, .v fun s => some (s.get 95)⟩] K s := (den_reg hf _ K s).trans (by kernel_rfl)
theorem r15_eq (K : List Item) (s : St) : den prog ann 33 (.code r15 :: K) s = mreg prog ann 33 none [] none [] [
    ⟨some 96, none, .v fun s => some (s.get 12)⟩,
    ⟨some 97, none, .v fun s => unA .not (s.get 96)⟩] K s := (den_reg hf _ K s).trans (by kernel_rfl)
theorem i4_eq (K : List Item) (s : St) : den prog ann 33 (.code i4 :: K) s = ifV prog ann 33 97 i4t i4e K s (s.get 97) := den_if hf (by kernel_rfl) K s
theorem i4t_eq (K : List Item) (s : St) : den prog ann 33 (.code i4t :: K) s = den prog ann 33 (.code r16 :: .code r17 :: K) s := den_flat hf (l := [r16, r17]) (by kernel_rfl) K s
theorem r16_draw : drawOk (fun g => (ann g).pure) (modeOf (ann 33) (idOf r16)) (frzOf (ann 33) (idOf r16)) (opsOf r16) = true := drawOk_of (an := [0, 0, 0, 0, 12, 0, 32, 124, 255]) (by kernel_rfl) (by kernel_rfl)
theorem r16_eq (K : List Item) (s : St) : den prog ann 33 (.code r16 :: K) s = mreg prog ann 33 none [] (some 9) [] [
    ⟨some 98, none, .v fun s => some (s.get 6)⟩,
    ⟨some 99, none, .v fun s => loadF true 2 (s.get 10)⟩,
    ⟨some 100, none, .v fun s => some (s.get 6)⟩,
    ⟨some 101, none, .v fun s => loadF true 2 (s.get 8)⟩,
    ⟨some 102, none, .v fun s => lookP prog s.m 114 (.str []) (s.get 100) (s.get 101) false⟩,
    ⟨some 103, none, .v fun s => some (s.get 9)⟩,
    ⟨some 104, none, .c 0 (fun s => (.fn 59 [] [])) fun s => [(s.get 103)]⟩,
    ⟨some 105, none, .v fun s => binA prog .add 9 (s.get 102) (s.get 104)⟩,
    ⟨none, none, .w false (some 8) fun s => updM prog s.m 114 (s.get 98) (s.get 99) (s.get 105)⟩] K s := (den_regD hf r16_draw K s).trans (by kernel_rfl)
theorem r17_eq (K : List Item) (s : St) : den prog ann 33 (.code r17 :: K) s = mreg prog ann 33 none [] none [] [
    ⟨some 106, none, .v fun s => some (s.get 7)⟩,
    ⟨some 107, none, .v fun s => loadF true 2 (s.get 10)⟩,
    ⟨some 108, none, .v fun s => bslF 1 (bslA 2 1 [.int .i64 0, .int .i64 0] [(0, (s.get 107))])⟩,
    ⟨some 109, none, .w false none fun s => appendA 2 16 s.m (s.get 106) (s.get 108)⟩,
    ⟨some 7, none, .v fun s => some (s.get 109)⟩] K s := (den_reg hf _ K s).trans (by kernel_rfl)
theorem i4e_eq (K : List Item) (s : St) : den prog ann 33 (.code i4e :: K) s = den prog ann 33 (K) s := den_flat hf (l := []) (by kernel_rfl) K s
theorem r18_eq (K : List Item) (s : St) : den prog ann 33 (.code r18 :: K) s = mreg prog ann 33 (some [2, 3, 6, 7, 8, 67, 68]) [] none [] [
    ⟨some 110, none, .v fun s => binA prog .add 3 (s.get 68) (.int .i64 1)⟩,
    ⟨some 68, none, .v fun s => some (s.get 110)⟩] K s := (den_reg hf _ K s).trans (by kernel_rfl)
theorem r6_eq (K : List Item) (s : St) : den prog ann 33 (.code r6 :: K) s = mreg prog ann 33 (some [2, 3, 6, 7]) [] none [] [
    ⟨some 42, none, .v fun s => some (s.get 7)⟩,
    ⟨some 43, none, .v fun s => sliceSl 2 (s.get 42) (some (.int .i64 1)) none⟩,
    ⟨some 7, none, .v fun s => some (s.get 43)⟩] K s := (den_reg hf _ K s).trans (by kernel_rfl)
theorem r19_eq (K : List Item) (s : St) : den prog ann 33 (.code r19 :: K) s = mreg prog ann 33 (some []) [] none [] [
    ⟨some 4, none, .v fun s => some (.str [])⟩,
    ⟨some 5, none, .v fun s => some (.int .i64 5)⟩] K s := (den_reg hf _ K s).trans (by kernel_rfl)
theorem ret_eq (K : List Item) (s : St) : den prog ann 33 (.code .ret :: K) s = finM true [fun s => some (s.get 4), fun s => some (s.get 5)] s := (den_ret hf K s).trans (by kernel_rfl)
theorem nil_eq (s : St) : den prog ann 33 [] s = finM true [fun s => some (s.get 4), fun s => some (s.get 5)] s := (den_nil hf s).trans (by kernel_rfl)
theorem inBlock_eq (id : Nat) (K : List Item) (s : St) : den prog ann 33 (.inBlock id :: K) s = den prog ann 33 K s := den_inBlock hf id K s
theorem exit_eq (id : Nat) (K : List Item) (s : St) : den prog ann 33 (.code (.exit id) :: K) s = exitV prog ann 33 (exitTo id K) s := den_exitV hf id K s
theorem call_eq (v0 v1 : AV) (m : Mem) (h : closedL [v0, v1] = true) : denC prog ann 33 [v0, v1] m = (den prog ann 33 [.code b] ⟨[(0, v0), (1, v1)], 111, Mem.empty⟩).bind fun r => some (r.1, m) := (denC_pure hf (b := b) (by kernel_rfl) (by kernel_rfl) (by kernel_rfl) h m).trans (by kernel_rfl)
theorem pure_eq : (ann 33).pure = true := by kernel_rfl
attribute [simp] b_eq r0_eq r1_eq i0_eq i0t_eq r2_eq i0e_eq r3_eq r4_eq k0_eq l0_eq r5_eq i1_eq i1t_eq i1e_eq k1_eq r7_eq r8_eq i2_eq i2t_eq r9_eq i2e_eq r10_eq k2_eq l2_eq r11_eq i3_eq i3t_eq i3e_eq k3_eq r12_eq r13_eq r14_eq r15_eq i4_eq i4t_eq r16_eq r17_eq i4e_eq r18_eq r6_eq r19_eq ret_eq nil_eq inBlock_eq exit_eq pure_eq
end brand_Differ

namespace r07_Differ
/-- pommel/pommelref07.Differ -/
noncomputable def b : Code := (Try.f34.body).getD .skip
theorem hf : prog.funcs[34]? = some Try.f34 := by kernel_rfl
noncomputable def r0 : Code := findReg b 0
noncomputable def r1 : Code := findReg b 1
noncomputable def r2 : Code := findReg b 2
noncomputable def k0 : Code := findBlk b 0
noncomputable def l0 : Code := loopOf k0
noncomputable def L0 (x2 x3 x6 x7 x8 x9 : AV) (m : Mem) (K : List Item) : Option Res := den prog ann 34 (.code l0 :: .inLoop l0 :: .inBlock 0 :: K) ⟨[(2, x2), (3, x3), (6, x6), (7, x7), (8, x8), (9, x9)], 94, m⟩
noncomputable def r3 : Code := findReg b 3
noncomputable def i0 : Code := findCond b 0
noncomputable def i0t : Code := thenOf i0
noncomputable def i0e : Code := elseOf i0
noncomputable def k1 : Code := findBlk b 1
noncomputable def r5 : Code := findReg b 5
noncomputable def r6 : Code := findReg b 6
noncomputable def i1 : Code := findCond b 1
noncomputable def i1t : Code := thenOf i1
noncomputable def i1e : Code := elseOf i1
noncomputable def r7 : Code := findReg b 7
noncomputable def r8 : Code := findReg b 8
noncomputable def k2 : Code := findBlk b 2
noncomputable def l2 : Code := loopOf k2
noncomputable def L2 (x2 x3 x6 x7 x8 x9 x10 x11 : AV) (m : Mem) (K : List Item) : Option Res := den prog ann 34 (.code l2 :: .inLoop l2 :: .inBlock 2 :: K) ⟨[(2, x2), (3, x3), (6, x6), (7, x7), (8, x8), (9, x9), (10, x10), (11, x11)], 94, m⟩
noncomputable def r9 : Code := findReg b 9
noncomputable def i2 : Code := findCond b 2
noncomputable def i2t : Code := thenOf i2
noncomputable def i2e : Code := elseOf i2
noncomputable def k3 : Code := findBlk b 3
noncomputable def r11 : Code := findReg b 11
noncomputable def r12 : Code := findReg b 12
noncomputable def i3 : Code := findCond b 3
noncomputable def i3t : Code := thenOf i3
noncomputable def i3e : Code := elseOf i3
noncomputable def r13 : Code := findReg b 13
noncomputable def r14 : Code := findReg b 14
noncomputable def r10 : Code := findReg b 10
noncomputable def r4 : Code := findReg b 4
noncomputable def r15 : Code := findReg b 15
theorem b_eq (K : List Item) (s : St) : den prog ann 34 (.code b :: K) s = den prog ann 34 (.code r0 :: .code r1 :: .code r2 :: .code k0 :: .code r15 :: .code .ret :: K) s := den_flat hf (l := [r0, r1, r2, k0, r15, .ret]) (by kernel_rfl) K s
theorem r0_eq (K : List Item) (s : St) : den prog ann 34 (.code r0 :: K) s = mreg prog ann 34 none [] none [] [
    ⟨some 2, none, .v fun s => frozenPtr (s.get 0)⟩,
    ⟨some 3, none, .v fun s => frozenPtr (s.get 1)⟩,
    ⟨some 4, none, .v fun s => some (.str [])⟩,
    ⟨some 5, none, .v fun s => some (.bool false)⟩] K s := (den_reg hf _ K s).trans (by kernel_rfl)
theorem r1_draw : drawOk (fun g => (ann g).pure) (modeOf (ann 34) (idOf r1)) (frzOf (ann 34) (idOf r1)) (opsOf r1) = true := drawOk_of (an := [0, 1, 0, 0, 0, 24, 56, 3, 135, 511]) (by kernel_rfl) (by kernel_rfl)
theorem r1_eq (K : List Item) (s : St) : den prog ann 34 (.code r1 :: K) s = mreg prog ann 34 none [] (some 10) [] [
    ⟨some 13, none, .v fun s => bldA (plc [(0, 1), (1, 1)]) [.int .i64 0, .int .i64 0] [(0, (.int .i64 0)), (1, (.int .i64 0))]⟩,
    ⟨some 14, none, .w false (some 1) fun s => bslM s.m 1 (bslA 2 1 [.int .i64 0, .int .i64 0] [(0, (s.get 13))])⟩,
    ⟨some 15, none, .w false (some 2) fun s => bslM s.m 1 (bslA 1 1 [.str []] [(0, (.str []))])⟩,
    ⟨some 16, none, .w false (some 3) fun s => some (.map s.m.nx, s.m.new (.map 0 [] []))⟩,
    ⟨some 17, none, .v fun s => bldA (plc [(0, 1), (1, 1)]) [.int .i64 0, .int .i64 0] [(0, (.int .i64 0)), (1, (.int .i64 0))]⟩,
    ⟨none, none, .w false (some 5) fun s => updM prog s.m 118 (s.get 16) (s.get 17) (.bool true)⟩,
    ⟨some 18, none, .v fun s => some (s.get 16)⟩,
    ⟨some 6, none, .v fun s => some (s.get 14)⟩,
    ⟨some 7, none, .v fun s => some (s.get 15)⟩,
    ⟨some 8, none, .v fun s => some (s.get 18)⟩] K s := (den_regD hf r1_draw K s).trans (by kernel_rfl)
theorem r2_eq (K : List Item) (s : St) : den prog ann 34 (.code r2 :: K) s = mreg prog ann 34 none [] none [] [
    ⟨some 9, none, .v fun s => some (.int .i64 0)⟩] K s := (den_reg hf _ K s).trans (by kernel_rfl)
theorem k0_eq (K : List Item) (t : List (Nat × AV)) (m : Mem) : den prog ann 34 (.code k0 :: K) ⟨t, 94, m⟩ = L0 (get t 2) (get t 3) (get t 6) (get t 7) (get t 8) (get t 9) m K := den_loop_enter hf (b := l0) (id := 3) (l := [2, 3, 6, 7, 8, 9]) (by kernel_rfl) (by kernel_rfl) (by kernel_rfl) K _
theorem l0_eq (K : List Item) (t : List (Nat × AV)) (m : Mem) : den prog ann 34 (.inLoop l0 :: .inBlock 0 :: K) ⟨t, 94, m⟩ = L0 (get t 2) (get t 3) (get t 6) (get t 7) (get t 8) (get t 9) m K := den_loop_again hf (id := 3) (l := [2, 3, 6, 7, 8, 9]) (by kernel_rfl) (by kernel_rfl) (.inBlock 0 :: K) _
theorem L0_eq (x2 x3 x6 x7 x8 x9 : AV) (m : Mem) (K : List Item) : L0 x2 x3 x6 x7 x8 x9 m K = den prog ann 34 (.code r3 :: .code i0 :: .code k1 :: .code r4 :: .inLoop l0 :: .inBlock 0 :: K) ⟨[(2, x2), (3, x3), (6, x6), (7, x7), (8, x8), (9, x9)], 94, m⟩ := den_flat hf (l := [r3, i0, k1, r4]) (by kernel_rfl) _ _
theorem r3_eq (K : List Item) (s : St) : den prog ann 34 (.code r3 :: K) s = mreg prog ann 34 (some [2, 3, 6, 7, 8, 9]) [] none [] [
    ⟨some 19, none, .v fun s => some (s.get 9)⟩,
    ⟨some 20, none, .v fun s => some (s.get 6)⟩,
    ⟨some 21, none, .v fun s => lenSl (s.get 20)⟩,
    ⟨some 22, none, .v fun s => binA prog .lss 3 (s.get 19) (s.get 21)⟩] K s := (den_reg hf _ K s).trans (by kernel_rfl)
theorem i0_eq (K : List Item) (s : St) : den prog ann 34 (.code i0 :: K) s = ifV prog ann 34 22 i0t i0e K s (s.get 22) := den_if hf (by kernel_rfl) K s
theorem i0t_eq (K : List Item) (s : St) : den prog ann 34 (.code i0t :: K) s = den prog ann 34 (K) s := den_flat hf (l := []) (by kernel_rfl) K s
theorem i0e_eq (K : List Item) (s : St) : den prog ann 34 (.code i0e :: K) s = den prog ann 34 (.code (.exit 0) :: K) s := den_flat hf (l := [(.exit 0)]) (by kernel_rfl) K s
theorem k1_eq (K : List Item) (s : St) : den prog ann 34 (.code k1 :: K) s = den prog ann 34 (.code r5 :: .code r6 :: .code i1 :: .code r8 :: .code k2 :: .inBlock 1 :: K) s := den_blk hf (b := blkOf k1) (l := [r5, r6, i1, r8, k2]) (by kernel_rfl) (by kernel_rfl) K s
theorem r5_eq (K : List Item) (s : St) : den prog ann 34 (.code r5 :: K) s = mreg prog ann 34 none [] none [10] [
    ⟨some 25, none, .v fun s => some (s.get 6)⟩,
    ⟨some 26, none, .v fun s => some (s.get 9)⟩,
    ⟨some 27, none, .v fun s => idxSl 2 (s.get 25) (s.get 26)⟩,
    ⟨some 28, none, .v fun s => loadA true 2 s.m (s.get 27)⟩,
    ⟨some 10, none, .w false none fun s => newPtr s.m [.int .i64 0, .int .i64 0]⟩,
    ⟨none, none, .w false none fun s => stA true 2 s.m (s.get 10) (s.get 28)⟩] K s := (den_reg hf _ K s).trans (by kernel_rfl)
theorem r6_draw : drawOk (fun g => (ann g).pure) (modeOf (ann 34) (idOf r6)) (frzOf (ann 34) (idOf r6)) (opsOf r6) = true := drawOk_of (an := [0, 1, 0, 4, 15, 31, 0, 64, 0, 256, 960, 1984, 4095]) (by kernel_rfl) (by kernel_rfl)
theorem r6_eq (K : List Item) (s : St) : den prog ann 34 (.code r6 :: K) s = mreg prog ann 34 none [] (some 13) [] [
    ⟨some 29, none, .v fun s => fieldA 1 (s.get 2)⟩,
    ⟨some 30, none, .v fun s => loadF false 1 (s.get 29)⟩,
    ⟨some 31, none, .v fun s => fieldA 0 (s.get 10)⟩,
    ⟨some 32, none, .v fun s => loadF false 1 (s.get 31)⟩,
    ⟨some 33, none, .v fun s => idxSl 1 (s.get 30) (s.get 32)⟩,
    ⟨some 34, none, .v fun s => loadF false 1 (s.get 33)⟩,
    ⟨some 35, none, .v fun s => fieldA 1 (s.get 3)⟩,
    ⟨some 36, none, .v fun s => loadF false 1 (s.get 35)⟩,
    ⟨some 37, none, .v fun s => fieldA 1 (s.get 10)⟩,
    ⟨some 38, none, .v fun s => loadF false 1 (s.get 37)⟩,
    ⟨some 39, none, .v fun s => idxSl 1 (s.get 36) (s.get 38)⟩,
    ⟨some 40, none, .v fun s => loadF false 1 (s.get 39)⟩,
    ⟨some 41, none, .v fun s => binA prog .neq 4 (s.get 34) (s.get 40)⟩] K s := (den_regD hf r6_draw K s).trans (by kernel_rfl)
theorem i1_eq (K : List Item) (s : St) : den prog ann 34 (.code i1 :: K) s = ifV prog ann 34 41 i1t i1e K s (s.get 41) := den_if hf (by kernel_rfl) K s
theorem i1t_eq (K : List Item) (s : St) : den prog ann 34 (.code i1t :: K) s = den prog ann 34 (.code r7 :: .code .ret :: K) s := den_flat hf (l := [r7, .ret]) (by kernel_rfl) K s
theorem r7_eq (K : List Item) (s : St) : den prog ann 34 (.code r7 :: K) s = mreg prog ann 34 none [] none [] [
    ⟨some 42, none, .v fun s => some (s.get 7)⟩,
    ⟨some 43, none, .v fun s => some (s.get 9)⟩,
    ⟨some 44, none, .v fun s => idxSl 1 (s.get 42) (s.get 43)⟩,
    ⟨some 45, none, .v fun s => loadA false 1 s.m (s.get 44)⟩,
    ⟨some 4, none, .v fun s => some (s.get 45)⟩,
    ⟨some 5, none, .v fun s => some (.bool true)⟩] K s := (den_reg hf _ K s).trans (by kernel_rfl)
theorem i1e_eq (K : List Item) (s : St) : den prog ann 34 (.code i1e :: K) s = den prog ann 34 (K) s := den_flat hf (l := []) (by kernel_rfl) K s
theorem r8_eq (K : List Item) (s : St) : den prog ann 34 (.code r8 :: K) s = mreg prog ann 34 none [] none [] [
    ⟨some 11, none, .v fun s => some (.int .i64 0)⟩] K s := (den_reg hf _ K s).trans (by kernel_rfl)
theorem k2_eq (K : List Item) (t : List (Nat × AV)) (m : Mem) : den prog ann 34 (.code k2 :: K) ⟨t, 94, m⟩ = L2 (get t 2) (get t 3) (get t 6) (get t 7) (get t 8) (get t 9) (get t 10) (get t 11) m K := den_loop_enter hf (b := l2) (id := 9) (l := [2, 3, 6, 7, 8, 9, 10, 11]) (by kernel_rfl) (by kernel_rfl) (by kernel_rfl) K _
theorem l2_eq (K : List Item) (t : List (Nat × AV)) (m : Mem) : den prog ann 34 (.inLoop l2 :: .inBlock 2 :: K) ⟨t, 94, m⟩ = L2 (get t 2) (get t 3) (get t 6) (get t 7) (get t 8) (get t 9) (get t 10) (get t 11) m K := den_loop_again hf (id := 9) (l := [2, 3, 6, 7, 8, 9, 10, 11]) (by kernel_rfl) (by kernel_rfl) (.inBlock 2 :: K) _
theorem L2_eq (x2 x3 x6 x7 x8 x9 x10 x11 : AV) (m : Mem) (K : List Item) : L2 x2 x3 x6 x7 x8 x9 x10 x11 m K = den prog ann 34 (.code r9 :: .code i2 :: .code k3 :: .code r10 :: .inLoop l2 :: .inBlock 2 :: K) ⟨[(2, x2), (3, x3), (6, x6), (7, x7), (8, x8), (9, x9), (10, x10), (11, x11)], 94, m⟩ := den_flat hf (l := [r9, i2, k3, r10]) (by kernel_rfl) _ _
theorem r9_eq (K : List Item) (s : St) : den prog ann 34 (.code r9 :: K) s = mreg prog ann 34 (some [2, 3, 6, 7, 8, 9, 10, 11]) [] none [] [
    ⟨some 46, none, .v fun s => some (s.get 11)⟩,
    ⟨some 47, none, .v fun s => fieldA 0 (s.get 2)⟩,
    ⟨some 48, none, .v fun s => loadF false 1 (s.get 47)⟩,
    ⟨some 49, none, .v fun s => idxSl 1 (s.get 48) (.int .i64 0)⟩,
    ⟨some 50, none, .v fun s => loadF false 1 (s.get 49)⟩,
    ⟨some 51, none, .v fun s => lenSl (s.get 50)⟩,
    ⟨some 52, none, .v fun s => binA prog .lss 3 (s.get 46) (s.get 51)⟩] K s := (den_reg hf _ K s).trans (by kernel_rfl)
theorem i2_eq (K : List Item) (s : St) : den prog ann 34 (.code i2 :: K) s = ifV prog ann 34 52 i2t i2e K s (s.get 52) := den_if hf (by kernel_rfl) K s
theorem i2t_eq (K : List Item) (s : St) : den prog ann 34 (.code i2t :: K) s = den prog ann 34 (K) s := den_flat hf (l := []) (by kernel_rfl) K s
theorem i2e_eq (K : List Item) (s : St) : den prog ann 34 (.code i2e :: K) s = den prog ann 34 (.code (.exit 2) :: K) s := den_flat hf (l := [(.exit 2)]) (by kernel_rfl) K s
theorem k3_eq (K : List Item) (s : St) : den prog ann 34 (.code k3 :: K) s = den prog ann 34 (.code r11 :: .code r12 :: .code i3 :: .inBlock 3 :: K) s := den_blk hf (b := blkOf k3) (l := [r11, r12, i3]) (by kernel_rfl) (by kernel_rfl) K s
theorem r11_draw : drawOk (fun g => (ann g).pure) (modeOf (ann 34) (idOf r11)) (frzOf (ann 34) (idOf r11)) (opsOf r11) = true := drawOk_of (an := [0, 1, 0, 4, 15, 31, 0, 127, 255, 0, 512, 0, 2048, 7680, 15872, 0, 65024, 130560, 262143, 0, 1048575]) (by kernel_rfl) (by kernel_rfl)
theorem r11_eq (K : List Item) (s : St) : den prog ann 34 (.code r11 :: K) s = mreg prog ann 34 none [] (some 21) [12] [
    ⟨some 55, none, .v fun s => fieldA 0 (s.get 2)⟩,
    ⟨some 56, none, .v fun s => loadF false 1 (s.get 55)⟩,
    ⟨some 57, none, .v fun s => fieldA 0 (s.get 10)⟩,
    ⟨some 58, none, .v fun s => loadF false 1 (s.get 57)⟩,
    ⟨some 59, none, .v fun s => idxSl 1 (s.get 56) (s.get 58)⟩,
    ⟨some 60, none, .v fun s => loadF false 1 (s.get 59)⟩,
    ⟨some 61, none, .v fun s => some (s.get 11)⟩,
    ⟨some 62, none, .v fun s => idxSl 1 (s.get 60) (s.get 61)⟩,
    ⟨some 63, none, .v fun s => loadF false 1 (s.get 62)⟩,
    ⟨some 64, none, .v fun s => fieldA 0 (s.get 3)⟩,
    ⟨some 65, none, .v fun s => loadF false 1 (s.get 64)⟩,
    ⟨some 66, none, .v fun s => fieldA 1 (s.get 10)⟩,
    ⟨some 67, none, .v fun s => loadF false 1 (s.get 66)⟩,
    ⟨some 68, none, .v fun s => idxSl 1 (s.get 65) (s.get 67)⟩,
    ⟨some 69, none, .v fun s => loadF false 1 (s.get 68)⟩,
    ⟨some 70, none, .v fun s => some (s.get 11)⟩,
    ⟨some 71, none, .v fun s => idxSl 1 (s.get 69) (s.get 70)⟩,
    ⟨some 72, none, .v fun s => loadF false 1 (s.get 71)⟩,
    ⟨some 73, none, .v fun s => bldA (plc [(0, 1), (1, 1)]) [.int .i64 0, .int .i64 0] [(0, (s.get 63)), (1, (s.get 72))]⟩,
    ⟨some 12, none, .w false (some 19) fun s => newPtr s.m [.int .i64 0, .int .i64 0]⟩,
    ⟨none, none, .w false (some 20) fun s => stA true 2 s.m (s.get 12) (s.get 73)⟩] K s := (den_regD hf r11_draw K s).trans (by kernel_rfl)
theorem r12_eq (K : List Item) (s : St) : den prog ann 34 (.code r12 :: K) s = mreg prog ann 34 none [] none [] [
    ⟨some 74, none, .v fun s => some (s.get 8)⟩,
    ⟨some 75, none, .v fun s => loadF true 2 (s.get 12)⟩,
    ⟨some 76, none, .v fun s => lookP prog s.m 118 (.bool false) (s.get 74) (s.get 75) false⟩,
    ⟨some 77, none, .v fun s => unA .not (s.get 76)⟩] K s := (den_reg hf _ K s).trans (by kernel_rfl)
theorem i3_eq (K : List Item) (s : St) : den prog ann 34 (.code i3 :: K) s = ifV prog ann 34 77 i3t i3e K s (s.get 77) := den_if hf (by kernel_rfl) K s
theorem i3t_eq (K : List Item) (s : St) : den prog ann 34 (.code i3t :: K) s = den prog ann 34 (.code r13 :: .code r14 :: K) s := den_flat hf (l := [r13, r14]) (by kernel_rfl) K s
theorem r13_eq (K : List Item) (s : St) : den prog ann 34 (.code r13 :: K) s = mreg prog ann 34 none [] none [] [
    ⟨some 78, none, .v fun s => some (s.get 8)⟩,
    ⟨some 79, none, .v fun s => loadF true 2 (s.get 12)⟩,
    ⟨none, none, .w false none fun s => updM prog s.m 118 (s.get 78) (s.get 79) (.bool true)⟩] K s := (den_reg hf _ K s).trans (by kernel_rfl)
theorem r14_draw : drawOk (fun g => (ann g).pure) (modeOf (ann 34) (idOf r14)) (frzOf (ann 34) (idOf r14)) (opsOf r14) = true := drawOk_of (an := [0, 0, 2, 7, 0, 0, 0, 96, 224, 0, 527, 2031, 4079, 8191, 16383, 32767]) (by kernel_rfl) (by kernel_rfl)
theorem r14_eq (K : List Item) (s : St) : den prog ann 34 (.code r14 :: K) s = mreg prog ann 34 none [] (some 16) [3080087, 2000082] [
    ⟨some 80, none, .v fun s => some (s.get 6)⟩,
    ⟨some 81, none, .v fun s => loadF true 2 (s.get 12)⟩,
    ⟨some 82, none, .v fun s => bslF 1 (bslA 2 1 [.int .i64 0, .int .i64 0] [(0, (s.get 81))])⟩,
    ⟨some 83, none, .w false (some 3) fun s => appendA 2 16 s.m (s.get 80) (s.get 82)⟩,
    ⟨some 84, none, .v fun s => some (s.get 7)⟩,
    ⟨some 85, none, .v fun s => some (s.get 7)⟩,
    ⟨some 86, none, .v fun s => some (s.get 9)⟩,
    ⟨some 87, none, .v fun s => idxSl 1 (s.get 85) (s.get 86)⟩,
    ⟨some 88, none, .v fun s => loadA false 1 s.m (s.get 87)⟩,
    ⟨some 89, none, .v fun s => some (s.get 11)⟩,
    ⟨some 90, none, .c 0 (fun s => (.fn 64 [] [])) fun s => [(s.get 89)]⟩,
    ⟨some 91, none, .v fun s => binA prog .add 9 (s.get 88) (s.get 90)⟩,
    ⟨some 92, none, .v fun s => bslF 1 (bslA 1 1 [.str []] [(0, (s.get 91))])⟩,
    ⟨some 93, none, .w false (some 13) fun s => appendA 1 16 s.m (s.get 84) (s.get 92)⟩,
    ⟨some 6, none, .v fun s => some (s.get 83)⟩,
    ⟨some 7, none, .v fun s => some (s.get 93)⟩] K s := (den_regD hf r14_draw K s).trans (by kernel_rfl)
theorem i3e_eq (K : List Item) (s : St) : den prog ann 34 (.code i3e :: K) s = den prog ann 34 (K) s := den_flat hf (l := []) (by kernel_rfl) K s
theorem r10_eq (K : List Item) (s : St) : den prog ann 34 (.code r10 :: K) s = mreg prog ann 34 (some [2, 3, 6, 7, 8, 9, 10, 11]) [] none [] [
    ⟨some 53, none, .v fun s => some (s.get 11)⟩,
    ⟨some 54, none, .v fun s => binA prog .add 3 (s.get 53) (.int .i64 1)⟩,
    ⟨some 11, none, .v fun s => some (s.get 54)⟩] K s := (den_reg hf _ K s).trans (by kernel_rfl)
theorem r4_eq (K : List Item) (s : St) : den prog ann 34 (.code r4 :: K) s = mreg prog ann 34 (some [2, 3, 6, 7, 8, 9]) [] none [] [
    ⟨some 23, none, .v fun s => some (s.get 9)⟩,
    ⟨some 24, none, .v fun s => binA prog .add 3 (s.get 23) (.int .i64 1)⟩,
    ⟨some 9, none, .v fun s => some (s.get 24)⟩] K s := (den_reg hf _ K s).trans (by kernel_rfl)
theorem r15_eq (K : List Item) (s : St) : den prog ann 34 (.code r15 :: K) s = mreg prog ann 34 (some []) [] none [] [
    ⟨some 4, none, .v fun s => some (.str [])⟩,
    ⟨some 5, none, .v fun s => some (.bool false)⟩] K s := (den_reg hf _ K s).trans (by kernel_rfl)
theorem ret_eq (K : List Item) (s : St) : den prog ann 34 (.code .ret :: K) s = finM true [fun s => some (s.get 4), fun s => some (s.get 5)] s := (den_ret hf K s).trans (by kernel_rfl)
theorem nil_eq (s : St) : den prog ann 34 [] s = finM true [fun s => some (s.get 4), fun s => some (s.get 5)] s := (den_nil hf s).trans (by kernel_rfl)
theorem inBlock_eq (id : Nat) (K : List Item) (s : St) : den prog ann 34 (.inBlock id :: K) s = den prog ann 34 K s := den_inBlock hf id K s
theorem exit_eq (id : Nat) (K : List Item) (s : St) : den prog ann 34 (.code (.exit id) :: K) s = exitV prog ann 34 (exitTo id K) s := den_exitV hf id K s
theorem call_eq (v0 v1 : AV) (m : Mem) (h : closedL [v0, v1] = true) : denC prog ann 34 [v0, v1] m = (den prog ann 34 [.code b] ⟨[(0, v0), (1, v1)], 94, Mem.empty⟩).bind fun r => some (r.1, m) := (denC_pure hf (b := b) (by kernel_rfl) (by kernel_rfl) (by kernel_rfl) h m).trans (by kernel_rfl)
theorem pure_eq : (ann 34).pure = true := by kernel_rfl
attribute [simp] b_eq r0_eq r1_eq r2_eq k0_eq l0_eq r3_eq i0_eq i0t_eq i0e_eq k1_eq r5_eq r6_eq i1_eq i1t_eq r7_eq i1e_eq r8_eq k2_eq l2_eq r9_eq i2_eq i2t_eq i2e_eq k3_eq r11_eq r12_eq i3_eq i3t_eq r13_eq r14_eq i3e_eq r10_eq r4_eq r15_eq ret_eq nil_eq inBlock_eq exit_eq pure_eq
end r07_Differ

namespace brand_letter
/-- pommel/brand.letter -/
noncomputable def b : Code := (Try.f59.body).getD .skip
theorem hf : prog.funcs[59]? = some Try.f59 := by kernel_rfl
noncomputable def r0 : Code := findReg b 0
noncomputable def r1 : Code := findReg b 1
theorem b_eq (K : List Item) (s : St) : den prog ann 59 (.code b :: K) s = den prog ann 59 (.code r0 :: .code r1 :: .code .ret :: K) s := den_flat hf (l := [r0, r1, .ret]) (by kernel_rfl) K s
theorem r0_eq (K : List Item) (s : St) : den prog ann 59 (.code r0 :: K) s = mreg prog ann 59 none [] none [] [
    ⟨some 2, none, .v fun s => some (.str [])⟩] K s := (den_reg hf _ K s).trans (by kernel_rfl)
theorem r1_eq (K : List Item) (s : St) : den prog ann 59 (.code r1 :: K) s = mreg prog ann 59 none [] none [] [
    ⟨some 3, none, .v fun s => some (s.get 0)⟩,
    ⟨some 4, none, .v fun s => convInt .u8 (s.get 3)⟩,
    ⟨some 5, none, .v fun s => binA prog .add 5 (.int .u8 97) (s.get 4)⟩,
    ⟨some 6, none, .w false none fun s => bslM s.m 1 (bslA 1 1 [.int .u8 0] [(0, (s.get 5))])⟩,
    ⟨some 7, none, .v fun s => convStr s.m (s.get 6)⟩,
    ⟨some 2, none, .v fun s => some (s.get 7)⟩] K s := (den_reg hf _ K s).trans (by kernel_rfl)
theorem ret_eq (K : List Item) (s : St) : den prog ann 59 (.code .ret :: K) s = finM true [fun s => some (s.get 2)] s := (den_ret hf K s).trans (by kernel_rfl)
theorem nil_eq (s : St) : den prog ann 59 [] s = finM true [fun s => some (s.get 2)] s := (den_nil hf s).trans (by kernel_rfl)
theorem inBlock_eq (id : Nat) (K : List Item) (s : St) : den prog ann 59 (.inBlock id :: K) s = den prog ann 59 K s := den_inBlock hf id K s
theorem exit_eq (id : Nat) (K : List Item) (s : St) : den prog ann 59 (.code (.exit id) :: K) s = exitV prog ann 59 (exitTo id K) s := den_exitV hf id K s
theorem call_eq (v0 : AV) (m : Mem) (h : closedL [v0] = true) : denC prog ann 59 [v0] m = (den prog ann 59 [.code b] ⟨[(0, v0)], 8, Mem.empty⟩).bind fun r => some (r.1, m) := (denC_pure hf (b := b) (by kernel_rfl) (by kernel_rfl) (by kernel_rfl) h m).trans (by kernel_rfl)
theorem pure_eq : (ann 59).pure = true := by kernel_rfl
attribute [simp] b_eq r0_eq r1_eq ret_eq nil_eq inBlock_eq exit_eq pure_eq
end brand_letter

namespace r07_letter
/-- pommel/pommelref07.letter -/
noncomputable def b : Code := (Try.f64.body).getD .skip
theorem hf : prog.funcs[64]? = some Try.f64 := by kernel_rfl
noncomputable def r0 : Code := findReg b 0
noncomputable def r1 : Code := findReg b 1
theorem b_eq (K : List Item) (s : St) : den prog ann 64 (.code b :: K) s = den prog ann 64 (.code r0 :: .code r1 :: .code .ret :: K) s := den_flat hf (l := [r0, r1, .ret]) (by kernel_rfl) K s
theorem r0_eq (K : List Item) (s : St) : den prog ann 64 (.code r0 :: K) s = mreg prog ann 64 none [] none [] [
    ⟨some 2, none, .v fun s => some (.str [])⟩] K s := (den_reg hf _ K s).trans (by kernel_rfl)
theorem r1_eq (K : List Item) (s : St) : den prog ann 64 (.code r1 :: K) s = mreg prog ann 64 none [] none [] [
    ⟨some 3, none, .v fun s => some (s.get 0)⟩,
    ⟨some 4, none, .v fun s => some (s.get 0)⟩,
    ⟨some 5, none, .v fun s => binA prog .add 3 (s.get 4) (.int .i64 1)⟩,
    ⟨some 6, none, .v fun s => sliceStr (.str [97, 98, 99]) (some (s.get 3)) (some (s.get 5))⟩,
    ⟨some 2, none, .v fun s => some (s.get 6)⟩] K s := (den_reg hf _ K s).trans (by kernel_rfl)
theorem ret_eq (K : List Item) (s : St) : den prog ann 64 (.code .ret :: K) s = finM true [fun s => some (s.get 2)] s := (den_ret hf K s).trans (by kernel_rfl)
theorem nil_eq (s : St) : den prog ann 64 [] s = finM true [fun s => some (s.get 2)] s := (den_nil hf s).trans (by kernel_rfl)
theorem inBlock_eq (id : Nat) (K : List Item) (s : St) : den prog ann 64 (.inBlock id :: K) s = den prog ann 64 K s := den_inBlock hf id K s
theorem exit_eq (id : Nat) (K : List Item) (s : St) : den prog ann 64 (.code (.exit id) :: K) s = exitV prog ann 64 (exitTo id K) s := den_exitV hf id K s
theorem call_eq (v0 : AV) (m : Mem) (h : closedL [v0] = true) : denC prog ann 64 [v0] m = (den prog ann 64 [.code b] ⟨[(0, v0)], 7, Mem.empty⟩).bind fun r => some (r.1, m) := (denC_pure hf (b := b) (by kernel_rfl) (by kernel_rfl) (by kernel_rfl) h m).trans (by kernel_rfl)
theorem pure_eq : (ann 64).pure = true := by kernel_rfl
attribute [simp] b_eq r0_eq r1_eq ret_eq nil_eq inBlock_eq exit_eq pure_eq
end r07_letter
end Go.Proofs.Ythnpflkpjimkfaa

/-
  LETTERS AS STRINGS: the code's and the specification's. Conditions: none.
-/
namespace Go.Proofs.Ythnpflkpjimkfaa
open Go.AM
open Go.Proofs.Try (prog)
set_option linter.all false
set_option maxRecDepth 100000
set_option maxHeartbeats 4000000

def ltr (a : Nat) : List UInt8 := [UInt8.ofNat (97 + a)]
theorem letter_spec {a : Nat} (h : a < 3) (m : Mem) : denC prog ann 59 [.int .i64 a] m = some (.str (ltr a), m) := by
  rw [brand_letter.call_eq _ _ (by simp)]
  rcases (by omega : a = 0 ∨ a = 1 ∨ a = 2) with rfl | rfl | rfl
  · simp [ltr, convStr, bytesOf, sliceStr, bnds, bnd, IntKind.wrap, IntKind.min, IntKind.max, IntKind.signed, IntKind.bits]; done
  · simp [ltr, convStr, bytesOf, sliceStr, bnds, bnd, IntKind.wrap, IntKind.min, IntKind.max, IntKind.signed, IntKind.bits]; done
  · simp [ltr, convStr, bytesOf, sliceStr, bnds, bnd, IntKind.wrap, IntKind.min, IntKind.max, IntKind.signed, IntKind.bits]; done
theorem rletter_spec {a : Nat} (h : a < 3) (m : Mem) : denC prog ann 64 [.int .i64 a] m = some (.str (ltr a), m) := by
  rw [r07_letter.call_eq _ _ (by simp)]
  rcases (by omega : a = 0 ∨ a = 1 ∨ a = 2) with rfl | rfl | rfl
  · simp [ltr, convStr, bytesOf, sliceStr, bnds, bnd, IntKind.wrap, IntKind.min, IntKind.max, IntKind.signed, IntKind.bits]; done
  · simp [ltr, convStr, bytesOf, sliceStr, bnds, bnd, IntKind.wrap, IntKind.min, IntKind.max, IntKind.signed, IntKind.bits]; done
  · simp [ltr, convStr, bytesOf, sliceStr, bnds, bnd, IntKind.wrap, IntKind.min, IntKind.max, IntKind.signed, IntKind.bits]; done
end Go.Proofs.Ythnpflkpjimkfaa

/-
  PAIRS OF STATES AS CELLS AND AS KEYS. Conditions: none.
-/
namespace Go.Proofs.Ythnpflkpjimkfaa
open Go.AM
open Go.Proofs.Try (prog)
set_option linter.all false
set_option maxRecDepth 100000
set_option maxHeartbeats 4000000

@[simp] theorem neqB (a b : Bool) : binA prog .neq 4 (.bool a) (.bool b) = some (.bool (!(a == b))) := by simp [binA, eqT, eqA, u4']
abbrev PN := Nat × Nat
def cP (x : PN) : List AV := [.int .i64 ((x.1 : Nat) : Int), .int .i64 ((x.2 : Nat) : Int)]
def encP (x : PN) : AV := .agg (cP x)
def flP : List PN → List AV
  | [] => []
  | x :: l => cP x ++ flP l
@[simp] theorem cP_len (x : PN) : (cP x).length = 2 := rfl
@[simp] theorem flP_len : ∀ l : List PN, (flP l).length = l.length * 2
  | [] => rfl
  | x :: l => by rw [flP, List.length_append, flP_len l, cP_len, List.length_cons]; omega
theorem flP_app : ∀ l r : List PN, flP (l ++ r) = flP l ++ flP r
  | [], r => rfl
  | x :: l, r => by rw [List.cons_append, flP, flP_app l r, flP, List.append_assoc]
theorem flP_drop : ∀ (i : Nat) (l : List PN), (flP l).drop (i * 2) = flP (l.drop i)
  | 0, l => by simp
  | i + 1, [] => by simp [flP]
  | i + 1, x :: l => by
    rw [flP, Nat.succ_mul, Nat.add_comm, ← List.drop_drop]
    simp [cP, flP_drop i l]
theorem flP_at {l : List PN} {i : Nat} {x : PN} (h : l[i]? = some x) : ((flP l).drop (i * 2)).take 2 = cP x := by
  rw [flP_drop]
  have hi := (List.getElem?_eq_some_iff.1 h).1
  have e := (List.getElem?_eq_some_iff.1 h).2
  rw [List.drop_eq_getElem_cons hi, e]
  rfl
theorem fl114 : flatT prog 114 = some [3, 3] := by kernel_rfl
theorem fl118 : flatT prog 118 = some [3, 3] := by kernel_rfl
theorem sc3 (n : Int) : scV prog 3 (.int .i64 n) = true := by simp [scV, u3]
theorem keysP {t : TypeId} (h : flatT prog t = some [3, 3]) (ok : PN → Prop) : Keys t encP ok := by
  refine ⟨fun a b _ _ => ?_, fun a _ => ?_⟩
  · obtain ⟨a1, a2⟩ := a
    obtain ⟨b1, b2⟩ := b
    by_cases e1 : a1 = b1
    · by_cases e2 : a2 = b2
      · simp [keyEq, encP, cP, h, eqCs, sc3, eqSc, e1, e2]
      · have : ((a2 : Int) == (b2 : Int)) = false := by rw [beq_eq_false_iff_ne]; omega
        simp [keyEq, encP, cP, h, eqCs, sc3, eqSc, e1, e2, Prod.ext_iff, this]
    · have : ((a1 : Int) == (b1 : Int)) = false := by rw [beq_eq_false_iff_ne]; omega
      simp [keyEq, encP, cP, h, eqCs, sc3, eqSc, e1, Prod.ext_iff, this]
  · obtain ⟨a1, a2⟩ := a
    simp [keyT, encP, cP, h, scL, sc3]
def allP : List PN := (List.range 6).flatMap fun a => (List.range 6).map fun b => (a, b)
theorem allP_len : allP.length = 36 := by decide
theorem allP_mem {x : PN} (h1 : x.1 < 6) (h2 : x.2 < 6) : x ∈ allP := by
  obtain ⟨a, b⟩ := x
  simp [allP]
  exact ⟨h1, h2⟩
theorem pairs_few {ok : PN → Prop} (hok : ∀ x, ok x → x.1 < 6 ∧ x.2 < 6) {l : List PN} (hn : l.Nodup) (ha : ∀ x ∈ l, ok x) : l.length ≤ 36 := by
  have := nodup_sub hn (L := allP) fun x hx => allP_mem (hok x (ha x hx)).1 (hok x (ha x hx)).2
  rwa [allP_len] at this
end Go.Proofs.Ythnpflkpjimkfaa

/-
  THE LEAST WORD THAT ONLY ONE OF TWO BRANDS ACCEPTS: the program's search. Conditions: none.
-/
namespace Go.Proofs.Ythnpflkpjimkfaa
open Go.AM
open Go.Proofs.Try (prog)
set_option linter.all false
set_option maxRecDepth 100000
set_option maxHeartbeats 8000000

def nxP (rows rows' : List (List Int)) (x : PN) (a : Nat) : PN := (nx rows x.1 a, nx rows' x.2 a)
def extL (w : List UInt8) (a : Nat) : List UInt8 := w ++ ltr a
def okP (n n' : Nat) (x : PN) : Prop := x.1 < n ∧ x.2 < n'
noncomputable def KD : List Item := [.code brand_Differ.r19, .code .ret]
noncomputable def KI : List Item := .inBlock 1 :: .code brand_Differ.r6 :: .inLoop brand_Differ.l0 :: .inBlock 0 :: KD

theorem dfr_in {nv gv nv' gv' : AV} {ps ps' : List AV} {rows rows' : List (List Int)} {good good' : List Bool} {k : Nat} (hn : IsRows nv ps rows) (hn' : IsRows nv' ps' rows') (v : VB rows good k) (v' : VB rows' good' k) {iw i : Nat} {x : PN} {w : List UInt8} (hx : okP rows.length rows'.length x) {r : Res} :
    ∀ (j a iq : Nat) (m : Mem) (q : AV) (S : List PN × List (List UInt8)), a + j = k → Mp m iw (S.1.map encP) (S.2.map .str) → Gl m q iq 2 (S.1.length - i) (flP (S.1.drop i)) → iw ≠ iq → S.1[i]? = some x → S.2[i]? = some w → BOk (okP rows.length rows'.length) List.length S →
    (∀ m' q' iq', Mp m' iw ((bIn (nxP rows rows') extL x w j a S).1.map encP) ((bIn (nxP rows rows') extL x w j a S).2.map .str) → Gl m' q' iq' 2 ((bIn (nxP rows rows') extL x w j a S).1.length - i) (flP ((bIn (nxP rows rows') extL x w j a S).1.drop i)) → iw ≠ iq' →
      brand_Differ.L0 (.fptr [nv, gv]) (.fptr [nv', gv']) (.map iw) (tlV q' 2) m' KD = some r) →
    brand_Differ.L2 (.fptr [nv, gv]) (.fptr [nv', gv']) (.map iw) q (.fptr (cP x)) (.int .i64 k) (.int .i64 a) m KI = some r := by
  intro j
  induction j with
  | zero =>
    intro a iq m q S h1 hm hq hne hS1 hS2 hS hk
    have e : a = k := by omega
    subst e
    have hi := (List.getElem?_eq_some_iff.1 hS1).1
    have hk := hk m q iq hm hq hne
    rw [brand_Differ.L2_eq]
    simp [KI, hq.cut (by omega), hk]
    done
  | succ j ih =>
    intro a iq m q S h1 hm hq hne hS1 hS2 hS hk
    have ha : a < k := by omega
    have hi := (List.getElem?_eq_some_iff.1 hS1).1
    obtain ⟨x1, x2⟩ := x
    obtain ⟨hx1, hx2⟩ := hx
    have hx1 : x1 < rows.length := hx1
    have hx2 : x2 < rows'.length := hx2
    have b := v.rl x1 hx1
    have b' := v'.rl x2 hx2
    obtain ⟨c1, c2⟩ := nx_lt v hx1 ha
    obtain ⟨c1', c2'⟩ := nx_lt v' hx2 ha
    have iw1 := hn.row x1 hx1
    have iw2 := hn'.row x2 hx2
    have hwi : IntKind.wrap .i64 ((a : Int) + 1) = (a : Int) + 1 := wrap_id (by omega) (by have := v.k3; omega)
    have ha3 : a < 3 := by have := v.k3; omega
    have d1 := iw1.idx (i := a) (by omega) .i64
    have d2 := iw2.idx (i := a) (by omega) .i64
    have e1 := ints_head (l := cth rows x1) (i := a) (by omega)
    have e2 := ints_head (l := cth rows' x2) (i := a) (by omega)
    rw [c2] at e1
    rw [c2'] at e2
    have hlt := fun m => letter_spec ha3 m
    have hiq : iq < m.nx := hq.lt
    have hiw : iw < m.nx := hm.2
    have few := pairs_few (ok := okP rows.length rows'.length) (fun x h => ⟨by have := v.n6; have := h.1; omega, by have := v'.n6; have := h.2; omega⟩) hS.nd hS.all
    have hm1 : Mp ⟨upd m.h (m.nx + 19) none, m.nx + 21⟩ iw (S.1.map encP) (S.2.map .str) := hm.frame (updNe (by omega)) (by show m.nx ≤ m.nx + 21; omega)
    have hm2 : Mp ⟨upd m.h (m.nx + 19) none, m.nx + 30⟩ iw (S.1.map encP) (S.2.map .str) := hm.frame (updNe (by omega)) (by show m.nx ≤ m.nx + 30; omega)
    have hm3 : Mp ⟨upd m.h (m.nx + 19) none, m.nx + 29⟩ iw (S.1.map encP) (S.2.map .str) := hm.frame (updNe (by omega)) (by show m.nx ≤ m.nx + 29; omega)
    have K := keysP fl114 (okP rows.length rows'.length)
    have hy : okP rows.length rows'.length (nxP rows rows' (x1, x2) a) := ⟨c1, c1'⟩
    have l1 := hm1.look K hS.all hS.len hy (.str []) true
    have l2 := hm2.look K hS.all hS.len (c := (x1, x2)) ⟨hx1, hx2⟩ (.str []) false
    rw [lkP_at hS.nd hS1 hS2] at l2
    simp only [encP, cP, nxP] at l1 l2
    rw [bIn] at hk
    by_cases hc : nxP rows rows' (x1, x2) a ∈ S.1
    · rw [if_pos hc] at hk
      obtain ⟨i', hi'⟩ := List.getElem?_of_mem hc
      have hi2 : i' < S.2.length := by rw [← hS.len]; exact (List.getElem?_eq_some_iff.1 hi').1
      have q1 := lkP_at hS.nd hi' (List.getElem?_eq_getElem hi2)
      simp only [nxP] at q1
      rw [q1] at l1
      have st := ih (a + 1) iq ⟨upd m.h (m.nx + 19) none, m.nx + 21⟩ q S (by omega) hm1 (hq.frame (updNe (by omega)) (by show m.nx ≤ m.nx + 21; omega)) hne hS1 hS2 hS hk
      simp only [Int.natCast_add, Int.cast_ofNat_Int, cP] at st
      rw [brand_Differ.L2_eq]
      simp [cP, ha, hn.idx hx1, hn.head hx1, hn'.idx hx2, hn'.head hx2, d1, d2, e1, e2, l1, hwi, st]
      done
    · rw [if_neg hc] at hk
      have q1 := lkP_none (vs := S.2) hc
      simp only [nxP] at q1
      rw [q1] at l1
      obtain ⟨m2, p1, p2, p3, p4⟩ := hm3.put K hS.all hS.len hy hc (extL w a)
      simp only [encP, cP, nxP, extL] at p1
      have hwl : w.length ≤ 36 := by
        have h1 := hS.wl w (List.mem_of_getElem? hS2)
        have h2 := hS.len
        omega
      have hll : w.length + (ltr a).length ≤ 4611686018427387904 := by simp [ltr]; omega
      have hq2 : Gl ⟨m2.h, m.nx + 30⟩ q iq 2 (S.1.length - i) (flP (S.1.drop i)) := hq.frame (by show m2.h iq = m.h iq; rw [p4 iq (fun e => hne e.symm)]; exact updNe (by omega)) (by show m.nx ≤ m.nx + 30; omega)
      obtain ⟨q', m3, iq', g1, g2, g3, g4, g5⟩ := hq2.app (by' := 16) (ys := cP (nxP rows rows' (x1, x2) a)) rfl (by simp; omega)
      have hm4 : Mp m3 iw ((S.1 ++ [nxP rows rows' (x1, x2) a]).map encP) ((S.2 ++ [extL w a]).map .str) := p2.frame (by
        have := g5 iw (by show iw < m.nx + 30; omega) hne
        exact this) (by
        have h1 : m.nx + 30 ≤ m3.nx := g3
        have h2 : m2.nx = m.nx + 29 := p3
        omega)
      have st := ih (a + 1) iq' m3 q' (S.1 ++ [nxP rows rows' (x1, x2) a], S.2 ++ [extL w a]) (by omega) hm4 (by
        have e : (S.1 ++ [nxP rows rows' (x1, x2) a]).length - i = S.1.length - i + 1 := by simp; omega
        show Gl m3 q' iq' 2 ((S.1 ++ [nxP rows rows' (x1, x2) a]).length - i) (flP ((S.1 ++ [nxP rows rows' (x1, x2) a]).drop i))
        rw [e, List.drop_append_of_le_length (by omega), flP_app]
        exact g2) (by
        rcases g4 with e | e
        · rw [e]; exact hne
        · rw [e]; show iw ≠ m.nx + 30; omega) (by rw [List.getElem?_append_left (by omega)]; exact hS1) (by rw [List.getElem?_append_left (by rw [← hS.len]; omega)]; exact hS2) (bok_add hS hy hc (by
        have := hS.wl w (List.mem_of_getElem? hS2)
        simp [extL, ltr]; omega)) hk
      simp only [Int.natCast_add, Int.cast_ofNat_Int, cP] at st
      simp only [cP, nxP] at g1
      rw [brand_Differ.L2_eq]
      simp [cP, ha, hn.idx hx1, hn.head hx1, hn'.idx hx2, hn'.head hx2, d1, d2, e1, e2, l1, hwi, l2, hlt, p1, hll, hq.one, g1, g2.one, st]
      done
theorem flP_drop1 (l : List PN) (i : Nat) : (flP (l.drop i)).drop 2 = flP (l.drop (i + 1)) := by
  have := flP_drop 1 (l.drop i)
  simpa using this
def stP (good good' : List Bool) (x : PN) : Bool := !(bnth good x.1 == bnth good' x.2)
def resP : Option (List UInt8) → AV
  | some w => .tup [.str w, .int .i64 0]
  | none => .tup [.str [], .int .i64 5]
theorem dfr_out {nv gv nv' gv' : AV} {ps ps' : List AV} {rows rows' : List (List Int)} {good good' : List Bool} {k : Nat} (hn : IsRows nv ps rows) (hn' : IsRows nv' ps' rows') (hg : IsB gv good) (hg' : IsB gv' good') (v : VB rows good k) (v' : VB rows' good' k) {iw : Nat} :
    ∀ (f i iq : Nat) (m : Mem) (q : AV) (S : List PN × List (List UInt8)), Mp m iw (S.1.map encP) (S.2.map .str) → Gl m q iq 2 (S.1.length - i) (flP (S.1.drop i)) → iw ≠ iq → BOk (okP rows.length rows'.length) List.length S → i ≤ S.1.length → 36 < f + i →
    brand_Differ.L0 (.fptr [nv, gv]) (.fptr [nv', gv']) (.map iw) q m KD = some (resP (bfs (nxP rows rows') extL (stP good good') k f i S), Mem.empty) := by
  intro f
  induction f with
  | zero =>
    intro i iq m q S hm hq hne hS hi hf
    have few := pairs_few (ok := okP rows.length rows'.length) (fun x h => ⟨by have := v.n6; have := h.1; omega, by have := v'.n6; have := h.2; omega⟩) hS.nd hS.all
    omega
  | succ f ih =>
    intro i iq m q S hm hq hne hS hi hf
    by_cases c : i < S.1.length
    · have hx := List.getElem?_eq_getElem c
      have c2 : i < S.2.length := by rw [← hS.len]; exact c
      have hw := List.getElem?_eq_getElem c2
      generalize S.1[i] = x at hx
      generalize S.2[i] = w at hw
      have ok := hS.all x (List.mem_of_getElem? hx)
      have sok : 0 < S.1.length - i := by omega
      rw [bfs, hx, hw]
      simp only []
      have ld := hq.load (i := 0) (by omega)
      have e0 : ((flP (S.1.drop i)).drop (0 * 2)).take 2 = cP x := flP_at (by simpa using hx)
      rw [e0] at ld
      obtain ⟨x1, x2⟩ := x
      obtain ⟨hx1, hx2⟩ := ok
      have hx1 : x1 < rows.length := hx1
      have hx2 : x2 < rows'.length := hx2
      have gl1 := v.gl
      have gl2 := v'.gl
      have b1 := bls_head (bs := good) (i := x1) (by omega)
      have b2 := bls_head (bs := good') (i := x2) (by omega)
      have hi0 := hq.idx0 (by omega) .i64
      have hiq := hq.lt
      have hiw := hm.2
      have few := pairs_few (ok := okP rows.length rows'.length) (fun x h => ⟨by have := v.n6; have := h.1; omega, by have := v'.n6; have := h.2; omega⟩) hS.nd hS.all
      have hm1 : Mp ⟨upd m.h m.nx none, m.nx + 14⟩ iw (S.1.map encP) (S.2.map .str) := hm.frame (updNe (by omega)) (by show m.nx ≤ m.nx + 14; omega)
      have hq1 : Gl ⟨upd m.h m.nx none, m.nx + 14⟩ q iq 2 (S.1.length - i) (flP (S.1.drop i)) := hq.frame (updNe (by omega)) (by show m.nx ≤ m.nx + 14; omega)
      have K := keysP fl114 (okP rows.length rows'.length)
      have l1 := hm1.look K hS.all hS.len (c := (x1, x2)) ⟨hx1, hx2⟩ (.str []) false
      rw [lkP_at hS.nd hx hw] at l1
      simp only [encP, cP] at l1
      by_cases hst : stP good good' (x1, x2) = true
      · rw [if_pos hst]
        have hst' : (bnth good x1 == bnth good' x2) = false := by simpa [stP] using hst
        rw [brand_Differ.L0_eq]
        simp [hq.len, sok, hi0, ld, cP, hg.idx (i := x1) (by omega), hg'.idx (i := x2) (by omega), b1, b2, hst', l1, resP, -beq_eq_false_iff_ne, -beq_iff_eq]
        done
      · rw [if_neg hst]
        have hst' : (bnth good x1 == bnth good' x2) = true := by simpa [stP] using hst
        have r0 := v.rl 0 (by omega)
        have i0 := hn.idx (i := 0) (by omega) .i64
        have j0 := hn.head (i := 0) (by omega)
        have iw0 := hn.row 0 (by omega)
        have st := dfr_in (gv := gv) (gv' := gv') hn hn' v v' (iw := iw) (i := i) (x := (x1, x2)) (w := w) ⟨hx1, hx2⟩ k 0 iq _ q S (by omega) hm1 hq1 hne hx hw hS (fun m' q' iq' h1 h2 h3 => by
          obtain ⟨p', q'', e1, e2⟩ := bIn_pre (nxP rows rows') extL (x1, x2) w k 0 S
          have hS' := bIn_ok (nxP rows rows') extL (ok := okP rows.length rows'.length) (ln := List.length) (k := k) (fun y a hy ha => ⟨(nx_lt v hy.1 ha).1, (nx_lt v' hy.2 ha).1⟩) (fun w a => by simp [extL, ltr]) (x1, x2) w ⟨hx1, hx2⟩ k 0 S (by omega) hS (hS.wl w (List.mem_of_getElem? hw))
          have hlen : i < (bIn (nxP rows rows') extL (x1, x2) w k 0 S).1.length := by rw [e1]; simp; omega
          have ht := h2.tail (by omega)
          rw [flP_drop1] at ht
          exact ih (i + 1) iq' m' _ _ h1 (by
            have e : (bIn (nxP rows rows') extL (x1, x2) w k 0 S).1.length - (i + 1) = (bIn (nxP rows rows') extL (x1, x2) w k 0 S).1.length - i - 1 := by omega
            rw [e]; exact ht) h3 hS' (by omega) (by omega))
        simp only [cP, Int.ofNat_zero, Int.cast_ofNat_Int] at st i0
        rw [List.drop_zero] at i0 j0
        rw [brand_Differ.L0_eq]
        simp [hq.len, sok, hi0, ld, cP, hg.idx (i := x1) (by omega), hg'.idx (i := x2) (by omega), b1, b2, hst', i0, j0, iw0.len, r0, -beq_eq_false_iff_ne, -beq_iff_eq]
        exact st
    · have c0 : S.1.length - i = 0 := by omega
      have hx : S.1[i]? = none := List.getElem?_eq_none (by omega)
      have hl := hq.len
      rw [c0] at hl
      rw [bfs, hx, brand_Differ.L0_eq]
      simp [hl, resP, KD]
      done
/-- The search from the first pair. -/
def dfrW (rows rows' : List (List Int)) (good good' : List Bool) (k : Nat) : Option (List UInt8) := bfs (nxP rows rows') extL (stP good good') k 37 0 ([(0, 0)], [[]])
theorem bok1 {ok : PN → Prop} (h : ok (0, 0)) : BOk ok List.length ([((0, 0) : PN)], [([] : List UInt8)]) := ⟨by simp, by simpa using h, rfl, by simp⟩
theorem differ_spec {nv gv nv' gv' : AV} {ps ps' : List AV} {rows rows' : List (List Int)} {good good' : List Bool} (hn : IsRows nv ps rows) (hn' : IsRows nv' ps' rows') (hg : IsB gv good) (hg' : IsB gv' good') (hl : rows.length ≤ 1000) (hl' : rows'.length ≤ 1000) (hgl : good.length ≤ 1000) (hgl' : good'.length ≤ 1000) (hr : ∀ i, i < rows.length → (cth rows i).length ≤ 1000) (hr' : ∀ i, i < rows'.length → (cth rows' i).length ≤ 1000) (m : Mem) :
    denC prog ann 33 [.agg [nv, gv], .agg [nv', gv']] m = some (if validB rows good = true ∧ validB rows' good' = true ∧ (cth rows 0).length = (cth rows' 0).length then resP (dfrW rows rows' good good' (cth rows 0).length) else .tup [.str [], .int .i64 1], m) := by
  have h1 := fun m => valid_spec hn hg hl hgl hr m
  have h2 := fun m => valid_spec hn' hg' hl' hgl' hr' m
  rw [brand_Differ.call_eq _ _ _ (by simp [hn.closed, hg.closed, hn'.closed, hg'.closed])]
  cases c0 : validB rows good with
  | false =>
    rw [c0] at h1
    simp [hn.one, hg.one, hn.closed, hg.closed, hn'.one, hg'.one, hn'.closed, hg'.closed, h1]
    done
  | true =>
    rw [c0] at h1
    cases c1 : validB rows' good' with
    | false =>
      rw [c1] at h2
      simp [hn.one, hg.one, hn.closed, hg.closed, hn'.one, hg'.one, hn'.closed, hg'.closed, h1, h2]
      done
    | true =>
      rw [c1] at h2
      have v := VB.of c0
      have v' := VB.of c1
      have i0 := hn.idx (i := 0) v.n1 .i64
      have j0 := hn.head (i := 0) v.n1
      have iw0 := hn.row 0 v.n1
      have i0' := hn'.idx (i := 0) v'.n1 .i64
      have j0' := hn'.head (i := 0) v'.n1
      have iw0' := hn'.row 0 v'.n1
      simp only [Int.ofNat_zero, Int.cast_ofNat_Int, List.drop_zero] at i0 j0 i0' j0'
      by_cases c : (cth rows 0).length = (cth rows' 0).length
      · rw [← c] at v'
        have ok0 : okP rows.length rows'.length (0, 0) := ⟨v.n1, v'.n1⟩
        have hm0 : Mp ⟨upd Mem.empty.h 21 (some (AObj.map 0 [] [])), 22⟩ 21 (([] : List PN).map encP) (([] : List (List UInt8)).map .str) := ⟨⟨0, rfl⟩, by show 21 < 22; omega⟩
        obtain ⟨m1, p1, p2, p3, p4⟩ := hm0.put (keysP fl114 (okP rows.length rows'.length)) (by simp) rfl ok0 (by simp) []
        simp only [encP, cP, Int.ofNat_zero, Int.cast_ofNat_Int] at p1
        have p3 : m1.nx = 22 := p3
        have st := dfr_out hn hn' hg hg' v v' (iw := 21) 37 0 22 ⟨upd m1.h 22 (some (AObj.cells [.int .i64 0, .int .i64 0])), 23⟩ (.sl 22 2 0 1 2) ([(0, 0)], [[]]) (p2.fr (by show upd m1.h 22 (some (AObj.cells [.int .i64 0, .int .i64 0])) 21 = m1.h 21; exact updNe (by omega)) (by show 21 < 23; omega)) ⟨⟨[], rfl, by simp [flP, cP]⟩, rfl, by show 22 < 23; omega⟩ (by omega) (bok1 ok0) (by simp) (by omega)
        simp [hn.one, hg.one, hn.closed, hg.closed, hn'.one, hg'.one, hn'.closed, hg'.closed, h1, h2, i0, j0, iw0.len, i0', j0', iw0'.len, c, p1, p3]
        rw [c] at st
        simp only [KD] at st
        rw [st]
        rfl
      · simp [hn.one, hg.one, hn.closed, hg.closed, hn'.one, hg'.one, hn'.closed, hg'.closed, h1, h2, i0, j0, iw0.len, i0', j0', iw0'.len, c, show ¬ ((cth rows 0).length : Int) = (cth rows' 0).length by omega]
        done
end Go.Proofs.Ythnpflkpjimkfaa

/-
  THE LEAST WORD THAT ONLY ONE OF TWO BRANDS ACCEPTS: the specification's search. Conditions: none.
-/
namespace Go.Proofs.Ythnpflkpjimkfaa
open Go.AM
open Go.Proofs.Try (prog)
set_option linter.all false
set_option maxRecDepth 100000
set_option maxHeartbeats 8000000

noncomputable def KRD : List Item := [.code r07_Differ.r15, .code .ret]
noncomputable def KRI : List Item := .inBlock 1 :: .code r07_Differ.r4 :: .inLoop r07_Differ.l0 :: .inBlock 0 :: KRD

/-- What lies in memory: the pairs, their words, the pairs known. -/
structure Rd (m : Mem) (x6 x7 : AV) (i6 i7 i8 : Nat) (S : List PN × List (List UInt8)) : Prop where
  p : Gl m x6 i6 2 S.1.length (flP S.1)
  w : Gl m x7 i7 1 S.2.length (S.2.map .str)
  k : Mp m i8 (S.1.map encP) ((S.1.map fun _ => true).map .bool)
  d1 : i6 ≠ i7
  d2 : i6 ≠ i8
  d3 : i7 ≠ i8

theorem Gl.oid {m : Mem} {v : AV} {id sz n : Nat} {xs : List AV} (h : Gl m v id sz n xs) : objId v = some id := by
  obtain ⟨⟨pre, rfl, hm⟩, hn, hl⟩ := h; rfl
theorem Gl.oidE {m : Mem} {v : AV} {id sz n : Nat} {xs : List AV} (h : Gl m v id sz n xs) (s i : Nat) : objId (elP v s i) = some id := by
  obtain ⟨⟨pre, rfl, hm⟩, hn, hl⟩ := h; rfl
theorem frz_80_87 (s : St) : frz1 s 3080087 = bif apart2 s 80 87 then some s else none := rfl
theorem frz_82 (s : St) : frz1 s 2000082 = bif nsl (s.get 82) then some s else none := rfl

theorem rdf_in {nv gv nv' gv' : AV} {ps ps' : List AV} {rows rows' : List (List Int)} {good good' : List Bool} {k : Nat} (hn : IsRows nv ps rows) (hn' : IsRows nv' ps' rows') (v : VB rows good k) (v' : VB rows' good' k) {i8 i : Nat} {x : PN} {w : List UInt8} (hx : okP rows.length rows'.length x) {r : Res} :
    ∀ (j a i6 i7 : Nat) (m : Mem) (x6 x7 : AV) (S : List PN × List (List UInt8)), a + j = k → Rd m x6 x7 i6 i7 i8 S → S.1[i]? = some x → S.2[i]? = some w → BOk (okP rows.length rows'.length) List.length S →
    (∀ m' x6' x7' i6' i7', Rd m' x6' x7' i6' i7' i8 (bIn (nxP rows rows') extL x w j a S) →
      r07_Differ.L0 (.fptr [nv, gv]) (.fptr [nv', gv']) x6' x7' (.map i8) (.int .i64 ((i : Int) + 1)) m' KRD = some r) →
    r07_Differ.L2 (.fptr [nv, gv]) (.fptr [nv', gv']) x6 x7 (.map i8) (.int .i64 i) (.fptr (cP x)) (.int .i64 a) m KRI = some r := by
  intro j
  induction j with
  | zero =>
    intro a i6 i7 m x6 x7 S h1 R hS1 hS2 hS hk
    have e : a = k := by omega
    subst e
    have hi := (List.getElem?_eq_some_iff.1 hS1).1
    have few := pairs_few (ok := okP rows.length rows'.length) (fun x h => ⟨by have := v.n6; have := h.1; omega, by have := v'.n6; have := h.2; omega⟩) hS.nd hS.all
    have hwi : IntKind.wrap .i64 ((i : Int) + 1) = (i : Int) + 1 := wrap_id (by omega) (by omega)
    have hk := hk m x6 x7 i6 i7 R
    have i0 := hn.idx (i := 0) v.n1 .i64
    have j0 := hn.head (i := 0) v.n1
    have iw0 := hn.row 0 v.n1
    have r0 := v.rl 0 v.n1
    simp only [Int.ofNat_zero, Int.cast_ofNat_Int, List.drop_zero] at i0 j0
    rw [r07_Differ.L2_eq]
    simp [KRI, i0, j0, iw0.len, r0, hwi, hk]
    done
  | succ j ih =>
    intro a i6 i7 m x6 x7 S h1 R hS1 hS2 hS hk
    have ha : a < k := by omega
    have hi := (List.getElem?_eq_some_iff.1 hS1).1
    have hi2 := (List.getElem?_eq_some_iff.1 hS2).1
    obtain ⟨x1, x2⟩ := x
    obtain ⟨hx1, hx2⟩ := hx
    have hx1 : x1 < rows.length := hx1
    have hx2 : x2 < rows'.length := hx2
    have b := v.rl x1 hx1
    have b' := v'.rl x2 hx2
    obtain ⟨c1, c2⟩ := nx_lt v hx1 ha
    obtain ⟨c1', c2'⟩ := nx_lt v' hx2 ha
    have iw1 := hn.row x1 hx1
    have iw2 := hn'.row x2 hx2
    have hwi : IntKind.wrap .i64 ((a : Int) + 1) = (a : Int) + 1 := wrap_id (by omega) (by have := v.k3; omega)
    have ha3 : a < 3 := by have := v.k3; omega
    have d1 := iw1.idx (i := a) (by omega) .i64
    have d2 := iw2.idx (i := a) (by omega) .i64
    have e1 := ints_head (l := cth rows x1) (i := a) (by omega)
    have e2 := ints_head (l := cth rows' x2) (i := a) (by omega)
    rw [c2] at e1
    rw [c2'] at e2
    have hlt := fun m => rletter_spec ha3 m
    have i0 := hn.idx (i := 0) v.n1 .i64
    have j0 := hn.head (i := 0) v.n1
    have iw0 := hn.row 0 v.n1
    have r0 := v.rl 0 v.n1
    simp only [Int.ofNat_zero, Int.cast_ofNat_Int, List.drop_zero] at i0 j0
    have few := pairs_few (ok := okP rows.length rows'.length) (fun x h => ⟨by have := v.n6; have := h.1; omega, by have := v'.n6; have := h.2; omega⟩) hS.nd hS.all
    obtain ⟨R1, R2, R3, n1, n2, n3⟩ := R
    have t6 := R1.lt
    have t7 := R2.lt
    have t8 := R3.2
    have hm1 : Mp ⟨upd m.h (m.nx + 19) none, m.nx + 21⟩ i8 (S.1.map encP) ((S.1.map fun _ => true).map .bool) := R3.fr (updNe (by omega)) (by show i8 < m.nx + 21; omega)
    have K := keysP fl118 (okP rows.length rows'.length)
    have hy : okP rows.length rows'.length (nxP rows rows' (x1, x2) a) := ⟨c1, c1'⟩
    have l1 := hm1.look K hS.all (by simp) hy (.bool false) false
    rw [lkP_tt] at l1
    rw [bIn] at hk
    by_cases hc : nxP rows rows' (x1, x2) a ∈ S.1
    · rw [if_pos hc] at hk
      rw [if_pos hc] at l1
      simp only [encP, cP, nxP] at l1
      have st := ih (a + 1) i6 i7 ⟨upd m.h (m.nx + 19) none, m.nx + 21⟩ x6 x7 S (by omega) ⟨R1.fr (updNe (by omega)) (by show i6 < m.nx + 21; omega), R2.fr (updNe (by omega)) (by show i7 < m.nx + 21; omega), hm1, n1, n2, n3⟩ hS1 hS2 hS hk
      simp only [Int.natCast_add, Int.cast_ofNat_Int, cP] at st
      rw [r07_Differ.L2_eq]
      simp [cP, ha, i0, j0, iw0.len, r0, hn.idx hx1, hn.head hx1, hn'.idx hx2, hn'.head hx2, d1, d2, e1, e2, l1, hwi, st]
      done
    · rw [if_neg hc] at hk
      rw [if_neg hc] at l1
      simp only [encP, cP, nxP] at l1
      obtain ⟨m2, p1, p2, p3, p4⟩ := hm1.put K hS.all (by simp) hy hc true
      simp only [encP, cP, nxP] at p1
      have p3 : m2.nx = m.nx + 21 := p3
      have f : ∀ j, j < m.nx → j ≠ i8 → m2.h j = m.h j := fun j h1 h2 => by rw [p4 j h2]; exact updNe (by omega)
      have hq1 : Gl ⟨m2.h, m2.nx + 3⟩ x6 i6 2 S.1.length (flP S.1) := R1.fr (f i6 t6 n2) (by show i6 < m2.nx + 3; omega)
      obtain ⟨y6, m3, j6, g1, g2, g3, g4, g5⟩ := hq1.app (by' := 16) (ys := cP (nxP rows rows' (x1, x2) a)) rfl (by simp; omega)
      simp only at g3 g4 g5
      have f7 : m3.h i7 = m.h i7 := by rw [g5 i7 (by omega) (fun e => n1 e.symm), f i7 t7 n3]
      have hw1 : Gl ⟨m3.h, m2.nx + 16⟩ x7 i7 1 S.2.length (S.2.map .str) := R2.fr f7 (by show i7 < m2.nx + 16; omega)
      have hw2 : Gl ⟨m3.h, m2.nx + 13⟩ x7 i7 1 S.2.length (S.2.map .str) := R2.fr f7 (by show i7 < m2.nx + 13; omega)
      obtain ⟨y7, m4, j7, u1, u2, u3, u4, u5⟩ := hw2.app (by' := 16) (ys := [.str (extL w a)]) rfl (by have := hS.len; simp; omega)
      simp only at u3 u4 u5
      have hj6 : j6 < m2.nx + 13 := by rcases g4 with e | e <;> omega
      have hj67 : j6 ≠ i7 := by rcases g4 with e | e <;> omega
      have hwl : w.length ≤ 36 := by
        have h1 := hS.wl w (List.mem_of_getElem? hS2)
        have h2 := hS.len
        omega
      have hll : w.length + (ltr a).length ≤ 4611686018427387904 := by simp [ltr]; omega
      have e8 : m4.h i8 = m2.h i8 := by rw [u5 i8 (by omega) (fun e => n3 e.symm), g5 i8 (by omega) (fun e => n2 e.symm)]
      have R' : Rd ⟨m4.h, m2.nx + 16⟩ y6 y7 j6 j7 i8 (S.1 ++ [nxP rows rows' (x1, x2) a], S.2 ++ [extL w a]) := by
        refine ⟨?_, ?_, ?_, ?_, ?_, ?_⟩
        · show Gl _ _ _ _ ((S.1 ++ [nxP rows rows' (x1, x2) a]).length) (flP (S.1 ++ [nxP rows rows' (x1, x2) a]))
          rw [flP_app, List.length_append]
          exact g2.fr (u5 j6 hj6 hj67) (by show j6 < m2.nx + 16; omega)
        · show Gl _ _ _ _ ((S.2 ++ [extL w a]).length) ((S.2 ++ [extL w a]).map .str)
          rw [List.map_append, List.length_append]
          exact u2.fr rfl (by show j7 < m2.nx + 16; rcases u4 with e | e <;> omega)
        · show Mp _ _ ((S.1 ++ [nxP rows rows' (x1, x2) a]).map encP) (((S.1 ++ [nxP rows rows' (x1, x2) a]).map fun _ => true).map .bool)
          have e : (S.1 ++ [nxP rows rows' (x1, x2) a]).map (fun _ => true) = S.1.map (fun _ => true) ++ [true] := by simp
          rw [e]
          exact p2.fr e8 (by show i8 < m2.nx + 16; omega)
        · rcases u4 with e | e <;> omega
        · rcases g4 with e | e <;> omega
        · rcases u4 with e | e <;> omega
      have st := ih (a + 1) j6 j7 ⟨m4.h, m2.nx + 16⟩ y6 y7 _ (by omega) R' (by rw [List.getElem?_append_left (by omega)]; exact hS1) (by rw [List.getElem?_append_left (by omega)]; exact hS2) (bok_add hS hy hc (by
        have := hS.wl w (List.mem_of_getElem? hS2)
        simp [extL, ltr]; omega)) hk
      simp only [Int.natCast_add, Int.cast_ofNat_Int, cP] at st
      simp only [cP, nxP] at g1
      simp only [extL] at u1
      have ld := hw1.load1 hi2
      have hs2 : (S.2.map AV.str)[i]? = some (.str w) := by simp [hS2]
      rw [hs2] at ld
      have o6 := R1.oid
      have o7 := R2.oidE 1 i
      have n1' : (i6 == i7) = false := beq_eq_false_iff_ne.2 n1
      rw [r07_Differ.L2_eq]
      simp [frz_80_87, frz_82, apart2, nsl, o6, o7, n1', frzL, cP, ha, i0, j0, iw0.len, r0, hn.idx hx1, hn.head hx1, hn'.idx hx2, hn'.head hx2, d1, d2, e1, e2, l1, hwi, hlt, p1, hll, R1.one, g1, g2.one, R2.one, hw1.idx hi2, ld, u1, u2.one, st]
      done
def rresP : Option (List UInt8) → AV
  | some w => .tup [.str w, .bool true]
  | none => .tup [.str [], .bool false]
theorem rdf_out {nv gv nv' gv' : AV} {ps ps' : List AV} {rows rows' : List (List Int)} {good good' : List Bool} {k : Nat} (hn : IsRows nv ps rows) (hn' : IsRows nv' ps' rows') (hg : IsB gv good) (hg' : IsB gv' good') (v : VB rows good k) (v' : VB rows' good' k) {i8 : Nat} :
    ∀ (f i i6 i7 : Nat) (m : Mem) (x6 x7 : AV) (S : List PN × List (List UInt8)), Rd m x6 x7 i6 i7 i8 S → BOk (okP rows.length rows'.length) List.length S → i ≤ S.1.length → 36 < f + i →
    r07_Differ.L0 (.fptr [nv, gv]) (.fptr [nv', gv']) x6 x7 (.map i8) (.int .i64 i) m KRD = some (rresP (bfs (nxP rows rows') extL (stP good good') k f i S), Mem.empty) := by
  intro f
  induction f with
  | zero =>
    intro i i6 i7 m x6 x7 S R hS hi hf
    have few := pairs_few (ok := okP rows.length rows'.length) (fun x h => ⟨by have := v.n6; have := h.1; omega, by have := v'.n6; have := h.2; omega⟩) hS.nd hS.all
    omega
  | succ f ih =>
    intro i i6 i7 m x6 x7 S R hS hi hf
    by_cases c : i < S.1.length
    · have hx := List.getElem?_eq_getElem c
      have c2 : i < S.2.length := by rw [← hS.len]; exact c
      have hw := List.getElem?_eq_getElem c2
      generalize S.1[i] = x at hx
      generalize S.2[i] = w at hw
      have ok := hS.all x (List.mem_of_getElem? hx)
      rw [bfs, hx, hw]
      simp only []
      have ld := R.p.load c
      rw [flP_at hx] at ld
      obtain ⟨x1, x2⟩ := x
      obtain ⟨hx1, hx2⟩ := ok
      have hx1 : x1 < rows.length := hx1
      have hx2 : x2 < rows'.length := hx2
      have gl1 := v.gl
      have gl2 := v'.gl
      have b1 := bls_head (bs := good) (i := x1) (by omega)
      have b2 := bls_head (bs := good') (i := x2) (by omega)
      have hi0 := R.p.idx c .i64
      have hj0 := R.w.idx c2 .i64
      have t6 := R.p.lt
      have t7 := R.w.lt
      have t8 := R.k.2
      have few := pairs_few (ok := okP rows.length rows'.length) (fun x h => ⟨by have := v.n6; have := h.1; omega, by have := v'.n6; have := h.2; omega⟩) hS.nd hS.all
      have R1 : Rd ⟨upd m.h m.nx none, m.nx + 14⟩ x6 x7 i6 i7 i8 S := ⟨R.p.fr (updNe (by omega)) (by show i6 < m.nx + 14; omega), R.w.fr (updNe (by omega)) (by show i7 < m.nx + 14; omega), R.k.fr (updNe (by omega)) (by show i8 < m.nx + 14; omega), R.d1, R.d2, R.d3⟩
      have ld2 := R1.w.load1 c2
      have hs2 : (S.2.map AV.str)[i]? = some (.str w) := by simp [hw]
      rw [hs2] at ld2
      by_cases hst : stP good good' (x1, x2) = true
      · rw [if_pos hst]
        have hst' : (bnth good x1 == bnth good' x2) = false := by simpa [stP] using hst
        rw [r07_Differ.L0_eq]
        simp [R.p.len, c, hi0, ld, cP, hg.idx (i := x1) (by omega), hg'.idx (i := x2) (by omega), b1, b2, hst', hj0, ld2, rresP, -beq_eq_false_iff_ne, -beq_iff_eq]
        done
      · rw [if_neg hst]
        have hst' : (bnth good x1 == bnth good' x2) = true := by simpa [stP] using hst
        have st := rdf_in (gv := gv) (gv' := gv') hn hn' v v' (i8 := i8) (i := i) (x := (x1, x2)) (w := w) ⟨hx1, hx2⟩ k 0 i6 i7 _ x6 x7 S (by omega) R1 hx hw hS (fun m' x6' x7' i6' i7' R' => by
          obtain ⟨p', q'', e1, e2⟩ := bIn_pre (nxP rows rows') extL (x1, x2) w k 0 S
          have hS' := bIn_ok (nxP rows rows') extL (ok := okP rows.length rows'.length) (ln := List.length) (k := k) (fun y a hy ha => ⟨(nx_lt v hy.1 ha).1, (nx_lt v' hy.2 ha).1⟩) (fun w a => by simp [extL, ltr]) (x1, x2) w ⟨hx1, hx2⟩ k 0 S (by omega) hS (hS.wl w (List.mem_of_getElem? hw))
          have hlen : i < (bIn (nxP rows rows') extL (x1, x2) w k 0 S).1.length := by rw [e1]; simp; omega
          exact ih (i + 1) i6' i7' m' x6' x7' _ R' hS' (by omega) (by omega))
        simp only [cP, Int.ofNat_zero, Int.cast_ofNat_Int] at st
        rw [r07_Differ.L0_eq]
        simp [R.p.len, c, hi0, ld, cP, hg.idx (i := x1) (by omega), hg'.idx (i := x2) (by omega), b1, b2, hst', -beq_eq_false_iff_ne, -beq_iff_eq]
        exact st
    · have hx : S.1[i]? = none := List.getElem?_eq_none (by omega)
      rw [bfs, hx, r07_Differ.L0_eq]
      simp [R.p.len, c, rresP, KRD]
      done
theorem rdiffer_spec {nv gv nv' gv' : AV} {ps ps' : List AV} {rows rows' : List (List Int)} {good good' : List Bool} {k : Nat} (hn : IsRows nv ps rows) (hn' : IsRows nv' ps' rows') (hg : IsB gv good) (hg' : IsB gv' good') (v : VB rows good k) (v' : VB rows' good' k) (m : Mem) :
    denC prog ann 34 [.agg [nv, gv], .agg [nv', gv']] m = some (rresP (dfrW rows rows' good good' k), m) := by
  have ok0 : okP rows.length rows'.length (0, 0) := ⟨v.n1, v'.n1⟩
  have hm0 : Mp ⟨upd (upd (upd Mem.empty.h 1 (some (AObj.cells [AV.int IntKind.i64 0, AV.int IntKind.i64 0]))) 2 (some (AObj.cells [AV.str []]))) 3 (some (AObj.map 0 [] [])), 5⟩ 3 (([] : List PN).map encP) (([] : List Bool).map .bool) := ⟨⟨0, by simp⟩, by show 3 < 5; omega⟩
  obtain ⟨m1, p1, p2, p3, p4⟩ := hm0.put (keysP fl118 (okP rows.length rows'.length)) (by simp) rfl ok0 (by simp) true
  simp only [encP, cP, Int.ofNat_zero, Int.cast_ofNat_Int] at p1
  have p3 : m1.nx = 5 := p3
  have e1 : m1.h 1 = some (AObj.cells [AV.int IntKind.i64 0, AV.int IntKind.i64 0]) := by rw [p4 1 (by omega)]; simp
  have e2 : m1.h 2 = some (AObj.cells [AV.str []]) := by rw [p4 2 (by omega)]; simp
  have st := rdf_out hn hn' hg hg' v v' (i8 := 3) 37 0 1 2 ⟨m1.h, 10⟩ (.sl 1 2 0 1 2) (.sl 2 1 0 1 1) ([(0, 0)], [[]]) ⟨⟨⟨[], rfl, by simp [flP, cP, e1]⟩, rfl, by show 1 < 10; omega⟩, ⟨⟨[], rfl, by simp [e2]⟩, rfl, by show 2 < 10; omega⟩, p2.fr rfl (by show 3 < 10; omega), by omega, by omega, by omega⟩ (bok1 ok0) (by simp) (by omega)
  simp only [Int.ofNat_zero, Int.cast_ofNat_Int] at st
  rw [r07_Differ.call_eq _ _ _ (by simp [hn.closed, hg.closed, hn'.closed, hg'.closed])]
  simp [hn.one, hg.one, hn.closed, hg.closed, hn'.one, hg'.one, hn'.closed, hg'.closed, p1, p3]
  simp only [KRD] at st
  rw [st]
  rfl
end Go.Proofs.Ythnpflkpjimkfaa

/-
  BrandAccepts: the law answers true. Conditions: none.
-/
namespace Go.Proofs.Ythnpflkpjimkfaa
open Go.AM
open Go.Proofs.Try (prog)
set_option linter.all false
set_option maxRecDepth 100000
set_option maxHeartbeats 8000000

theorem IsRows.cells {v : AV} {ps : List AV} {rows : List (List Int)} (h : IsRows v ps rows) : v.cells = [v] := by rcases h.val with ⟨rfl, _⟩ | ⟨_, rfl⟩ <;> rfl
end Go.Proofs.Ythnpflkpjimkfaa

/-
  BrandDiffers: the law answers true. Conditions: none.
-/
namespace Go.Proofs.Ythnpflkpjimkfaa
open Go.AM
open Go.Proofs.Try (prog)
set_option linter.all false
set_option maxRecDepth 100000
set_option maxHeartbeats 8000000

theorem dfrs_runs {d : Nat} (a0 a1 : AV) (h0 : DatV prog (d + 4) 25 a0) (h1 : DatV prog (d + 4) 25 a1) : ∃ m', denC prog ann 7 [a0, a1] Mem.empty = some (.bool true, m') := by
  obtain ⟨nv, gv, ps, rows, good, rfl, hn, hg, hgl, hrl⟩ := datV25 h0
  obtain ⟨mv, fv, qs, sows, food, rfl, hn', hg', hgl', hrl'⟩ := datV25 h1
  obtain ⟨nv1, gv1, ps1, hn1, hg1, hc1⟩ := cut_spec hn hg hgl hrl
  obtain ⟨nv2, gv2, ps2, hn2, hg2, hc2⟩ := cut_spec hn' hg' hgl' hrl'
  have hl1 := cutR_len rows
  have hl2 := cutR_len sows
  have hr1 : ∀ i, i < (cutR rows).length → (cth (cutR rows) i).length ≤ 1000 := fun i hi => by have := cutR_row rows i hi; omega
  have hr2 : ∀ i, i < (cutR sows).length → (cth (cutR sows) i).length ≤ 1000 := fun i hi => by have := cutR_row sows i hi; omega
  have hg71 : (good.take 7).length ≤ 7 := by simp; omega
  have hg72 : (food.take 7).length ≤ 7 := by simp; omega
  have hcl : closedL [.agg [nv, gv], .agg [mv, fv]] = true := by simp [hn.closed, hg.closed, hn'.closed, hg'.closed]
  generalize good.take 7 = gd1 at *
  generalize food.take 7 = gd2 at *
  generalize cutR rows = R1 at *
  generalize cutR sows = R2 at *
  have ha := fun m => differ_spec hn1 hn2 hg1 hg2 (by omega) (by omega) (by omega) (by omega) hr1 hr2 m
  have hv1 := fun m => rvalid_spec hn1 hg1 (by omega) (by omega) hr1 m
  have hv2 := fun m => rvalid_spec hn2 hg2 (by omega) (by omega) hr2 m
  refine ⟨Mem.empty, ?_⟩
  rw [l07_BrandDiffers.call_eq _ _ _ hcl]
  cases c1 : validB R1 gd1 with
  | false =>
    rw [c1] at ha hv1
    simp [hn.one, hg.one, hn.closed, hg.closed, hn'.one, hg'.one, hn'.closed, hg'.closed, hc1, hc2, hn1.one, hg1.one, hn1.closed, hg1.closed, hn1.cells, hg1.cells, hn2.one, hg2.one, hn2.closed, hg2.closed, hn2.cells, hg2.cells, ha, hv1, lives_spec]
    done
  | true =>
    cases c2 : validB R2 gd2 with
    | false =>
      rw [c1, c2] at ha
      rw [c1] at hv1
      rw [c2] at hv2
      simp [hn.one, hg.one, hn.closed, hg.closed, hn'.one, hg'.one, hn'.closed, hg'.closed, hc1, hc2, hn1.one, hg1.one, hn1.closed, hg1.closed, hn1.cells, hg1.cells, hn2.one, hg2.one, hn2.closed, hg2.closed, hn2.cells, hg2.cells, ha, hv1, hv2, lives_spec]
      done
    | true =>
      rw [c1, c2] at ha
      rw [c1] at hv1
      rw [c2] at hv2
      have v := VB.of c1
      have v' := VB.of c2
      have i0 := hn1.idx (i := 0) v.n1 .i64
      have j0 := hn1.head (i := 0) v.n1
      have iw0 := hn1.row 0 v.n1
      have i0' := hn2.idx (i := 0) v'.n1 .i64
      have j0' := hn2.head (i := 0) v'.n1
      have iw0' := hn2.row 0 v'.n1
      simp only [Int.ofNat_zero, Int.cast_ofNat_Int, List.drop_zero] at i0 j0 i0' j0'
      by_cases c : (cth R1 0).length = (cth R2 0).length
      · rw [← c] at v'
        have hd := fun m => rdiffer_spec hn1 hn2 hg1 hg2 v v' m
        rw [if_pos ⟨rfl, rfl, c⟩] at ha
        cases e : dfrW R1 R2 gd1 gd2 (cth R1 0).length with
        | none =>
          rw [e] at ha hd
          simp [hn.one, hg.one, hn.closed, hg.closed, hn'.one, hg'.one, hn'.closed, hg'.closed, hc1, hc2, hn1.one, hg1.one, hn1.closed, hg1.closed, hn1.cells, hg1.cells, hn2.one, hg2.one, hn2.closed, hg2.closed, hn2.cells, hg2.cells, ha, hv1, hv2, i0, j0, i0', j0', iw0.len, iw0'.len, c, hd, resP, rresP, lives_spec]
          done
        | some w =>
          rw [e] at ha hd
          simp [hn.one, hg.one, hn.closed, hg.closed, hn'.one, hg'.one, hn'.closed, hg'.closed, hc1, hc2, hn1.one, hg1.one, hn1.closed, hg1.closed, hn1.cells, hg1.cells, hn2.one, hg2.one, hn2.closed, hg2.closed, hn2.cells, hg2.cells, ha, hv1, hv2, i0, j0, i0', j0', iw0.len, iw0'.len, c, hd, resP, rresP, lives_spec]
          done
      · rw [if_neg (fun q => c q.2.2)] at ha
        simp [hn.one, hg.one, hn.closed, hg.closed, hn'.one, hg'.one, hn'.closed, hg'.closed, hc1, hc2, hn1.one, hg1.one, hn1.closed, hg1.closed, hn1.cells, hg1.cells, hn2.one, hg2.one, hn2.closed, hg2.closed, hn2.cells, hg2.cells, ha, hv1, hv2, i0, j0, i0', j0', iw0.len, iw0'.len, c, show ¬ ((cth R1 0).length : Int) = (cth R2 0).length by omega, lives_spec]
        done
end Go.Proofs.Ythnpflkpjimkfaa
