/-
  WHAT THE PROGRAM's FUNCTIONS ON CUTS COMPUTE. Conditions: none.
-/
import Derived.Test.YtdkmepjedjclkaaKAmG
import Derived.Test.YtdkmepjedjclkaaKWatchB
set_option linter.all false
namespace Go.Proofs.Ytdkmepjedjclkaa
open Go.AM
open Go.Proofs.Try (prog)
set_option linter.all false
set_option maxRecDepth 10000

theorem four {c : List Int} (h : c.length = 4) : ∃ a0 a1 a2 a3, c = [a0, a1, a2, a3] := by
  match c, h with
  | [a0, a1, a2, a3], _ => exact ⟨a0, a1, a2, a3, rfl⟩

def zmax (a b : List Int) : List Int := List.zipWith max a b
def zmin (a b : List Int) : List Int := List.zipWith min a b

theorem join_spec {a b : List Int} (ha : a.length = 4) (hb : b.length = 4) (m : Mem) : denC prog ann 91 [.agg (ints a), .agg (ints b)] m = some (.agg (ints (zmax a b)), m) := by
  obtain ⟨a0, a1, a2, a3, rfl⟩ := four ha
  obtain ⟨b0, b1, b2, b3, rfl⟩ := four hb
  rw [watch_join.call_eq _ _ _ (by simp)]
  simp [watch_join.L0_eq, zmax]
@[simp] theorem zmax_len {a b : List Int} (ha : a.length = 4) (hb : b.length = 4) : (zmax a b).length = 4 := by simp [zmax, ha, hb]

theorem flat99 : flatT prog 99 = some [3, 3, 3, 3] := by kernel_rfl
theorem und3 : prog.underlying 3 = some (.int .i64) := by kernel_rfl
theorem und22 : prog.underlying 22 = some (.slice 3) := by kernel_rfl
theorem eqCs_ints : ∀ (n : Nat) (a b : List Int), a.length = n → b.length = n → eqCs prog (List.replicate n 3) (ints a) (ints b) = some (decide (a = b))
  | 0, a, b, ha, hb => by
    have : a = [] := by simpa using ha
    have : b = [] := by simpa using hb
    subst a b; rfl
  | n + 1, a, b, ha, hb => by
    match a, b, ha, hb with
    | x :: a, y :: b, ha, hb =>
      have ih := eqCs_ints n a b (by simpa using ha) (by simpa using hb)
      simp only [List.replicate, ints_cons, eqCs, scV, und3, eqSc]
      by_cases h : x = y
      · subst h; simp [ih]
      · have : (x == y) = false := by simpa using h
        simp [this, h]
theorem eql99 {a b : List Int} (ha : a.length = 4) (hb : b.length = 4) : binA prog .eql 99 (.agg (ints a)) (.agg (ints b)) = some (.bool (decide (a = b))) := by
  have h := eqCs_ints 4 a b ha hb
  simp only [binA, eqT, eqA, flat99, Option.bind_some, cond_true, ints_len, ha, hb]
  simp only [List.replicate] at h
  simp [h]
theorem neq99 {a b : List Int} (ha : a.length = 4) (hb : b.length = 4) : binA prog .neq 99 (.agg (ints a)) (.agg (ints b)) = some (.bool (!decide (a = b))) := by
  have h := eql99 ha hb
  simp only [binA, eqT, cond_true] at h ⊢
  cases hq : eqA prog 99 (.agg (ints a)) (.agg (ints b)) with
  | none => rw [hq] at h; cases h
  | some q => rw [hq] at h; simp at h; simp [h]

theorem nil22 (x : Bool) (n : Nat) (cs : List AV) : binA prog .eql 22 (.fsl x n cs) .nils = some (.bool false) := by simp [binA, eqT, eqA, und22]
theorem index_loop {v : AV} {l : List (List Int)} {c : List Int} (h : IsSl ints v l) (hf : Four l) (hc : c.length = 4) (hl : l.length < 1073741824) : ∀ (n i : Nat) (m : Mem), l.length - i ≤ n → i ≤ l.length →
    slices_Index_cut.L0 v (.fptr (ints c)) (.int .i64 l.length) (.int .i64 i) m [.code slices_Index_cut.r7, .code .ret] = some (.int .i64 (match (l.drop i).findIdx? (fun d => c == d) with | some j => ((i + j : Nat) : Int) | none => -1), Mem.empty) := by
  intro n
  induction n with
  | zero =>
    intro i m h1 h2
    rw [slices_Index_cut.L0_eq]
    have e : i = l.length := by omega
    subst e
    simp
  | succ n ih =>
    intro i m h1 h2
    rw [slices_Index_cut.L0_eq]
    by_cases h3 : i < l.length
    · have hld := load_cut hf h3
      have hcc := load_ints (r := []) hc
      simp only [List.append_nil] at hcc
      simp [h3, h.idx hf.cells h3, hld, hcc, eql99 hc (hf _ (cth_mem h3))]
      rw [List.drop_eq_getElem_cons h3, List.findIdx?_cons]
      have e : l[i] = cth l i := by simp [cth, List.getD, List.getElem?_eq_getElem h3]
      rw [e]
      by_cases h4 : c = cth l i
      · simp [h4]
      · have h5 : (c == cth l i) = false := by simpa using h4
        simp [h4, h5]
        have := ih (i + 1) ⟨m.h, m.nx + 6⟩ (by omega) (by omega)
        simp at this
        rw [wrap_id (by omega) (by omega), this]
        cases hq : List.findIdx? (fun d => c == d) (List.drop (i + 1) l) with
        | none => simp
        | some j => simp; omega
    · have e : i = l.length := by omega
      subst e
      simp

theorem index_spec {v : AV} {l : List (List Int)} {c : List Int} (h : IsSl ints v l) (hf : Four l) (hc : c.length = 4) (hl : l.length < 1073741824) (m : Mem) :
    denC prog ann 81 [v, .agg (ints c)] m = some (.int .i64 (match l.findIdx? (fun d => c == d) with | some j => (j : Int) | none => -1), m) := by
  rw [slices_Index_cut.call_eq _ _ _ (by simp [h.closed])]
  have := index_loop h hf hc hl _ 0 Mem.empty (Nat.le_refl _) (by omega)
  simp at this
  simp [h.len, this]

theorem contains_spec {v : AV} {l : List (List Int)} {c : List Int} (h : IsSl ints v l) (hf : Four l) (hc : c.length = 4) (hl : l.length < 1073741824) (m : Mem) :
    denC prog ann 96 [v, .agg (ints c)] m = some (.bool (decide (c ∈ l)), m) := by
  rw [slices_Contains_cut.call_eq _ _ _ (by simp [h.closed])]
  have hcc := load_ints (r := []) hc
  simp only [List.append_nil] at hcc
  simp [hcc, h.closed, index_spec h hf hc hl]
  cases hq : List.findIdx? (fun d => c == d) l with
  | none =>
    rw [List.findIdx?_eq_none_iff] at hq
    have : c ∉ l := fun hm => by simpa using hq c hm
    simp [this]
  | some j =>
    rw [List.findIdx?_eq_some_iff_getElem] at hq
    obtain ⟨h1, h2, _⟩ := hq
    have : c ∈ l := by rw [eq_of_beq h2]; exact List.getElem_mem h1
    simp [this]
end Go.Proofs.Ytdkmepjedjclkaa

/-
  WHAT THE PROGRAM's METHODS ON STORIES COMPUTE: list, forth, consistent. Conditions: none.
-/
namespace Go.Proofs.Ytdkmepjedjclkaa
open Go.AM
open Go.Proofs.Try (prog)
set_option linter.all false
set_option maxRecDepth 10000

def vth (V : List AV) (i : Nat) : AV := V.getD i .undef
theorem vth_eq {V : List AV} {i : Nat} (h : i < V.length) : V[i]? = some (vth V i) := by
  rw [List.getElem?_eq_getElem h]; simp [vth, List.getD, List.getElem?_eq_getElem h]
theorem vth_head {V : List AV} {i : Nat} (h : i < V.length) : (V.drop i).head? = some (vth V i) := by rw [List.head?_drop, vth_eq h]
def kth (K : List (List (List Int))) (h : Nat) : List (List Int) := K.getD h []
/-- The clock of a deed (its number from 0 on). -/
abbrev clk (K : List (List (List Int))) (h i : Nat) : List Int := cth (kth K h) i

/-- A story that was read: hands, deeds, clocks. -/
structure IsStory (v : AV) (n : Nat) (D : List Int) (K : List (List (List Int))) : Prop where
  V : ∃ V, v = .fptr (.int .i64 n :: (ints D ++ V)) ∧ V.length = 4 ∧ ∀ h, h < 4 → IsSl ints (vth V h) (kth K h)
  D4 : D.length = 4
  n4 : n ≤ 4
  n1 : 1 ≤ n
  four : ∀ h, Four (kth K h)
  few : ∀ h, (kth K h).length ≤ 6
  rows : ∀ h, h < n → ((kth K h).length : Int) = nth D h
  zero : ∀ h, n ≤ h → nth D h = 0
  pos : ∀ h, 0 ≤ nth D h

/-- A cut of four numbers that fits the deeds. -/
structure IsCut (n : Nat) (D : List Int) (c : List Int) : Prop where
  len : c.length = 4
  lo : ∀ h, 0 ≤ nth c h
  hi : ∀ h, nth c h ≤ nth D h

/-- The least consistent cut that is nowhere less: from hand h on, k hands. -/
def forthR (K : List (List (List Int))) (c : List Int) : Nat → Nat → List Int → List Int
  | 0, _, out => out
  | k + 1, h, out => forthR K c k (h + 1) (if 0 < nth c h then zmax out (clk K h ((nth c h).toNat - 1)) else out)

/-- The least consistent cut that is nowhere less. -/
def forthL (K : List (List (List Int))) (n : Nat) (c : List Int) : List Int := forthR K c n 0 c

end Go.Proofs.Ytdkmepjedjclkaa

/-
  WHAT THE PROGRAM's all COMPUTES: the consistent cuts in lexicographic order. Conditions: none.
-/
namespace Go.Proofs.Ytdkmepjedjclkaa
open Go.AM
open Go.Proofs.Try (prog)
set_option linter.all false
set_option maxRecDepth 10000

/-- All cuts that begin as c does up to hand h, for k hands more. -/
def enumR (D : List Int) : Nat → Nat → List Int → List (List Int)
  | 0, _, c => [c]
  | k + 1, h, c => (List.range ((nth D h).toNat + 1)).flatMap fun (i : Nat) => enumR D k (h + 1) (c.set h (i : Int))

theorem nth_set {l : List Int} {i j : Nat} {a : Int} : nth (l.set i a) j = if i = j ∧ i < l.length then a else nth l j := by
  simp only [nth, List.getD, List.getElem?_set]
  by_cases h : i = j
  · subst h
    by_cases h2 : i < l.length
    · simp [h2]
    · simp [h2, List.getElem?_eq_none (Nat.le_of_not_lt h2)]
  · simp [h]

theorem IsCut.set {n : Nat} {D c : List Int} (hc : IsCut n D c) {h i : Nat} (hi : (i : Int) ≤ nth D h) : IsCut n D (c.set h i) := by
  refine ⟨by simp [hc.len], fun j => ?_, fun j => ?_⟩ <;> rw [nth_set] <;> split
  · omega
  · exact hc.lo j
  · rename_i h1; rw [← h1.1]; exact hi
  · exact hc.hi j

/-- Where what was found lies. -/
def OutAt (m : Mem) (acc : List (List Int)) : Option Nat → Prop
  | none => m.h 0 = some (.cells [.nils]) ∧ acc = []
  | some oid => m.h 0 = some (.cells [.sl oid 4 0 acc.length (acc.length * 4)]) ∧ m.h oid = some (.cells (flatC ints acc)) ∧ 2 ≤ oid ∧ oid < m.nx

/-- What a call of grow leaves alone (but for the object b). -/
structure Frame (b : Nat) (m m' : Mem) (o o' : Option Nat) : Prop where
  nx : m.nx ≤ m'.nx
  keep : ∀ id, id < m.nx → id ≠ 0 → id ≠ b → some id ≠ o → m'.h id = m.h id
  o : o' = o ∨ (o = none ∧ ∃ i, o' = some i ∧ m.nx ≤ i)

theorem Frame.refl (b : Nat) (m : Mem) (o : Option Nat) : Frame b m m o o := ⟨Nat.le_refl _, fun _ _ _ _ _ => rfl, .inl rfl⟩
theorem Frame.trans {x : Nat} {a b c : Mem} {o p q : Option Nat} (h : Frame x a b o p) (k : Frame x b c p q) : Frame x a c o q := by
  refine ⟨Nat.le_trans h.nx k.nx, fun id h1 h2 hx h3 => ?_, ?_⟩
  · rw [k.keep id (Nat.lt_of_lt_of_le h1 h.nx) h2 hx ?_, h.keep id h1 h2 hx h3]
    rcases h.o with e | ⟨_, i, e, hi⟩
    · rw [e]; exact h3
    · rw [e]; simp; omega
  · rcases h.o with e | ⟨e, i, e2, hi⟩
    · subst e
      rcases k.o with e | ⟨e, i, e2, hi⟩
      · exact .inl e
      · exact .inr ⟨e, i, e2, Nat.le_trans h.nx hi⟩
    · rcases k.o with e3 | ⟨e3, _⟩
      · exact .inr ⟨e, i, e3.trans e2, hi⟩
      · rw [e2] at e3; cases e3
theorem Frame.weak {b : Nat} {m m' : Mem} {o o' : Option Nat} (h : Frame m.nx m m' o o') : Frame b m m' o o' :=
  ⟨h.nx, fun id h1 h2 _ h3 => h.keep id h1 h2 (by omega) h3, h.o⟩

def growV (sv : AV) : AV := .fn 97 [] [.fptr [sv], .ptr 0 0 1, .ptr 1 0 1]

/-- All consistent cuts, in lexicographic order. -/
def allL (D : List Int) (K : List (List (List Int))) (n : Nat) : List (List Int) := (enumR D n 0 [0, 0, 0, 0]).filter fun c => decide (forthL K n c = c)

end Go.Proofs.Ytdkmepjedjclkaa
