/-
  WHAT THE PROGRAM's FUNCTIONS ON CUTS COMPUTE. Conditions: none.
-/
import Derived.Test.YtdkmepjedjclkaaKAmG
import Derived.Test.YtdkmepjedjclkaaKWatchB
set_option linter.all false
namespace Go.Proofs.Ytdkmepjedjclkaa
open Go.AM
open Go.Proofs.Try (prog)
set_option linter.all false
set_option maxRecDepth 10000

theorem four {c : List Int} (h : c.length = 4) : ∃ a0 a1 a2 a3, c = [a0, a1, a2, a3] := by
  match c, h with
  | [a0, a1, a2, a3], _ => exact ⟨a0, a1, a2, a3, rfl⟩

def zmax (a b : List Int) : List Int := List.zipWith max a b
def zmin (a b : List Int) : List Int := List.zipWith min a b

theorem join_spec {a b : List Int} (ha : a.length = 4) (hb : b.length = 4) (m : Mem) : denC prog ann 91 [.agg (ints a), .agg (ints b)] m = some (.agg (ints (zmax a b)), m) := by
  obtain ⟨a0, a1, a2, a3, rfl⟩ := four ha
  obtain ⟨b0, b1, b2, b3, rfl⟩ := four hb
  rw [watch_join.call_eq _ _ _ (by simp)]
  simp [watch_join.L0_eq, zmax]
theorem meet_spec {a b : List Int} (ha : a.length = 4) (hb : b.length = 4) (m : Mem) : denC prog ann 90 [.agg (ints a), .agg (ints b)] m = some (.agg (ints (zmin a b)), m) := by
  obtain ⟨a0, a1, a2, a3, rfl⟩ := four ha
  obtain ⟨b0, b1, b2, b3, rfl⟩ := four hb
  rw [watch_meet.call_eq _ _ _ (by simp)]
  simp [watch_meet.L0_eq, zmin]
@[simp] theorem zmax_len {a b : List Int} (ha : a.length = 4) (hb : b.length = 4) : (zmax a b).length = 4 := by simp [zmax, ha, hb]

theorem flat99 : flatT prog 99 = some [3, 3, 3, 3] := by kernel_rfl
theorem und3 : prog.underlying 3 = some (.int .i64) := by kernel_rfl
theorem und22 : prog.underlying 22 = some (.slice 3) := by kernel_rfl
theorem eqCs_ints : ∀ (n : Nat) (a b : List Int), a.length = n → b.length = n → eqCs prog (List.replicate n 3) (ints a) (ints b) = some (decide (a = b))
  | 0, a, b, ha, hb => by
    have : a = [] := by simpa using ha
    have : b = [] := by simpa using hb
    subst a b; rfl
  | n + 1, a, b, ha, hb => by
    match a, b, ha, hb with
    | x :: a, y :: b, ha, hb =>
      have ih := eqCs_ints n a b (by simpa using ha) (by simpa using hb)
      simp only [List.replicate, ints_cons, eqCs, scV, und3, eqSc]
      by_cases h : x = y
      · subst h; simp [ih]
      · have : (x == y) = false := by simpa using h
        simp [this, h]
theorem eql99 {a b : List Int} (ha : a.length = 4) (hb : b.length = 4) : binA prog .eql 99 (.agg (ints a)) (.agg (ints b)) = some (.bool (decide (a = b))) := by
  have h := eqCs_ints 4 a b ha hb
  simp only [binA, eqT, eqA, flat99, Option.bind_some, cond_true, ints_len, ha, hb]
  simp only [List.replicate] at h
  simp [h]
theorem neq99 {a b : List Int} (ha : a.length = 4) (hb : b.length = 4) : binA prog .neq 99 (.agg (ints a)) (.agg (ints b)) = some (.bool (!decide (a = b))) := by
  have h := eql99 ha hb
  simp only [binA, eqT, cond_true] at h ⊢
  cases hq : eqA prog 99 (.agg (ints a)) (.agg (ints b)) with
  | none => rw [hq] at h; cases h
  | some q => rw [hq] at h; simp at h; simp [h]

theorem nil22 (x : Bool) (n : Nat) (cs : List AV) : binA prog .eql 22 (.fsl x n cs) .nils = some (.bool false) := by simp [binA, eqT, eqA, und22]
theorem index_loop {v : AV} {l : List (List Int)} {c : List Int} (h : IsSl ints v l) (hf : Four l) (hc : c.length = 4) (hl : l.length < 1073741824) : ∀ (n i : Nat) (m : Mem), l.length - i ≤ n → i ≤ l.length →
    slices_Index_cut.L0 v (.fptr (ints c)) (.int .i64 l.length) (.int .i64 i) m [.code slices_Index_cut.r7, .code .ret] = some (.int .i64 (match (l.drop i).findIdx? (fun d => c == d) with | some j => ((i + j : Nat) : Int) | none => -1), Mem.empty) := by
  intro n
  induction n with
  | zero =>
    intro i m h1 h2
    rw [slices_Index_cut.L0_eq]
    have e : i = l.length := by omega
    subst e
    simp
  | succ n ih =>
    intro i m h1 h2
    rw [slices_Index_cut.L0_eq]
    by_cases h3 : i < l.length
    · have hld := load_cut hf h3
      have hcc := load_ints (r := []) hc
      simp only [List.append_nil] at hcc
      simp [h3, h.idx hf.cells h3, hld, hcc, eql99 hc (hf _ (cth_mem h3))]
      rw [List.drop_eq_getElem_cons h3, List.findIdx?_cons]
      have e : l[i] = cth l i := by simp [cth, List.getD, List.getElem?_eq_getElem h3]
      rw [e]
      by_cases h4 : c = cth l i
      · simp [h4]
      · have h5 : (c == cth l i) = false := by simpa using h4
        simp [h4, h5]
        have := ih (i + 1) ⟨m.h, m.nx + 6⟩ (by omega) (by omega)
        simp at this
        rw [wrap_id (by omega) (by omega), this]
        cases hq : List.findIdx? (fun d => c == d) (List.drop (i + 1) l) with
        | none => simp
        | some j => simp; omega
    · have e : i = l.length := by omega
      subst e
      simp

theorem index_spec {v : AV} {l : List (List Int)} {c : List Int} (h : IsSl ints v l) (hf : Four l) (hc : c.length = 4) (hl : l.length < 1073741824) (m : Mem) :
    denC prog ann 81 [v, .agg (ints c)] m = some (.int .i64 (match l.findIdx? (fun d => c == d) with | some j => (j : Int) | none => -1), m) := by
  rw [slices_Index_cut.call_eq _ _ _ (by simp [h.closed])]
  have := index_loop h hf hc hl _ 0 Mem.empty (Nat.le_refl _) (by omega)
  simp at this
  simp [h.len, this]

theorem contains_spec {v : AV} {l : List (List Int)} {c : List Int} (h : IsSl ints v l) (hf : Four l) (hc : c.length = 4) (hl : l.length < 1073741824) (m : Mem) :
    denC prog ann 96 [v, .agg (ints c)] m = some (.bool (decide (c ∈ l)), m) := by
  rw [slices_Contains_cut.call_eq _ _ _ (by simp [h.closed])]
  have hcc := load_ints (r := []) hc
  simp only [List.append_nil] at hcc
  simp [hcc, h.closed, index_spec h hf hc hl]
  cases hq : List.findIdx? (fun d => c == d) l with
  | none =>
    rw [List.findIdx?_eq_none_iff] at hq
    have : c ∉ l := fun hm => by simpa using hq c hm
    simp [this]
  | some j =>
    rw [List.findIdx?_eq_some_iff_getElem] at hq
    obtain ⟨h1, h2, _⟩ := hq
    have : c ∈ l := by rw [eq_of_beq h2]; exact List.getElem_mem h1
    simp [this]
end Go.Proofs.Ytdkmepjedjclkaa

/-
  WHAT THE PROGRAM's METHODS ON STORIES COMPUTE: list, forth, consistent. Conditions: none.
-/
namespace Go.Proofs.Ytdkmepjedjclkaa
open Go.AM
open Go.Proofs.Try (prog)
set_option linter.all false
set_option maxRecDepth 10000

def vth (V : List AV) (i : Nat) : AV := V.getD i .undef
theorem vth_eq {V : List AV} {i : Nat} (h : i < V.length) : V[i]? = some (vth V i) := by
  rw [List.getElem?_eq_getElem h]; simp [vth, List.getD, List.getElem?_eq_getElem h]
theorem vth_head {V : List AV} {i : Nat} (h : i < V.length) : (V.drop i).head? = some (vth V i) := by rw [List.head?_drop, vth_eq h]
def kth (K : List (List (List Int))) (h : Nat) : List (List Int) := K.getD h []
/-- The clock of a deed (its number from 0 on). -/
abbrev clk (K : List (List (List Int))) (h i : Nat) : List Int := cth (kth K h) i

/-- A story that was read: hands, deeds, clocks. -/
structure IsStory (v : AV) (n : Nat) (D : List Int) (K : List (List (List Int))) : Prop where
  V : ∃ V, v = .fptr (.int .i64 n :: (ints D ++ V)) ∧ V.length = 4 ∧ ∀ h, h < 4 → IsSl ints (vth V h) (kth K h)
  D4 : D.length = 4
  n4 : n ≤ 4
  n1 : 1 ≤ n
  four : ∀ h, Four (kth K h)
  few : ∀ h, (kth K h).length ≤ 6
  rows : ∀ h, h < n → ((kth K h).length : Int) = nth D h
  zero : ∀ h, n ≤ h → nth D h = 0
  pos : ∀ h, 0 ≤ nth D h

theorem IsStory.D6 {v : AV} {n : Nat} {D : List Int} {K : List (List (List Int))} (s : IsStory v n D K) (h : Nat) : nth D h ≤ 6 := by
  rcases Nat.lt_or_ge h n with h1 | h1
  · have := s.rows h h1; have := s.few h; omega
  · have := s.zero h h1; omega

/-- A cut of four numbers that fits the deeds. -/
structure IsCut (n : Nat) (D : List Int) (c : List Int) : Prop where
  len : c.length = 4
  lo : ∀ h, 0 ≤ nth c h
  hi : ∀ h, nth c h ≤ nth D h

/-- The least consistent cut that is nowhere less: from hand h on, k hands. -/
def forthR (K : List (List (List Int))) (c : List Int) : Nat → Nat → List Int → List Int
  | 0, _, out => out
  | k + 1, h, out => forthR K c k (h + 1) (if 0 < nth c h then zmax out (clk K h ((nth c h).toNat - 1)) else out)

theorem forth_loop {V : List AV} {n : Nat} {D : List Int} {K : List (List (List Int))} (hV : V.length = 4) (hS : ∀ h, h < 4 → IsSl ints (vth V h) (kth K h)) {v : AV} (s : IsStory v n D K) {c : List Int} (hc : IsCut n D c) : ∀ (k h : Nat) (out : List Int) (nx : Nat), h + k = n → out.length = 4 →
    watch_story_forth.L0 (.fptr (.int .i64 n :: (ints D ++ V))) (.fptr (ints c)) (.ptr 0 0 4) (.ptr 1 0 4) (.int .i64 n) (.int .i64 h) ⟨upd (upd Mem.empty.h 0 (some (.cells (ints [0, 0, 0, 0])))) 1 (some (.cells (ints out))), nx⟩ [.code watch_story_forth.r8, .code .ret] =
      some (.agg (ints (forthR K c k h out)), Mem.empty) := by
  intro k
  induction k with
  | zero =>
    intro h out nx hk ho
    have e : h = n := by omega
    subst e
    rw [watch_story_forth.L0_eq]
    have ht : out.take 4 = out := List.take_of_length_le (by omega)
    simp [forthR, ho, ht]
  | succ k ih =>
    intro h out nx hk ho
    rw [watch_story_forth.L0_eq]
    have h1 : h < n := by omega
    have hn := s.n4
    have hD := s.D4
    have hl := hc.len
    have h4 : h < c.length := by omega
    have h4' : h < 4 := by omega
    have hi := hc.hi h
    have h6 := s.D6 h
    have hr := s.rows h h1
    have ht : out.take 4 = out := List.take_of_length_le (by omega)
    have hw : IntKind.wrap .i64 ((h : Int) + 1) = (h : Int) + 1 := wrap_id (by omega) (by omega)
    simp [h1, hl, ints_head h4, h4']
    by_cases h2 : 0 < nth c h
    · have h7 : IntKind.wrap .i64 (nth c h - 1) = (((nth c h).toNat - 1 : Nat) : Int) := by rw [wrap_id (by omega) (by omega)]; omega
      have h8 : (nth c h).toNat - 1 < (kth K h).length := by omega
      have h9 : (clk K h ((nth c h).toNat - 1)).length = 4 := s.four h _ (cth_mem h8)
      have hz := zmax_len ho h9
      simp [h2, ho, hD, h4', vth_head (show h < V.length by omega), ints_head h4, h7, (hS h h4').idx (s.four h).cells h8, load_cut (s.four h) h8, ht]
      have hd : out.drop 4 = [] := List.drop_of_length_le (by omega)
      simp only [clk] at hz
      simp [join_spec ho (s.four h _ (cth_mem h8)), hw, hz, ho, hd]
      have := ih (h + 1) (zmax out (cth (kth K h) ((nth c h).toNat - 1))) (nx + 15) (by omega) hz
      simp at this
      simp [this, forthR, h2]
    · simp [h2, hw]
      have := ih (h + 1) out nx (by omega) ho
      simp at this
      simp [this, forthR, h2]

/-- The least consistent cut that is nowhere less. -/
def forthL (K : List (List (List Int))) (n : Nat) (c : List Int) : List Int := forthR K c n 0 c

theorem forth_spec {v : AV} {n : Nat} {D : List Int} {K : List (List (List Int))} (s : IsStory v n D K) {c : List Int} (hc : IsCut n D c) (m : Mem) :
    denC prog ann 70 [v, .agg (ints c)] m = some (.agg (ints (forthL K n c)), m) := by
  obtain ⟨V, rfl, hV, hS⟩ := s.V
  rw [watch_story_forth.call_eq _ _ _ (by simp)]
  have hl := hc.len
  have ht : c.take 4 = c := List.take_of_length_le (by omega)
  have := forth_loop hV hS s hc n 0 c 2 (by omega) hl
  simp at this
  simp [hl, ht, this, forthL, show c.drop 4 = [] from List.drop_of_length_le (by omega)]

theorem forthR_len {v : AV} {n : Nat} {D : List Int} {K : List (List (List Int))} (s : IsStory v n D K) {c : List Int} (hc : IsCut n D c) : ∀ (k h : Nat) (out : List Int), h + k ≤ n → out.length = 4 → (forthR K c k h out).length = 4
  | 0, _, _, _, ho => ho
  | k + 1, h, out, hk, ho => by
    refine forthR_len s hc k (h + 1) _ (by omega) ?_
    split
    · rename_i h2
      have := s.rows h (by omega); have := hc.hi h
      exact zmax_len ho (s.four h _ (cth_mem (by omega)))
    · exact ho

theorem consistent_spec {v : AV} {n : Nat} {D : List Int} {K : List (List (List Int))} (s : IsStory v n D K) {c : List Int} (hc : IsCut n D c) (m : Mem) :
    denC prog ann 72 [v, .agg (ints c)] m = some (.bool (decide (forthL K n c = c)), m) := by
  have hcl : v.closed = true := by obtain ⟨V, rfl, _⟩ := s.V; rfl
  rw [watch_story_consistent.call_eq _ _ _ (by simp [hcl])]
  have hl := hc.len
  have ht : c.take 4 = c := List.take_of_length_le (by omega)
  have h4 : (forthL K n c).length = 4 := forthR_len s hc n 0 c (by omega) hl
  simp [hl, ht, hcl, forth_spec s hc, eql99 h4 hl]
end Go.Proofs.Ytdkmepjedjclkaa

/-
  WHAT THE PROGRAM's all COMPUTES: the consistent cuts in lexicographic order. Conditions: none.
-/
namespace Go.Proofs.Ytdkmepjedjclkaa
open Go.AM
open Go.Proofs.Try (prog)
set_option linter.all false
set_option maxRecDepth 10000

/-- All cuts that begin as c does up to hand h, for k hands more. -/
def enumR (D : List Int) : Nat → Nat → List Int → List (List Int)
  | 0, _, c => [c]
  | k + 1, h, c => (List.range ((nth D h).toNat + 1)).flatMap fun (i : Nat) => enumR D k (h + 1) (c.set h (i : Int))

theorem nth_set {l : List Int} {i j : Nat} {a : Int} : nth (l.set i a) j = if i = j ∧ i < l.length then a else nth l j := by
  simp only [nth, List.getD, List.getElem?_set]
  by_cases h : i = j
  · subst h
    by_cases h2 : i < l.length
    · simp [h2]
    · simp [h2, List.getElem?_eq_none (Nat.le_of_not_lt h2)]
  · simp [h]

theorem IsCut.set {n : Nat} {D c : List Int} (hc : IsCut n D c) {h i : Nat} (hi : (i : Int) ≤ nth D h) : IsCut n D (c.set h i) := by
  refine ⟨by simp [hc.len], fun j => ?_, fun j => ?_⟩ <;> rw [nth_set] <;> split
  · omega
  · exact hc.lo j
  · rename_i h1; rw [← h1.1]; exact hi
  · exact hc.hi j

/-- Where what was found lies. -/
def OutAt (m : Mem) (acc : List (List Int)) : Option Nat → Prop
  | none => m.h 0 = some (.cells [.nils]) ∧ acc = []
  | some oid => m.h 0 = some (.cells [.sl oid 4 0 acc.length (acc.length * 4)]) ∧ m.h oid = some (.cells (flatC ints acc)) ∧ 2 ≤ oid ∧ oid < m.nx

/-- What a call of grow leaves alone (but for the object b). -/
structure Frame (b : Nat) (m m' : Mem) (o o' : Option Nat) : Prop where
  nx : m.nx ≤ m'.nx
  keep : ∀ id, id < m.nx → id ≠ 0 → id ≠ b → some id ≠ o → m'.h id = m.h id
  o : o' = o ∨ (o = none ∧ ∃ i, o' = some i ∧ m.nx ≤ i)

theorem Frame.refl (b : Nat) (m : Mem) (o : Option Nat) : Frame b m m o o := ⟨Nat.le_refl _, fun _ _ _ _ _ => rfl, .inl rfl⟩
theorem Frame.trans {x : Nat} {a b c : Mem} {o p q : Option Nat} (h : Frame x a b o p) (k : Frame x b c p q) : Frame x a c o q := by
  refine ⟨Nat.le_trans h.nx k.nx, fun id h1 h2 hx h3 => ?_, ?_⟩
  · rw [k.keep id (Nat.lt_of_lt_of_le h1 h.nx) h2 hx ?_, h.keep id h1 h2 hx h3]
    rcases h.o with e | ⟨_, i, e, hi⟩
    · rw [e]; exact h3
    · rw [e]; simp; omega
  · rcases h.o with e | ⟨e, i, e2, hi⟩
    · subst e
      rcases k.o with e | ⟨e, i, e2, hi⟩
      · exact .inl e
      · exact .inr ⟨e, i, e2, Nat.le_trans h.nx hi⟩
    · rcases k.o with e3 | ⟨e3, _⟩
      · exact .inr ⟨e, i, e3.trans e2, hi⟩
      · rw [e2] at e3; cases e3
theorem Frame.weak {b : Nat} {m m' : Mem} {o o' : Option Nat} (h : Frame m.nx m m' o o') : Frame b m m' o o' :=
  ⟨h.nx, fun id h1 h2 _ h3 => h.keep id h1 h2 (by omega) h3, h.o⟩

def growV (sv : AV) : AV := .fn 97 [] [.fptr [sv], .ptr 0 0 1, .ptr 1 0 1]

theorem enumR_cut {n : Nat} {D : List Int} (hp : ∀ h, 0 ≤ nth D h) : ∀ (k h : Nat) (c : List Int), IsCut n D c → ∀ x ∈ enumR D k h c, IsCut n D x
  | 0, h, c, hc, x, hx => by simp [enumR] at hx; subst hx; exact hc
  | k + 1, h, c, hc, x, hx => by
    simp only [enumR, List.mem_flatMap, List.mem_range] at hx
    obtain ⟨i, hi, hx⟩ := hx
    have := hp h
    exact enumR_cut hp k (h + 1) _ (hc.set (by omega)) x hx

theorem grow_spec {V : List AV} {n : Nat} {D : List Int} {K : List (List (List Int))} (hV : V.length = 4)
    (s : IsStory (.fptr (.int .i64 n :: (ints D ++ V))) n D K) : ∀ (k h : Nat) (c : List Int) (acc : List (List Int)) (o : Option Nat) (m : Mem), h + k = n → IsCut n D c → Four acc → OutAt m acc o →
      m.h 1 = some (.cells [growV (.fptr (.int .i64 n :: (ints D ++ V)))]) → 2 ≤ m.nx → acc.length + (enumR D k h c).length ≤ 1000000 →
      ∃ m' o', denC prog ann 97 [.agg (ints c), .int .i64 h, .fptr [.fptr (.int .i64 n :: (ints D ++ V))], .ptr 0 0 1, .ptr 1 0 1] m = some (.tup [], m') ∧
        OutAt m' (acc ++ (enumR D k h c).filter fun c => decide (forthL K n c = c)) o' ∧ Frame m.nx m m' o o' := by
  intro k
  induction k with
  | zero =>
    intro h c acc o m hk hc hacc ho hg hnx hb
    have e : h = n := by omega
    subst e
    rw [watch_story_all_1.call_eq]
    have hl := hc.len
    have ht : c.take 4 = c := List.take_of_length_le (by omega)
    have hsp := consistent_spec s hc Mem.empty
    have e0 : (0 == m.nx) = false := by simp; omega
    have e1 : (1 == m.nx) = false := by simp; omega
    by_cases hcons : forthL K h c = c
    · cases o with
      | none =>
        obtain ⟨h0, rfl⟩ := ho
        simp only [List.nil_append, enumR, List.filter_cons, hcons, decide_true, List.filter_nil, if_true]
        refine ⟨⟨upd (upd (upd m.h m.nx (some (.cells (ints c)))) (m.nx + 1) (some (.cells (ints c)))) 0 (some (.cells [.sl (m.nx + 1) 4 0 1 4])), m.nx + 2⟩, some (m.nx + 1), ?_, ?_, ?_⟩
        · simp [hl, ht, hsp, hcons, h0, e0, e1, show c.drop 4 = [] from List.drop_of_length_le (by omega)]
        · exact ⟨by simp, by simp [flatC_one], by omega, by simp⟩
        · exact ⟨by simp, fun id h1 h2 _ h3 => by
            have e3 : (id == m.nx) = false := by simp; omega
            have e4 : (id == m.nx + 1) = false := by simp; omega
            have e5 : (id == 0) = false := by simpa using h2
            simp [e3, e4, e5], .inr ⟨rfl, _, rfl, by omega⟩⟩
      | some oid =>
        obtain ⟨h0, h2, h3, h4⟩ := ho
        have e3 : (oid == m.nx) = false := by simp; omega
        have e6 : (oid == 0) = false := by simp; omega
        have e7 : (0 == oid) = false := by simp; omega
        have hfl : (flatC ints acc).length = acc.length * 4 := flatC_len hacc.cells
        simp only [enumR, List.filter_cons, hcons, decide_true, List.filter_nil, if_true]
        simp [enumR] at hb
        refine ⟨⟨upd (upd (upd m.h m.nx (some (.cells (ints c)))) oid (some (.cells (flatC ints (acc ++ [c]))))) 0 (some (.cells [.sl oid 4 0 (acc.length + 1) ((acc.length + 1) * 4)])), m.nx + 1⟩, some oid, ?_, ?_, ?_⟩
        · simp [hl, ht, hsp, hcons, h0, h2, e0, e1, e3, e7, hfl, show c.drop 4 = [] from List.drop_of_length_le (by omega), show acc.length ≤ 4611686018427387903 by omega, show acc.length * 32 + 32 ≤ 70368744177664 by omega, flatC_append, flatC_one, Nat.add_mul]
        · exact ⟨by simp, by simp [e6], h3, by simp; omega⟩
        · exact ⟨by simp, fun id h1 h2 _ h3 => by
            have e3 : (id == m.nx) = false := by simp; omega
            have e4 : (id == oid) = false := by simpa using h3
            have e5 : (id == 0) = false := by simpa using h2
            simp [e3, e4, e5], .inl rfl⟩
    · refine ⟨⟨upd m.h m.nx (some (.cells (ints c))), m.nx + 1⟩, o, by simp [hl, ht, hsp, hcons], ?_, ?_⟩
      · simp only [enumR, List.filter_cons, hcons, decide_false, List.filter_nil, List.append_nil]
        cases o with
        | none => exact ⟨by simpa [e0] using ho.1, by simpa using ho.2⟩
        | some oid =>
          obtain ⟨h1, h2, h3, h4⟩ := ho
          have e3 : (oid == m.nx) = false := by simp; omega
          exact ⟨by simpa [e0] using h1, by simpa [e3] using h2, h3, by simp; omega⟩
      · exact ⟨by simp, fun id h1 h2 _ h3 => by have : (id == m.nx) = false := by { simp; omega }; simp [this], .inl rfl⟩
  | succ k ih =>
    intro h c acc o m hk hc hacc ho hg hnx hb
    have hl := hc.len
    have hne : ¬ h = n := by omega
    have hne' : ¬ (h : Int) = n := by omega
    have hn := s.n4
    have hD4 := s.D4
    have hw : IntKind.wrap .i64 ((h : Int) + 1) = (h : Int) + 1 := wrap_id (by omega) (by omega)
    have dh : ((ints D ++ V).drop h).head? = some (.int .i64 (nth D h)) := by
      rw [List.head?_drop, List.getElem?_append_left (by simp; omega), ints_nth (by omega)]
    -- the loop
    have loop : ∀ (j i b : Nat) (c' : List Int) (acc : List (List Int)) (o : Option Nat) (m : Mem), i + j = (nth D h).toNat + 1 → IsCut n D c' → (∀ x : Int, c'.set h x = c.set h x) → Four acc → OutAt m acc o →
        m.h 1 = some (.cells [growV (.fptr (.int .i64 n :: (ints D ++ V)))]) → m.h b = some (.cells (ints c')) → 2 ≤ b → b < m.nx → some b ≠ o →
        acc.length + ((List.range' i j).flatMap fun (i : Nat) => enumR D k (h + 1) (c.set h (i : Int))).length ≤ 1000000 →
        ∃ m' o', watch_story_all_1.L0 (.int .i64 h) (.fptr [.fptr (.int .i64 n :: (ints D ++ V))]) (.ptr 1 0 1) (.ptr b 0 4) (.int .i64 i) m [] = some (.tup [], m') ∧
          OutAt m' (acc ++ ((List.range' i j).flatMap fun (i : Nat) => enumR D k (h + 1) (c.set h (i : Int))).filter fun c => decide (forthL K n c = c)) o' ∧ Frame b m m' o o' := by
      intro j
      induction j with
      | zero =>
        intro i b c' acc o m hij hc' hset hacc ho hg hb1 hb2 hb3 hbo hlen
        have hD := s.pos h
        refine ⟨m, o, ?_, by simpa using ho, Frame.refl _ _ _⟩
        rw [watch_story_all_1.L0_eq]
        have hni : ¬ (i : Int) ≤ nth D h := by omega
        simp [show h < 4 by omega, dh, hni]
      | succ j ihj =>
        intro i b c' acc o m hij hc' hset hacc ho hg hb1 hb2 hb3 hbo hlen
        rw [watch_story_all_1.L0_eq]
        have hni : (i : Int) ≤ nth D h := by have := s.pos h; omega
        have hbz : (b == 0) = false := by simp; omega
        have hb0 : (0 == b) = false := by simp; omega
        have hb10 : (1 == b) = false := by simp; omega
        have hl' := hc'.len
        have hcs := hc'.set (h := h) hni
        have hwi : IntKind.wrap .i64 ((i : Int) + 1) = (i : Int) + 1 := by have := s.D6 h; exact wrap_id (by omega) (by omega)
        rw [List.range'_succ, List.flatMap_cons] at hlen ⊢
        rw [List.length_append] at hlen
        -- what is written ahead of the call
        have ho1 : OutAt ⟨upd m.h b (some (.cells (ints (c'.set h i)))), m.nx⟩ acc o := by
          cases o with
          | none => exact ⟨by simpa [hb0] using ho.1, ho.2⟩
          | some oid =>
            have : (oid == b) = false := by simp; intro e; exact hbo (by rw [e])
            exact ⟨by simpa [hb0] using ho.1, by simpa [this] using ho.2.1, ho.2.2⟩
        rw [hset] at hcs ho1
        have hsl : (c.set h (i : Int)).length = 4 := by simp [hl]
        obtain ⟨m1, o1, r1, r2, r3⟩ := ih (h + 1) (c.set h i) acc o ⟨upd m.h b (some (.cells (ints (c.set h i)))), m.nx⟩ (by omega) hcs hacc ho1 (by simpa [hb10] using hg) (by simp; omega) (by omega)
        have r3' : Frame b m m1 o o1 := by
          refine ⟨r3.nx, fun id h1 h2 h3 h4 => ?_, r3.o⟩
          rw [r3.keep id h1 h2 (by simp; omega) h4]
          have : (id == b) = false := by simpa using h3
          simp [this]
        have hfo : Four (acc ++ (enumR D k (h + 1) (c.set h i)).filter fun c => decide (forthL K n c = c)) := by
          intro x hx
          rcases List.mem_append.1 hx with hx | hx
          · exact hacc x hx
          · exact (enumR_cut s.pos k (h + 1) _ hcs x (List.mem_filter.1 hx).1).len
        have g1 : m1.h 1 = some (.cells [growV (.fptr (.int .i64 n :: (ints D ++ V)))]) := by
          rw [r3.keep 1 (by simp; omega) (by omega) (by simp; omega) (by cases o with | none => simp | some oid => have := ho.2.2.1; simp; omega)]
          simpa [hb10] using hg
        have b1 : m1.h b = some (.cells (ints (c.set h i))) := by
          rw [r3.keep b hb3 (by omega) (by simp; omega) hbo]; simp
        obtain ⟨m2, o2, q1, q2, q3⟩ := ihj (i + 1) b (c.set h i) _ o1 m1 (by omega) hcs (fun x => by simp) hfo r2 g1 b1 hb2 (Nat.lt_of_lt_of_le hb3 r3.nx) (by
          rcases r3.o with e | ⟨_, x, e, hx⟩
          · rw [e]; exact hbo
          · rw [e]; simp at hx ⊢; omega) (by
          have := List.length_filter_le (fun c => decide (forthL K n c = c)) (enumR D k (h + 1) (c.set h i))
          rw [List.length_append]; omega)
        refine ⟨m2, o2, ?_, by simpa [List.append_assoc] using q2, r3'.trans q3⟩
        simp at r1 q1
        have ht4 : (c.set h (i : Int)).take 4 = c.set h i := List.take_of_length_le (by omega)
        simp [show h < 4 by omega, dh, hni, hb1, hl', hset, hsl, growV, hw, hwi, hb10, hg, ht4, r1, q1]
    rw [watch_story_all_1.call_eq]
    have hnb : (1 == m.nx) = false := by simp; omega
    have hn0 : (0 == m.nx) = false := by simp; omega
    have er : (List.range' 0 ((nth D h).toNat + 1)).flatMap (fun (i : Nat) => enumR D k (h + 1) (c.set h (i : Int))) = enumR D (k + 1) h c := by
      simp [enumR, List.range_eq_range']
    obtain ⟨m', o', l1, l2, l3⟩ := loop ((nth D h).toNat + 1) 0 m.nx c acc o ⟨upd m.h m.nx (some (.cells (ints c))), m.nx + 1⟩ (by omega) hc (fun _ => rfl) hacc (by
        cases o with
        | none => exact ⟨by simpa [hn0] using ho.1, ho.2⟩
        | some oid =>
          have := ho.2.2.2
          have e3 : (oid == m.nx) = false := by simp; omega
          exact ⟨by simpa [hn0] using ho.1, by simpa [e3] using ho.2.1, ho.2.2.1, by simp; omega⟩) (by simpa [hnb] using hg) (by simp) hnx (by simp) (by
        cases o with
        | none => simp
        | some oid => have := ho.2.2.2; simp; omega) (by rw [er]; exact hb)
    rw [er] at l2
    refine ⟨m', o', ?_, l2, ?_⟩
    · simp at l1
      simp [hne, hne', hl, l1]
    · refine ⟨by have := l3.nx; simp at this; omega, fun id h1 h2 h3 h4 => ?_, ?_⟩
      · rw [l3.keep id (by simp; omega) h2 h3 h4]
        have : (id == m.nx) = false := by simpa using h3
        simp [this]
      · rcases l3.o with e | ⟨e, x, e2, hx⟩
        · exact .inl e
        · exact .inr ⟨e, x, e2, by simp at hx; omega⟩

/-- All consistent cuts, in lexicographic order. -/
def allL (D : List Int) (K : List (List (List Int))) (n : Nat) : List (List Int) := (enumR D n 0 [0, 0, 0, 0]).filter fun c => decide (forthL K n c = c)

theorem zero_cut {v : AV} {n : Nat} {D : List Int} {K : List (List (List Int))} (s : IsStory v n D K) : IsCut n D [0, 0, 0, 0] :=
  have z : ∀ h, nth [0, 0, 0, 0] h = 0 := fun h => by
    match h with
    | 0 | 1 | 2 | 3 => rfl
    | _ + 4 => rfl
  ⟨rfl, fun h => by rw [z]; omega, fun h => by rw [z]; exact s.pos h⟩

theorem enumR_len {D : List Int} (h6 : ∀ h, nth D h ≤ 6) (hp : ∀ h, 0 ≤ nth D h) : ∀ (k h : Nat) (c : List Int), (enumR D k h c).length ≤ 7 ^ k
  | 0, _, _ => by simp [enumR]
  | k + 1, h, c => by
    have ih := fun c => enumR_len h6 hp k (h + 1) c
    have go : ∀ (l : List Nat), (l.flatMap fun (i : Nat) => enumR D k (h + 1) (c.set h (i : Int))).length ≤ l.length * 7 ^ k := by
      intro l
      induction l with
      | nil => simp
      | cons a l ihl => rw [List.flatMap_cons, List.length_append, List.length_cons, Nat.succ_mul]; have := ih (c.set h (a : Int)); omega
    have h1 := go (List.range ((nth D h).toNat + 1))
    simp only [List.length_range] at h1
    have h2 : ((nth D h).toNat + 1) * 7 ^ k ≤ 7 * 7 ^ k := Nat.mul_le_mul_right _ (by have := h6 h; omega)
    rw [Nat.pow_succ, Nat.mul_comm]
    simp only [enumR]
    omega

theorem all_spec {v : AV} {n : Nat} {D : List Int} {K : List (List (List Int))} (s : IsStory v n D K) (m : Mem) :
    ∃ v', denC prog ann 62 [v] m = some (v', m) ∧ IsSl ints v' (allL D K n) := by
  have s' := s
  obtain ⟨V, rfl, hV, hS⟩ := s.V
  have hlen : (enumR D n 0 [0, 0, 0, 0]).length ≤ 1000000 := by
    have h1 := enumR_len s.D6 s.pos n 0 [0, 0, 0, 0]
    have h2 : 7 ^ n ≤ 7 ^ 4 := Nat.pow_le_pow_right (by omega) s.n4
    omega
  obtain ⟨m', o', g1, g2, g3⟩ := grow_spec hV s n 0 [0, 0, 0, 0] [] none ⟨upd (upd Mem.empty.h 0 (some (.cells [.nils]))) 1 (some (.cells [growV (.fptr (.int .i64 n :: (ints D ++ V)))])), 2⟩ (by omega) (zero_cut s') (fun _ h => by cases h) ⟨by simp, rfl⟩ (by simp) (by simp) (by simpa using hlen)
  rw [watch_story_all.call_eq _ _ (by simp)]
  simp [growV] at g1
  have hf : Four (allL D K n) := fun x hx => (enumR_cut s.pos n 0 _ (zero_cut s') x (List.mem_filter.1 hx).1).len
  cases o' with
  | none =>
    refine ⟨.nils, ?_, .inl ⟨rfl, by simpa [allL] using g2.2⟩⟩
    simp [g1, g2.1]
  | some oid =>
    obtain ⟨h0, h2, h3, h4⟩ := g2
    simp only [List.nil_append] at h0 h2
    have e : (enumR D n 0 [0, 0, 0, 0]).filter (fun c => decide (forthL K n c = c)) = allL D K n := rfl
    rw [e] at h0 h2
    have hfl : (flatC ints (allL D K n)).length = (allL D K n).length * 4 := flatC_len hf.cells
    have hd := flatC_deep m'.h 4 (f := ints) (fun a => mapO_ints m'.h 4 a) (allL D K n)
    have ht : (flatC ints (allL D K n)).take ((allL D K n).length * 4) = flatC ints (allL D K n) := List.take_of_length_le (by omega)
    refine ⟨.fsl false (allL D K n).length (flatC ints (allL D K n)), ?_, IsSl.fsl _ _⟩
    simp [g1, h0, h2, hfl, ht, hd]

theorem allL_four {v : AV} {n : Nat} {D : List Int} {K : List (List (List Int))} (s : IsStory v n D K) : Four (allL D K n) :=
  fun x hx => (enumR_cut s.pos n 0 _ (zero_cut s) x (List.mem_filter.1 hx).1).len
theorem allL_len {v : AV} {n : Nat} {D : List Int} {K : List (List (List Int))} (s : IsStory v n D K) : (allL D K n).length ≤ 2401 := by
  have h1 := enumR_len s.D6 s.pos n 0 [0, 0, 0, 0]
  have h2 : 7 ^ n ≤ 7 ^ 4 := Nat.pow_le_pow_right (by omega) s.n4
  have h3 : (allL D K n).length ≤ _ := List.length_filter_le _ _
  omega
end Go.Proofs.Ytdkmepjedjclkaa
