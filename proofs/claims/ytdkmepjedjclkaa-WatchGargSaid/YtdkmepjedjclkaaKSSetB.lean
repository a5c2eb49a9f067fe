/-
  Possibly: WHAT IT HANDS BACK. Conditions: none.
-/
import Derived.Test.YtdkmepjedjclkaaKSSetA
set_option linter.all false
namespace Go.Proofs.Ytdkmepjedjclkaa
open Go.AM
open Go.Proofs.Try (prog)
set_option linter.all false
set_option maxRecDepth 100000
set_option maxHeartbeats 4000000

/-- Is a cut in a set? -/
def inE (E : Ents) (c : List Int) : Bool := (lkL E c).isSome
theorem inE_look {E : Ents} (hT : TrueE E) {c : List Int} : (match lkL E c with
    | some v => bif false then AV.tup [v, .bool true] else v
    | none => bif false then AV.tup [.bool false, .bool false] else .bool false) = .bool (inE E c) := by
  unfold inE
  have : ∀ (E : Ents), TrueE E → ∀ v, lkL E c = some v → v = .bool true := by
    intro E
    induction E with
    | nil => intro _ v h; cases h
    | cons e E ih =>
      intro hT v h
      rw [lkL] at h
      split at h
      · rw [← Option.some.inj h]; exact hT e (by simp)
      · exact ih (fun x hx => hT x (by simp [hx])) v h
  cases h : lkL E c with
  | none => rfl
  | some v => rw [this E hT v h]; rfl
theorem inC_spec {E : Ents} (hE : Keys4 E) (hT : TrueE E) {c : List Int} (hc : c.length = 4) (m : Mem) : denC prog ann 76 [.agg (ints c), .fptr [mapV E]] m = some (.bool (inE E c), m) := by
  have hl : ∀ m, lookP prog m 99 (.bool false) (mapV E) (.agg (ints c)) false = some (.bool (inE E c)) := fun m => by
    rw [look99 hE hc]; exact congrArg some (inE_look hT)
  rw [watch_Possibly_1.call_eq]
  have htc : (ints c).take 4 = ints c := List.take_of_length_le (by simp [hc])
  simp at htc
  simp [hc, htc, hl]

theorem ixf_loop {av : AV} {A : List (List Int)} (hav : IsSl ints av A) (hA : Four A) (hAl : A.length < 1000000) {E : Ents} (hE : Keys4 E) (hT : TrueE E) : ∀ (k i : Nat) (m : Mem), i + k = A.length →
    ∃ m', slices_IndexFunc_cut.L0 av (.fn 76 [] [.fptr [mapV E]]) (.int .i64 A.length) (.int .i64 i) m [.code slices_IndexFunc_cut.r7, .code .ret] = some (.int .i64 (match (A.drop i).findIdx? (inE E) with | some j => ((i + j : Nat) : Int) | none => -1), m') := by
  intro k
  induction k with
  | zero =>
    intro i m h1
    have e : i = A.length := by omega
    refine ⟨m, ?_⟩
    rw [slices_IndexFunc_cut.L0_eq]
    simp [e]
    done
  | succ k ih =>
    intro i m h1
    have hi : i < A.length := by omega
    have hw : IntKind.wrap .i64 ((i : Int) + 1) = (i : Int) + 1 := wrap_id (by omega) (by omega)
    have hc4 : (cth A i).length = 4 := hA _ (cth_mem hi)
    have hidx := hav.idx hA.cells hi .i64
    have hld := load_cut hA hi
    have hlA : ∀ m, loadA true 4 m (.fptr (flatC ints (A.drop i))) = some (.agg (ints (cth A i))) := fun m => by
      have := hld
      simp only [loadF, loadA, readN, cond_true] at this ⊢
      cases h : Nat.ble 4 (flatC ints (A.drop i)).length with
      | false => rw [h] at this; cases this
      | true => rw [h] at this; simpa using this
    have hin := inC_spec hE hT hc4
    have hd : A.drop i = cth A i :: A.drop (i + 1) := by
      obtain ⟨g1, g2⟩ := List.getElem?_eq_some_iff.1 (cth_eq hi)
      rw [List.drop_eq_getElem_cons g1, g2]
    obtain ⟨m', hst⟩ := ih (i + 1) m (by omega)
    simp only [Int.natCast_add, Int.cast_ofNat_Int] at hst
    have hpu : (ann 76).pure = false := by kernel_rfl
    cases q : inE E (cth A i) with
    | true =>
      refine ⟨m, ?_⟩
      rw [slices_IndexFunc_cut.L0_eq]
      rw [hd, List.findIdx?_cons, q]
      simp [hi, hidx, hlA, hin, q, hpu]
      done
    | false =>
      have hfi : (match (A.drop i).findIdx? (inE E) with | some j => ((i + j : Nat) : Int) | none => -1) = (match (A.drop (i + 1)).findIdx? (inE E) with | some j => ((i + 1 + j : Nat) : Int) | none => -1) := by
        rw [hd, List.findIdx?_cons, q]
        cases (A.drop (i + 1)).findIdx? (inE E) with
        | none => rfl
        | some j => exact congrArg _ (show i + (j + 1) = i + 1 + j by omega)
      refine ⟨m', ?_⟩
      have hst' : slices_IndexFunc_cut.L0 av (.fn 76 [] [.fptr [mapV E]]) (.int .i64 A.length) (.int .i64 ((i : Int) + 1)) m [.code slices_IndexFunc_cut.r7, .code .ret] = some (.int .i64 (match (A.drop (i + 1)).findIdx? (inE E) with | some j => ((i + 1 + j : Nat) : Int) | none => -1), m') := by
        rw [hst]
        cases (A.drop (i + 1)).findIdx? (inE E) with
        | none => rfl
        | some j => simp
      rw [hfi, ← hst', slices_IndexFunc_cut.L0_eq]
      simp [hi, hidx, hlA, hin, q, hw, hpu]
      done

theorem ixf_spec {av : AV} {A : List (List Int)} (hav : IsSl ints av A) (hA : Four A) (hAl : A.length < 1000000) {E : Ents} (hE : Keys4 E) (hT : TrueE E) (m : Mem) :
    ∃ m', denC prog ann 75 [av, .fn 76 [] [.fptr [mapV E]]] m = some (.int .i64 (match A.findIdx? (inE E) with | some j => (j : Int) | none => -1), m') := by
  obtain ⟨m', h⟩ := ixf_loop hav hA hAl hE hT A.length 0 m (by omega)
  simp only [Int.cast_ofNat_Int, Int.ofNat_zero, List.drop_zero, Nat.zero_add] at h
  refine ⟨m', ?_⟩
  rw [slices_IndexFunc_cut.call_eq]
  simp [hav.len, h]

/-- What Possibly hands back. -/
inductive PosRes (D : List Int) (N : List Note) (L : List (List Int)) : AV → Int → Prop where
  | bad (h : ¬ ValidS D N) : PosRes D N L .nils 1
  | long (v : ValidS D N) (h : 2500 < L.length) : PosRes D N L .nils 3
  | form (v : ValidS D N) (h : L.length ≤ 2500) (h2 : L.all (cutB D) = false) : PosRes D N L .nils 2
  | none (v : ValidS D N) (h : L.length ≤ 2500) (h2 : L.all (cutB D) = true) (e : (cutsL D N).find? (fun c => decide (c ∈ L)) = none) : PosRes D N L .nils 5
  | ok {x : AV} {c : List Int} (v : ValidS D N) (h : L.length ≤ 2500) (h2 : L.all (cutB D) = true) (e : (cutsL D N).find? (fun c => decide (c ∈ L)) = some c) (i : IsInts x c) : PosRes D N L x 0

theorem find_map {α β : Type} {f : α → β} {p : α → Bool} {q : β → Bool} : ∀ {A : List α}, (∀ a ∈ A, p a = q (f a)) → (A.map f).find? q = (A.find? p).map f
  | [], _ => rfl
  | a :: A, h => by
    rw [List.map_cons, List.find?_cons, List.find?_cons, h a (by simp)]
    cases q (f a) with
    | true => rfl
    | false => exact find_map fun b hb => h b (by simp [hb])
theorem find_idx {α : Type} {p : α → Bool} : ∀ {A : List α}, (∀ j, A.findIdx? p = some j → ∃ a, A[j]? = some a ∧ A.find? p = some a) ∧ (A.findIdx? p = none → A.find? p = none)
  | [] => ⟨fun j h => by simp at h, fun _ => rfl⟩
  | a :: A => by
    obtain ⟨h1, h2⟩ := find_idx (p := p) (A := A)
    rw [List.findIdx?_cons, List.find?_cons]
    cases q : p a with
    | true => exact ⟨fun j h => by simp at h; subst h; exact ⟨a, rfl, rfl⟩, fun h => by simp at h⟩
    | false =>
      refine ⟨fun j h => ?_, fun h => ?_⟩
      · simp at h
        obtain ⟨i, h, rfl⟩ := h
        obtain ⟨b, b1, b2⟩ := h1 i h
        exact ⟨b, by simpa using b1, b2⟩
      · rw [if_neg (by simp)] at h
        exact h2 (Option.map_eq_none_iff.1 h)

theorem pad_take {l : List Int} {n : Nat} (h : l.length = n) : (pad l).take n = l := by simp [pad, ← h]
theorem take_pad {n : Nat} {D c : List Int} (hn : D.length = n) (h : IsCut n (pad D) c) (h4 : n ≤ 4) : pad (c.take n) = c := by
  have hl := h.len
  refine ext_nth (by rw [pad_len (by simp; omega), hl]) fun g => ?_
  rw [nth_pad]
  rcases Nat.lt_or_ge g n with hg | hg
  · exact nth_take hg
  · rw [nth_out (by simp; omega)]
    have := h.lo g
    have := h.hi g
    rw [nth_pad, nth_out (l := D) (by omega)] at this
    omega
theorem all_cut {sv : AV} {D : List Int} {K : List (List (List Int))} (s : IsStory sv D.length (pad D) K) : ∀ c ∈ allL (pad D) K D.length, IsCut D.length (pad D) c := by
  intro c hc
  have hc' := (List.mem_filter.1 hc).1
  exact enumR_cut (n := D.length) s.pos D.length 0 [0, 0, 0, 0] ⟨rfl, fun h => by rw [show ([0, 0, 0, 0] : List Int) = List.replicate 4 0 from rfl, nth_zero']; exact Int.le_refl _, fun h => by rw [show ([0, 0, 0, 0] : List Int) = List.replicate 4 0 from rfl, nth_zero']; exact s.pos h⟩ c hc'

theorem setE_keys : ∀ {rows : List (List Int)} {E : Ents}, Keys4 E → (∀ r ∈ rows, r.length ≤ 4) → Keys4 (setE rows E)
  | [], E, h, _ => h
  | r :: rows, E, h, hr => setE_keys (rows := rows) (setL_keys4 h (pad_len (hr r (by simp)))) fun x hx => hr x (by simp [hx])
theorem setE_true : ∀ {rows : List (List Int)} {E : Ents}, TrueE E → TrueE (setE rows E)
  | [], E, h => h
  | r :: rows, E, h => setE_true (rows := rows) (setL_true h)
theorem all_cutB {D : List Int} {L : List (List Int)} (h : L.all (cutB D) = true) : ∀ r ∈ L, CutL D r := fun r hr => cutB_iff.1 (List.all_eq_true.1 h r hr)
theorem inE_set {D : List Int} {L : List (List Int)} (h4 : D.length ≤ 4) (h : L.all (cutB D) = true) {c : List Int} (hc : IsCut D.length (pad D) c) : inE (setE L []) c = decide (c.take D.length ∈ L) := by
  rw [inE, lk_setE]
  have e : c ∈ L.map pad ↔ c.take D.length ∈ L := by
    simp only [List.mem_map]
    constructor
    · rintro ⟨r, hr, rfl⟩
      rw [pad_take (all_cutB h r hr).len]; exact hr
    · intro hr
      exact ⟨_, hr, take_pad rfl hc h4⟩
  by_cases q : c.take D.length ∈ L
  · rw [if_pos (e.2 q), decide_eq_true q]; rfl
  · rw [if_neg (fun x => q (e.1 x)), decide_eq_false q]; rfl

theorem possV_spec {v vL : AV} {D : List Int} {N : List Note} {cs : List AV} {L : List (List Int)} (hs : IsTale v D N) (hl : D.length < 100000) (hn : N.length < 100000) (hL : IsVec IsInts vL cs L) (hLl : L.length < 1000000) (hw : ∀ i, i < L.length → (gth L i).length < 1000000) :
    ∃ x e, PosRes D N L x e ∧ ∀ m, denC prog ann 38 [v, vL] m = some (.tup [x, .int .i64 e], m) := by
  obtain ⟨x, y, e, hr, er⟩ := setOf_spec hs hl hn hL hLl hw
  obtain ⟨vD, vN, rfl, h1, h2⟩ := hs.ex
  have hcl : closedL [.agg [vD, vN], vL] = true := by simp [h1.closed, h2.closed, hL.closed]
  cases hr with
  | bad h =>
    refine ⟨_, _, .bad h, fun m => ?_⟩
    rw [watch_Possibly.call_eq _ _ _ hcl]
    simp [h1.one, h2.one, h1.closed, h2.closed, hL.closed, er]
    done
  | long v h =>
    refine ⟨_, _, .long v h, fun m => ?_⟩
    rw [watch_Possibly.call_eq _ _ _ hcl]
    simp [h1.one, h2.one, h1.closed, h2.closed, hL.closed, er]
    done
  | form v h h' =>
    refine ⟨_, _, .form v h h', fun m => ?_⟩
    rw [watch_Possibly.call_eq _ _ _ hcl]
    simp [h1.one, h2.one, h1.closed, h2.closed, hL.closed, er]
    done
  | @ok sv K val h h' k s =>
    have hn4 := s.n4
    obtain ⟨av, ea, ia⟩ := allV s
    have hlen := allL_len s
    have hE : Keys4 (setE L []) := setE_keys (fun e he => by cases he) fun r hr => by rw [(all_cutB h' r hr).len]; exact hn4
    have hT : TrueE (setE L []) := setE_true (fun e he => by cases he)
    have ixf := fun m => ixf_spec ia (allL_four s) (by omega) hE hT m
    have hfm := find_map (f := fun c : List Int => c.take D.length) (p := inE (setE L [])) (q := fun c => decide (c ∈ L)) (A := allL (pad D) K D.length) fun c hc => inE_set hn4 h' (all_cut s c hc)
    rw [allL_eq k] at hfm
    obtain ⟨fi1, fi2⟩ := find_idx (p := inE (setE L [])) (A := allL (pad D) K D.length)
    have hpu : (ann 75).pure = false := by kernel_rfl
    have hmc : (mapV (setE L [])).closed = true := rfl
    have hmo : (mapV (setE L [])).one = true := rfl
    have hmce : (mapV (setE L [])).cells = [mapV (setE L [])] := rfl
    cases hq : (allL (pad D) K D.length).findIdx? (inE (setE L [])) with
    | none =>
      rw [fi2 hq] at hfm
      refine ⟨_, _, .none val h h' hfm, fun m => ?_⟩
      obtain ⟨m', ix⟩ := ixf ⟨upd Mem.empty.h 0 none, 1⟩
      rw [hq] at ix
      simp only at ix
      rw [watch_Possibly.call_eq _ _ _ hcl]
      simp [h1.one, h2.one, h1.closed, h2.closed, hL.closed, er, s.closed, hmc, hmo, hmce, ea, ia.closed, ix, hpu]
      done
    | some j =>
      obtain ⟨c, c1, c2⟩ := fi1 j hq
      rw [c2] at hfm
      obtain ⟨hj, hce⟩ := List.getElem?_eq_some_iff.1 c1
      have hc4 : c.length = 4 := allL_four s c (by rw [← hce]; exact List.getElem_mem hj)
      have hcj : cth (allL (pad D) K D.length) j = c := by simp [cth, List.getD, c1]
      have hidx := ia.idx (allL_four s).cells hj .i64
      have hld := load_cut (allL_four s) hj
      rw [hcj] at hld
      have hlist := list_fix s hc4
      refine ⟨_, _, .ok val h h' hfm (.inr ⟨false, rfl⟩), fun m => ?_⟩
      obtain ⟨m', ix⟩ := ixf ⟨upd Mem.empty.h 0 none, 1⟩
      rw [hq] at ix
      simp only at ix
      have htl : (c.take D.length).length = D.length := by simp [hc4]; omega
      rw [watch_Possibly.call_eq _ _ _ hcl, htl]
      simp [h1.one, h2.one, h1.closed, h2.closed, hL.closed, er, s.closed, hmc, hmo, hmce, ea, ia.closed, ix, hpu, hidx, hld, hlist, hc4]
      done
end Go.Proofs.Ytdkmepjedjclkaa
