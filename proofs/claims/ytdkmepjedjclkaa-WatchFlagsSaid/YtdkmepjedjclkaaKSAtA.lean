/-
  At, AND WHAT THE LAWS CALL. Conditions: none.
-/
import Derived.Test.YtdkmepjedjclkaaKLaw
import Derived.Test.YtdkmepjedjclkaaKBLawA
set_option linter.all false
namespace Go.Proofs.Ytdkmepjedjclkaa
open Go.AM
open Go.Proofs.Try (prog)
set_option linter.all false
set_option maxRecDepth 100000

/-! ### A story that was read -/
theorem okV_story {D : List Int} {N : List Note} {K : List (List (List Int))} (P : Pre D N) (I : Inv D N K) (h4 : K.length = 4) (F : ∀ h, Four (kth K h)) (few : ∀ h, (kth K h).length ≤ 6) :
    IsStory (.fptr (.int .i64 D.length :: (ints (pad D) ++ vals4 K))) D.length (pad D) K := by
  have hs : ∀ h, IsSl ints (valK K h) (kth K h) := fun h => by
    by_cases e : kth K h = []
    · exact .inl ⟨by simp [valK, e], e⟩
    · exact .inr ⟨false, by simp [valK, e]⟩
  refine ⟨⟨vals4 K, rfl, rfl, fun h hh => ?_⟩, pad_len P.L.n4, P.L.n4, P.L.n1, F, few, fun h hh => by rw [nth_pad]; exact I.rows h hh, fun h hh => by rw [nth_pad]; exact nth_out hh, fun h => by rw [nth_pad]; exact P.L.lo h⟩
  match h, hh with
  | 0, _ => exact hs 0
  | 1, _ => exact hs 1
  | 2, _ => exact hs 2
  | 3, _ => exact hs 3

theorem IsStory.closed {v : AV} {n : Nat} {D : List Int} {K : List (List (List Int))} (s : IsStory v n D K) : v.closed = true := by obtain ⟨V, rfl, _⟩ := s.V; rfl
theorem IsStory.one {v : AV} {n : Nat} {D : List Int} {K : List (List (List Int))} (s : IsStory v n D K) : v.one = true := by obtain ⟨V, rfl, _⟩ := s.V; rfl
/-- A pure function's answer does not hang on the memory. -/
theorem pure_any {f : Nat} {a : List AV} {X : Option Res} {v : AV} {m0 : Mem} (h : ∀ m, denC prog ann f a m = X.bind fun r => some (r.1, m)) (e : denC prog ann f a m0 = some (v, m0)) : ∀ m, denC prog ann f a m = some (v, m) := by
  intro m
  rw [h] at e ⊢
  obtain ⟨q, h3, h4⟩ := Option.bind_eq_some_iff.1 e
  rw [h3]
  simp at h4 ⊢
  exact h4
theorem ValidS.pre {D : List Int} {N : List Note} (v : ValidS D N) : Pre D N := ⟨v.lims, v.notes⟩
theorem Pre.valid {D : List Int} {N : List Note} (P : Pre D N) (r : Reach D N D) : ValidS D N := ⟨P.L.n1, P.L.n4, P.L.lo, P.L.hi, P.L.N24, P.notes, r⟩

/-- What read hands back: a story exactly where the tale is valid. -/
inductive IsRead (D : List Int) (N : List Note) : AV → Prop where
  | ok {sv : AV} {K : List (List (List Int))} (v : ValidS D N) (k : Clocks D N K) (s : IsStory sv D.length (pad D) K) : IsRead D N (.tup [sv, .bool true])
  | no (h : ¬ ValidS D N) : IsRead D N (.tup [.nilp, .bool false])

theorem readV_spec {v : AV} {D : List Int} {N : List Note} (hs : IsTale v D N) (hl : D.length < 100000) (hn : N.length < 100000) : ∃ r, IsRead D N r ∧ ∀ m, denC prog ann 61 [v] m = some (r, m) := by
  obtain ⟨r, h, e⟩ := read_spec hs hl hn
  refine ⟨r, ?_, e⟩
  rcases h with ⟨P, K, I, C, h4, F, few, rfl⟩ | ⟨h, rfl⟩
  · have k : Clocks D N K := ⟨P, I, C, F⟩
    cases hb : badAll K D.length 0 with
    | true =>
      refine .no fun v => ?_
      rw [good_of_reach k v.all] at hb; cases hb
    | false => exact .ok (P.valid (reach_of_good k hb)) k (okV_story P I h4 F few)
  · exact .no fun v => h v.pre

/-! ### What the laws call -/
theorem app_ints {v : AV} {l : List Int} (h : IsInts v l) (hl : l.length ≤ 1000000) : ∃ v', appV 1 8 (.fsl true 0 []) v = some v' ∧ IsInts v' l := by
  rcases h with ⟨rfl, rfl⟩ | ⟨ex, rfl⟩
  · exact ⟨_, appV_nothing 1 8 (by omega), .inr ⟨true, rfl⟩⟩
  · obtain ⟨e, h⟩ := appV_some (size := 1) (by' := 8) (n := l.length) (ex := ex) (cs := ints l) (by omega) (by simp) (by simp) (by simp [room]; omega)
    exact ⟨_, h, .inr ⟨e, rfl⟩⟩
theorem app_sl {α : Type} {f : α → List AV} {k b : Nat} {v : AV} {l : List α} (h : IsSl f v l) (hf : ∀ a, (f a).length = k) (hc : ∀ a, closedL (f a) = true) (hk : k ≠ 0) (hb : b ≤ 1000) (hl : l.length ≤ 1000000) : ∃ v', appV k b (.fsl true 0 []) v = some v' ∧ IsSl f v' l := by
  rcases h with ⟨rfl, rfl⟩ | ⟨ex, rfl⟩
  · exact ⟨_, appV_nothing k b hk, .inr ⟨true, rfl⟩⟩
  · have : l.length * b ≤ 1000000 * 1000 := Nat.mul_le_mul hl hb
    obtain ⟨e, h⟩ := appV_some (size := k) (by' := b) (n := l.length) (ex := ex) (cs := flatC f l) hk (flatC_len fun a _ => hf a) (flatC_closedL hc l) (by simp [room]; omega)
    exact ⟨_, h, .inr ⟨e, rfl⟩⟩
theorem slice_ints {v : AV} {l : List Int} (h : IsInts v l) {j : Int} (h0 : 0 ≤ j) (h1 : j ≤ l.length) : ∃ v', sliceSl 1 v none (some (.int .i64 j)) = some v' ∧ IsInts v' (l.take j.toNat) := by
  rcases h with ⟨rfl, rfl⟩ | ⟨ex, rfl⟩
  · have : j = 0 := by simp at h1; omega
    subst this
    exact ⟨.nils, by simp [sliceSl, bnds, bnd], .inl ⟨rfl, by simp⟩⟩
  · refine ⟨.fsl (ex && j.toNat == l.length) j.toNat (ints (l.take j.toNat)), by simp [sliceSl, bnds, bnd, h0, h1], .inr ⟨ex && j.toNat == l.length, by simp [show min j.toNat l.length = j.toNat by omega]⟩⟩
theorem slice_sl {α : Type} {f : α → List AV} {k : Nat} {v : AV} {l : List α} (h : IsSl f v l) (hf : ∀ a, (f a).length = k) {j : Int} (h0 : 0 ≤ j) (h1 : j ≤ l.length) : ∃ v', sliceSl k v none (some (.int .i64 j)) = some v' ∧ IsSl f v' (l.take j.toNat) := by
  rcases h with ⟨rfl, rfl⟩ | ⟨ex, rfl⟩
  · have : j = 0 := by simp at h1; omega
    subst this
    exact ⟨.nils, by simp [sliceSl, bnds, bnd], .inl ⟨rfl, by simp⟩⟩
  · refine ⟨.fsl (ex && j.toNat == l.length) j.toNat (flatC f (l.take j.toNat)), ?_, .inr ⟨ex && j.toNat == l.length, by simp [show min j.toNat l.length = j.toNat by omega]⟩⟩
    simp [sliceSl, bnds, bnd, h0, h1, flatC_take j.toNat (fun a _ => hf a)]
theorem take_min {α : Type} (l : List α) (n : Nat) : l.take (min (l.length : Int) n).toNat = l.take n := by
  rcases Nat.le_total l.length n with h | h
  · rw [List.take_of_length_le h, List.take_of_length_le (by omega)]
  · rw [show (min (l.length : Int) n).toNat = n by omega]

theorem cut_spec {v : AV} {D : List Int} {N : List Note} (hs : IsTale v D N) (hD : (D.length : Int) ≤ 9223372036854775807) (hN : (N.length : Int) ≤ 9223372036854775807) :
    ∃ v', IsTale v' (D.take 5) (N.take 25) ∧ ∀ m, denC prog ann 17 [v] m = some (v', m) := by
  obtain ⟨vD, vN, rfl, h1, h2⟩ := hs.ex
  obtain ⟨w1, a1, a2⟩ := slice_ints h1 (j := min (D.length : Int) 5) (by omega) (by omega)
  obtain ⟨w2, b1, b2⟩ := slice_sl (k := 4) h2 (fun _ => rfl) (j := min (N.length : Int) 25) (by omega) (by omega)
  have e1 := take_min D 5
  have e2 := take_min N 25
  simp only [Int.cast_ofNat_Int] at e1 e2
  rw [e1] at a2
  rw [e2] at b2
  obtain ⟨x1, c1, c2⟩ := app_ints a2 (by simp; omega)
  obtain ⟨x2, d1, d2⟩ := app_sl (k := 4) (b := 32) b2 (fun _ => rfl) (fun _ => rfl) (by omega) (by omega) (by simp; omega)
  refine ⟨.agg [x1, x2], ⟨x1, x2, rfl, c2, d2⟩, fun m => ?_⟩
  rw [l09_cut.call_eq _ _ (by simp [h1.closed, h2.closed])]
  simp [h1.one, h2.one, h1.closed, h2.closed, h1.len, h2.len, a1, b1, c1, d1, c2.one, d2.one, c2.cells, d2.cells, c2.closed, d2.closed, c2.deep, d2.deep]
  done

def isT (r : Option Res) : Bool := match r with
  | some (.bool b, _) => b
  | _ => false
theorem lives_run : isT (callN prog ann 3000 22 [] Mem.empty) = true := by kernel_rfl
@[simp] theorem lives_pure : (ann 22).pure = true := by kernel_rfl
theorem f22_at : prog.funcs[22]? = some Try.f22 := by kernel_rfl
theorem f22_some : Try.f22.body.isSome = true := by kernel_rfl
theorem lives_spec (m : Mem) : denC prog ann 22 [] m = some (.bool true, m) := by
  have hb : Try.f22.body = some (Try.f22.body.getD .skip) := by
    cases h : Try.f22.body with
    | none => have := f22_some; rw [h] at this; cases this
    | some b => rfl
  have e := fun m => denC_pure (P := prog) (A := ann) (f := 22) f22_at hb (by kernel_rfl) (by kernel_rfl) (show closedL [] = true from rfl) m
  have h := lives_run
  cases hr : callN prog ann 3000 22 [] Mem.empty with
  | none => rw [hr] at h; cases h
  | some r =>
    rw [hr] at h
    have h2 := denC_of_callN hr
    rw [e] at h2 ⊢
    obtain ⟨q, h3, h4⟩ := Option.bind_eq_some_iff.1 h2
    rw [h3]
    simp at h4
    subst h4
    match q, h with
    | (.bool true, _), _ => rfl

/-! ### At -/
/-- What At hands back. -/
structure AtRes (D : List Int) (N : List Note) (rank : Int) (v : AV) (e : Int) : Prop where
  bad : ¬ ValidS D N → v = .nils ∧ e = 1
  none : ValidS D N → (rank < 0 ∨ (cutsL D N).length ≤ rank) → v = .nils ∧ e = 5
  ok : ValidS D N → 0 ≤ rank → rank < (cutsL D N).length → IsInts v ((cutsL D N).getD rank.toNat []) ∧ e = 0

end Go.Proofs.Ytdkmepjedjclkaa
