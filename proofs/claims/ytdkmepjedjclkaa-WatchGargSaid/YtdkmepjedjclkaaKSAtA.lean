/-
  At, AND WHAT THE LAWS CALL. Conditions: none.
-/
import Derived.Test.YtdkmepjedjclkaaKLaw
import Derived.Test.YtdkmepjedjclkaaKBLawA
set_option linter.all false
namespace Go.Proofs.Ytdkmepjedjclkaa
open Go.AM
open Go.Proofs.Try (prog)
set_option linter.all false
set_option maxRecDepth 100000

/-! ### A story that was read -/
theorem okV_story {D : List Int} {N : List Note} {K : List (List (List Int))} (P : Pre D N) (I : Inv D N K) (h4 : K.length = 4) (F : ∀ h, Four (kth K h)) (few : ∀ h, (kth K h).length ≤ 6) :
    IsStory (.fptr (.int .i64 D.length :: (ints (pad D) ++ vals4 K))) D.length (pad D) K := by
  have hs : ∀ h, IsSl ints (valK K h) (kth K h) := fun h => by
    by_cases e : kth K h = []
    · exact .inl ⟨by simp [valK, e], e⟩
    · exact .inr ⟨false, by simp [valK, e]⟩
  refine ⟨⟨vals4 K, rfl, rfl, fun h hh => ?_⟩, pad_len P.L.n4, P.L.n4, P.L.n1, F, few, fun h hh => by rw [nth_pad]; exact I.rows h hh, fun h hh => by rw [nth_pad]; exact nth_out hh, fun h => by rw [nth_pad]; exact P.L.lo h⟩
  match h, hh with
  | 0, _ => exact hs 0
  | 1, _ => exact hs 1
  | 2, _ => exact hs 2
  | 3, _ => exact hs 3

theorem IsStory.closed {v : AV} {n : Nat} {D : List Int} {K : List (List (List Int))} (s : IsStory v n D K) : v.closed = true := by obtain ⟨V, rfl, _⟩ := s.V; rfl
theorem IsStory.one {v : AV} {n : Nat} {D : List Int} {K : List (List (List Int))} (s : IsStory v n D K) : v.one = true := by obtain ⟨V, rfl, _⟩ := s.V; rfl
/-- A pure function's answer does not hang on the memory. -/
theorem pure_any {f : Nat} {a : List AV} {X : Option Res} {v : AV} {m0 : Mem} (h : ∀ m, denC prog ann f a m = X.bind fun r => some (r.1, m)) (e : denC prog ann f a m0 = some (v, m0)) : ∀ m, denC prog ann f a m = some (v, m) := by
  intro m
  rw [h] at e ⊢
  obtain ⟨q, h3, h4⟩ := Option.bind_eq_some_iff.1 e
  rw [h3]
  simp at h4 ⊢
  exact h4
theorem ValidS.pre {D : List Int} {N : List Note} (v : ValidS D N) : Pre D N := ⟨v.lims, v.notes⟩
theorem Pre.valid {D : List Int} {N : List Note} (P : Pre D N) (r : Reach D N D) : ValidS D N := ⟨P.L.n1, P.L.n4, P.L.lo, P.L.hi, P.L.N24, P.notes, r⟩

/-- What read hands back: a story exactly where the tale is valid. -/
inductive IsRead (D : List Int) (N : List Note) : AV → Prop where
  | ok {sv : AV} {K : List (List (List Int))} (v : ValidS D N) (k : Clocks D N K) (s : IsStory sv D.length (pad D) K) : IsRead D N (.tup [sv, .bool true])
  | no (h : ¬ ValidS D N) : IsRead D N (.tup [.nilp, .bool false])

theorem readV_spec {v : AV} {D : List Int} {N : List Note} (hs : IsTale v D N) (hl : D.length < 100000) (hn : N.length < 100000) : ∃ r, IsRead D N r ∧ ∀ m, denC prog ann 61 [v] m = some (r, m) := by
  obtain ⟨r, h, e⟩ := read_spec hs hl hn
  refine ⟨r, ?_, e⟩
  rcases h with ⟨P, K, I, C, h4, F, few, rfl⟩ | ⟨h, rfl⟩
  · have k : Clocks D N K := ⟨P, I, C, F⟩
    cases hb : badAll K D.length 0 with
    | true =>
      refine .no fun v => ?_
      rw [good_of_reach k v.all] at hb; cases hb
    | false => exact .ok (P.valid (reach_of_good k hb)) k (okV_story P I h4 F few)
  · exact .no fun v => h v.pre

def isT (r : Option Res) : Bool := match r with
  | some (.bool b, _) => b
  | _ => false
theorem lives_run : isT (callN prog ann 3000 22 [] Mem.empty) = true := by kernel_rfl
@[simp] theorem lives_pure : (ann 22).pure = true := by kernel_rfl
theorem f22_at : prog.funcs[22]? = some Try.f22 := by kernel_rfl
theorem f22_some : Try.f22.body.isSome = true := by kernel_rfl
theorem lives_spec (m : Mem) : denC prog ann 22 [] m = some (.bool true, m) := by
  have hb : Try.f22.body = some (Try.f22.body.getD .skip) := by
    cases h : Try.f22.body with
    | none => have := f22_some; rw [h] at this; cases this
    | some b => rfl
  have e := fun m => denC_pure (P := prog) (A := ann) (f := 22) f22_at hb (by kernel_rfl) (by kernel_rfl) (show closedL [] = true from rfl) m
  have h := lives_run
  cases hr : callN prog ann 3000 22 [] Mem.empty with
  | none => rw [hr] at h; cases h
  | some r =>
    rw [hr] at h
    have h2 := denC_of_callN hr
    rw [e] at h2 ⊢
    obtain ⟨q, h3, h4⟩ := Option.bind_eq_some_iff.1 h2
    rw [h3]
    simp at h4
    subst h4
    match q, h with
    | (.bool true, _), _ => rfl

/-! ### At -/
/-- What At hands back. -/
structure AtRes (D : List Int) (N : List Note) (rank : Int) (v : AV) (e : Int) : Prop where
  bad : ¬ ValidS D N → v = .nils ∧ e = 1
  none : ValidS D N → (rank < 0 ∨ (cutsL D N).length ≤ rank) → v = .nils ∧ e = 5
  ok : ValidS D N → 0 ≤ rank → rank < (cutsL D N).length → IsInts v ((cutsL D N).getD rank.toNat []) ∧ e = 0

end Go.Proofs.Ytdkmepjedjclkaa
