/-
  WHAT THE REFERENCE's SMALL FUNCTIONS COMPUTE: the order of lists, the same list. Conditions: none.
-/
import Derived.Test.YtdkmepjedjclkaaAmData
import Derived.Test.YtdkmepjedjclkaaBRefA
namespace Go.Proofs.Ytdkmepjedjclkaa
open Go.AM
open Go.Proofs.Try (prog)
set_option linter.all false
set_option maxRecDepth 10000

/-- The lexicographic order. -/
def lexLt : List Int → List Int → Bool
  | [], [] => false
  | [], _ :: _ => true
  | _ :: _, [] => false
  | a :: x, b :: y => if a = b then lexLt x y else decide (a < b)

theorem lexLt_drop {a b : List Int} {i : Nat} (h1 : i < a.length) (h2 : i < b.length) : lexLt (a.drop i) (b.drop i) = if nth a i = nth b i then lexLt (a.drop (i + 1)) (b.drop (i + 1)) else decide (nth a i < nth b i) := by
  rw [drop_nth h1, drop_nth h2]; simp [lexLt]

theorem before_loop {va vb : AV} {a b : List Int} (ha : IsInts va a) (hb : IsInts vb b) (hla : a.length < 4611686018427387904) : ∀ (n i : Nat) (m : Mem), a.length - i ≤ n → i ≤ a.length → i ≤ b.length →
    r01_Before.L0 va vb (.int .i64 i) m [.code r01_Before.r6, .code .ret] = some (.bool (lexLt (a.drop i) (b.drop i)), Mem.empty) := by
  intro n
  induction n with
  | zero =>
    intro i m hn hi hi2
    have e : i = a.length := by omega
    subst e
    rw [r01_Before.L0_eq]
    simp [ha.len, hb.len]
    rcases Nat.lt_or_ge a.length b.length with h | h
    · simp [h, drop_nth h, lexLt]
    · have e2 : a.length = b.length := by omega
      simp [e2, lexLt]
  | succ n ih =>
    intro i m hn hi hi2
    rw [r01_Before.L0_eq]
    simp [ha.len, hb.len]
    by_cases h1 : i < a.length
    · by_cases h2 : i < b.length
      · simp [ha.len, hb.len, h1, h2, ha.idx, hb.idx, ints_head]
        by_cases h3 : nth a i = nth b i
        · simp [h3]
          rw [wrap_id (by omega) (by omega)]
          have := ih (i + 1) ⟨m.h, m.nx + 9⟩ (by omega) (by omega) (by omega)
          simp at this
          rw [this, lexLt_drop h1 h2]
          simp [h3]
        · simp [h3, ha.idx, hb.idx, h1, h2, ints_head]
          rw [lexLt_drop h1 h2]
          simp [h3]
      · have e : i = b.length := by omega
        subst e
        simp [ha.len, hb.len, h1]
        have h4 : ¬ a.length < b.length := by omega
        simp [h4, drop_nth h1, lexLt]
    · have e : i = a.length := by omega
      subst e
      simp [ha.len, hb.len]
      rcases Nat.lt_or_ge a.length b.length with h | h
      · simp [h, drop_nth h, lexLt]
      · have e2 : a.length = b.length := by omega
        simp [e2, lexLt]

theorem before_spec {va vb : AV} {a b : List Int} (ha : IsInts va a) (hb : IsInts vb b) (hla : a.length < 4611686018427387904) (m : Mem) :
    denC prog ann 67 [va, vb] m = some (.bool (lexLt a b), m) := by
  rw [r01_Before.call_eq _ _ _ (by simp [ha.closed, hb.closed])]
  have := before_loop ha hb hla _ 0 Mem.empty (Nat.le_refl _) (by omega) (by omega)
  simp at this
  simp [this]

theorem lexLt_same : ∀ a b : List Int, (!lexLt a b && !lexLt b a) = decide (a = b)
  | [], [] => by simp [lexLt]
  | [], _ :: _ => by simp [lexLt]
  | _ :: _, [] => by simp [lexLt]
  | a :: x, b :: y => by
    have ih := lexLt_same x y
    by_cases h : a = b
    · subst h; simpa [lexLt] using ih
    · have h' : ¬ b = a := fun e => h e.symm
      simp only [lexLt, h, h', if_false]
      by_cases h1 : a < b
      · simp [h1, h]
      · have : b < a := by omega
        simp [this, h]

theorem same_spec {va vb : AV} {a b : List Int} (ha : IsInts va a) (hb : IsInts vb b) (hla : a.length < 4611686018427387904) (hlb : b.length < 4611686018427387904) (m : Mem) :
    denC prog ann 21 [va, vb] m = some (.bool (decide (a = b)), m) := by
  rw [r01_Same.call_eq _ _ _ (by simp [ha.closed, hb.closed])]
  simp [ha.closed, hb.closed, before_spec ha hb hla, before_spec hb ha hlb]
  have h := lexLt_same a b
  cases h1 : lexLt a b <;> cases h2 : lexLt b a <;> simp [h1, h2] at h <;> (try subst h) <;> simp [ha.closed, hb.closed, before_spec hb ha hlb, h1, h2, *]
end Go.Proofs.Ytdkmepjedjclkaa
