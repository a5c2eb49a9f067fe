/-
  THE ABSTRACT MACHINE, STEP BY STEP AS EQUATIONS: regions as lists of small operations with plain values, and the equations by which 'simp' runs them. Conditions: none.
-/
import Derived.Test.YtdkmepjedjclkaaAmDen
namespace Go.AM

/-! ### Finding the parts of a body -/

/-- All parts of a code, outermost first. -/
def parts : Code → List Code
  | .seq a b => .seq a b :: (parts a ++ parts b)
  | .cond c a b => .cond c a b :: (parts a ++ parts b)
  | .block id b => .block id b :: parts b
  | .loop b => .loop b :: parts b
  | .scope b => .scope b :: parts b
  | c => [c]

def isReg (n : Nat) : Code → Bool
  | .region id _ _ => id == n
  | _ => false
def isBlk (n : Nat) : Code → Bool
  | .block id _ => id == n
  | _ => false
def isCond : Code → Bool
  | .cond _ _ _ => true
  | _ => false

def findReg (c : Code) (n : Nat) : Code := ((parts c).find? (isReg n)).getD .skip
def findBlk (c : Code) (n : Nat) : Code := ((parts c).find? (isBlk n)).getD .skip
def findCond (c : Code) (n : Nat) : Code := (((parts c).filter isCond)[n]?).getD .skip
def loopOf : Code → Code
  | .block _ (.loop b) => b
  | _ => .skip
def blkOf : Code → Code
  | .block _ b => b
  | _ => .skip
def thenOf : Code → Code
  | .cond _ a _ => a
  | _ => .skip
def elseOf : Code → Code
  | .cond _ _ b => b
  | _ => .skip

/-- The steps of a sequence. -/
def flat : Code → List Code
  | .seq a b => flat a ++ flat b
  | .skip => []
  | .label _ => []
  | c => [c]

def codes (l : List Code) (K : List Item) : List Item := l.map .code ++ K

/-- All codes that are still to be run, step by step. -/
def norm : List Item → List Item
  | [] => []
  | .code c :: K => codes (flat c) (norm K)
  | .inBlock i :: K => .inBlock i :: norm K
  | .inLoop c :: K => .inLoop c :: norm K
  | x :: K => x :: norm K

def isReal : Code → Bool
  | .seq _ _ | .skip | .label _ => false
  | _ => true

theorem flat_real : ∀ (c : Code), isReal c = true → flat c = [c] := by
  intro c h; cases c <;> first | rfl | cases h

theorem flat_mem : ∀ (c x : Code), x ∈ flat c → isReal x = true
  | .seq a b, x, h => by
    simp only [flat, List.mem_append] at h
    exact h.elim (flat_mem a x) (flat_mem b x)
  | .skip, x, h => by simp [flat] at h
  | .label _, x, h => by simp [flat] at h
  | .region .., x, h => by simp [flat] at h; subst h; rfl
  | .cond .., x, h => by simp [flat] at h; subst h; rfl
  | .block .., x, h => by simp [flat] at h; subst h; rfl
  | .loop .., x, h => by simp [flat] at h; subst h; rfl
  | .rangeFunc .., x, h => by simp [flat] at h; subst h; rfl
  | .exit .., x, h => by simp [flat] at h; subst h; rfl
  | .scope .., x, h => by simp [flat] at h; subst h; rfl
  | .goto .., x, h => by simp [flat] at h; subst h; rfl
  | .ret, x, h => by simp [flat] at h; subst h; rfl
  | .refuse .., x, h => by simp [flat] at h; subst h; rfl

theorem norm_codes_real : ∀ (l : List Code) (K : List Item), (∀ x ∈ l, isReal x = true) → norm (codes l K) = codes l (norm K)
  | [], K, _ => rfl
  | c :: l, K, h => by
    show codes (flat c) (norm (codes l K)) = _
    rw [flat_real c (h c (by simp)), norm_codes_real l K (fun x hx => h x (by simp [hx]))]
    rfl

theorem norm_code (c : Code) (K : List Item) : norm (.code c :: K) = norm (codes (flat c) K) := by
  rw [norm_codes_real _ _ (flat_mem c)]; rfl

theorem exitTo_codes (id : Nat) : ∀ (l : List Code) (K : List Item), exitTo id (codes l K) = exitTo id K
  | [], _ => rfl
  | c :: l, K => by show exitTo id (.code c :: codes l K) = _; rw [exitTo, exitTo_codes id l K]; simp

theorem exitTo_norm (id : Nat) : ∀ (K : List Item), exitTo id (norm K) = (exitTo id K).map norm
  | [] => rfl
  | x :: K => by
    cases x
    case inBlock i =>
      simp only [norm, exitTo]
      by_cases h : (i == id) = true
      · simp [h]
      · simp only [h]; exact exitTo_norm id K
    case code c => simp only [norm, exitTo_codes]; rw [exitTo_norm id K]; rfl
    all_goals simp only [norm, exitTo]; exact exitTo_norm id K

def wt : Code → Nat
  | .seq a b => wt a + wt b + 1
  | _ => 1
def wts : List Item → Nat
  | [] => 0
  | .code c :: K => wt c + wts K
  | _ :: K => wts K
theorem wt_pos (c : Code) : 0 < wt c := by cases c <;> simp [wt]

section
variable {P : Program} {A : Ann} {f : FuncId} {fn : Func}

theorem den_seq (hf : P.funcs[f]? = some fn) (a b : Code) (K : List Item) (s : St) : den P A f (.code (.seq a b) :: K) s = den P A f (.code a :: .code b :: K) s := by
  rw [den_eq, hf]; rfl
theorem den_skip (hf : P.funcs[f]? = some fn) (K : List Item) (s : St) : den P A f (.code .skip :: K) s = den P A f K s := by
  rw [den_eq, hf]; rfl
theorem den_label (hf : P.funcs[f]? = some fn) (l : Nat) (K : List Item) (s : St) : den P A f (.code (.label l) :: K) s = den P A f K s := by
  rw [den_eq, hf]; rfl

def sel {α : Type} (x y : α) : Nat → α
  | 0 => x
  | _ + 1 => y

theorem tends_sel {R : Type} {x y : Option R} (h : ∀ r, x = some r → y = some r) : Tends (sel x y) y := by
  refine ⟨fun n r hr => ?_, fun r => ⟨fun hr => ⟨1, hr⟩, fun ⟨n, hr⟩ => ?_⟩⟩
  · cases n with
    | zero => exact h r hr
    | succ n => exact hr
  · cases n with
    | zero => exact h r hr
    | succ n => exact hr

theorem codes_ne {l : List Code} {K : List Item} {x : Item} {L : List Item} (h : codes l K = x :: L) (hn : ∀ c, x ≠ .code c) : l = [] := by
  cases l with
  | nil => rfl
  | cons c l => exact absurd (by cases h; rfl) (hn c)

/-- The first true step comes to the head. -/
theorem expose (hf : P.funcs[f]? = some fn) : ∀ (n : Nat) (K : List Item) (x : Item) (L : List Item) (s : St), wts K ≤ n → norm K = x :: L → (∀ c, x = .code c → isReal c = true) →
    ∃ K', den P A f K s = den P A f (x :: K') s ∧ norm K' = L := by
  intro n
  induction n with
  | zero =>
    intro K x L s h hk hr
    cases K with
    | nil => simp [norm] at hk
    | cons y K =>
      cases y
      case code c => have := wt_pos c; simp [wts] at h; omega
      all_goals
        simp only [norm, List.cons.injEq] at hk
        obtain ⟨rfl, hk⟩ := hk
        exact ⟨K, rfl, hk⟩
  | succ n ih =>
    intro K x L s h hk hr
    cases K with
    | nil => simp [norm] at hk
    | cons y K =>
      cases y
      case code c =>
        cases hc : isReal c with
        | true =>
          simp only [norm, flat_real c hc, codes, List.map, List.cons_append, List.nil_append, List.cons.injEq] at hk
          obtain ⟨rfl, hk⟩ := hk
          exact ⟨K, rfl, hk⟩
        | false =>
          cases c <;> simp [isReal] at hc
          case seq a b =>
            rw [den_seq hf]
            exact ih _ x L s (by simp [wts, wt] at h ⊢; omega) (by rw [← hk]; simp [norm, flat, codes]) hr
          case skip =>
            rw [den_skip hf]
            exact ih _ x L s (by simp [wts, wt] at h ⊢; omega) (by rw [← hk]; simp [norm, flat, codes]) hr
          case label l =>
            rw [den_label hf]
            exact ih _ x L s (by simp [wts, wt] at h ⊢; omega) (by rw [← hk]; simp [norm, flat, codes]) hr
      all_goals
        simp only [norm, List.cons.injEq] at hk
        obtain ⟨rfl, hk⟩ := hk
        exact ⟨K, rfl, hk⟩

theorem opsA_mono {R : Type} {P : Program} {pf : FuncId → Bool} {c c' : CallF} (h : ∀ g a m r, c g a m = some r → c' g a m = some r) (md : Nat → Nat) (ops : Array Oper) (b : Option Nat) {k k' : St → Option R} (hk : ∀ s r, k s = some r → k' s = some r) (l : List Oper) (i : Nat) (s : St) {r : R}
    (hr : opsA P pf c md ops b i l s k = some r) : opsA P pf c' md ops b i l s k' = some r := by
  have e1 : ∀ g a m, (fun n => sel c c' n g a m) = sel (c g a m) (c' g a m) := by intro g a m; funext n; cases n <;> rfl
  have e2 : ∀ s, (fun n => sel k k' n s) = sel (k s) (k' s) := by intro s; funext n; cases n <;> rfl
  have := (tends_opsA (P := P) (pf := pf) (C := sel c c') (c := c') (fun g a m => by rw [e1]; exact tends_sel (h g a m)) md ops b (K := sel k k') (k := k') (fun s => by rw [e2]; exact tends_sel (hk s)) l i s).2 r
  exact this.2 ⟨0, hr⟩

theorem denC_of_callN {g : FuncId} {a : List AV} {m : Mem} {n : Nat} {r : Res} (h : callN P A n g a m = some r) : denC P A g a m = some r := ((tends_denC g a m).2 r).2 ⟨n, h⟩
theorem den_of_runA {K : List Item} {s : St} {n : Nat} {r : Res} (h : runA P A n f K s = some r) : den P A f K s = some r := ((tends_den f K s).2 r).2 ⟨n, h⟩

theorem norm_run (hf : P.funcs[f]? = some fn) : ∀ (n : Nat) (K K' : List Item) (s : St) (r : Res), norm K = norm K' → runA P A n f K s = some r → den P A f K' s = some r
  | 0, _, _, _, _, _, h => by simp [runA] at h
  | n + 1, K, K', s, r, hn, h => by
    rw [runA, hf] at h
    simp only [Option.bind_some] at h
    have ih := norm_run hf n
    cases K with
    | nil =>
      -- nothing is left: K' has no true step either
      have : ∀ (m : Nat) (K' : List Item) (s : St), wts K' ≤ m → norm K' = [] → den P A f K' s = den P A f [] s := by
        intro m
        induction m with
        | zero =>
          intro K' s h hk
          cases K' with
          | nil => rfl
          | cons y K' =>
            cases y
            case code c => have := wt_pos c; simp [wts] at h; omega
            all_goals simp [norm] at hk
        | succ m ihm =>
          intro K' s h hk
          cases K' with
          | nil => rfl
          | cons y K' =>
            cases y
            case code c =>
              cases hc : isReal c with
              | true => simp [norm, flat_real c hc, codes] at hk
              | false =>
                cases c <;> simp [isReal] at hc
                case seq a b => rw [den_seq hf]; exact ihm _ s (by simp [wts, wt] at h ⊢; omega) (by rw [← hk]; simp [norm, flat, codes])
                case skip => rw [den_skip hf]; exact ihm _ s (by simp [wts, wt] at h ⊢; omega) (by rw [← hk]; simp [norm, flat, codes])
                case label l => rw [den_label hf]; exact ihm _ s (by simp [wts, wt] at h ⊢; omega) (by rw [← hk]; simp [norm, flat, codes])
            all_goals simp [norm] at hk
      rw [this _ K' s (Nat.le_refl _) hn.symm, den_eq, hf]
      exact h
    | cons x K =>
      by_cases hx : ∃ c, x = .code c ∧ isReal c = false
      · obtain ⟨c, rfl, hc⟩ := hx
        cases c <;> simp [isReal] at hc
        case seq a b => exact ih _ _ s r (by rw [← hn]; simp [norm, flat, codes]) h
        case skip => exact ih _ _ s r (by rw [← hn]; simp [norm, flat, codes]) h
        case label l => exact ih _ _ s r (by rw [← hn]; simp [norm, flat, codes]) h
      · have hr : ∀ c, x = .code c → isReal c = true := by
          intro c hc
          cases h' : isReal c with
          | true => rfl
          | false => exact absurd ⟨c, hc, h'⟩ hx
        have hk : norm (x :: K) = x :: norm K := by
          cases x <;> try rfl
          rename_i c
          simp [norm, flat_real c (hr c rfl), codes]
        obtain ⟨K'', h1, h2⟩ := expose (A := A) hf _ K' x (norm K) s (Nat.le_refl _) (by rw [← hn, hk]) hr
        rw [h1, den_eq, hf]
        show stepA _ _ _ _ _ _ _ _ = _
        have cong : ∀ X, norm (X :: K) = norm (X :: K'') := by
          intro X; cases X <;> simp [norm, h2]
        have cong2 : ∀ X Y, norm (X :: Y :: K) = norm (X :: Y :: K'') := by
          intro X Y; cases X <;> simp only [norm, cong Y]
        have exits : ∀ id X, exitTo id K = some X → ∃ X', exitTo id K'' = some X' ∧ norm X = norm X' := by
          intro id X hX
          have e1 := exitTo_norm id K
          have e2 := exitTo_norm id K''
          rw [hX] at e1
          rw [h2, e1] at e2
          cases hq : exitTo id K'' with
          | none => rw [hq] at e2; cases e2
          | some X' => rw [hq] at e2; simp at e2; exact ⟨X', rfl, e2⟩
        cases x
        case inBlock i => exact ih _ _ s r (h2.symm) h
        case inLoop c => exact ih _ _ s r (cong2 _ _) h
        case code c =>
          cases c
          case region id ops draw =>
            simp only [stepA] at h ⊢
            cases hd : (draw && !(drawOk (fun g => (A g).pure) (modeOf (A f) id) ops)) with
            | true => simp [hd] at h
            | false =>
              simp only [hd, cond_false, Option.bind_eq_some_iff] at h ⊢
              obtain ⟨s1, h3, h4⟩ := h
              refine ⟨s1, h3, opsA_mono (fun g a m r hc => denC_of_callN hc) _ _ _ (fun s r hs => ?_) _ _ _ h4⟩
              simp only [Option.bind_eq_some_iff] at hs ⊢
              obtain ⟨s2, h5, h6⟩ := hs
              exact ⟨s2, h5, ih _ _ s2 r h2.symm h6⟩
          case cond c a b =>
            cases c
            case tmp c =>
              simp only [stepA] at h ⊢
              cases hg : s.get c <;> simp only [hg] at h ⊢ <;> try cases h
              rename_i b'
              cases b'
              all_goals
                simp only at h ⊢
                cases hb : Nat.blt c s.nt
                · simp [hb] at h
                · simp only [hb, cond_true] at h ⊢; exact ih _ _ _ r (cong _) h
            case const v =>
              cases v <;> simp only [stepA] at h ⊢ <;> try cases h
              rename_i b'
              cases b' <;> exact ih _ _ _ r (cong _) h
            all_goals simp [stepA] at h
          case block id c => exact ih _ _ s r (cong2 _ _) h
          case loop c => exact ih _ _ s r (cong2 _ _) h
          case exit id =>
            simp only [stepA] at h ⊢
            cases hX : exitTo id K with
            | none => simp [hX] at h
            | some X =>
              obtain ⟨X', h3, h4⟩ := exits id X hX
              simp only [hX] at h
              simp only [h3]
              exact ih _ _ s r h4 h
          case ret => exact h
          case seq a b => exact absurd (hr _ rfl) (by simp [isReal])
          case skip => exact absurd (hr _ rfl) (by simp [isReal])
          case label l => exact absurd (hr _ rfl) (by simp [isReal])
          all_goals simp [stepA] at h
        all_goals simp [stepA] at h

theorem den_norm (hf : P.funcs[f]? = some fn) {K K' : List Item} (s : St) (h : norm K = norm K') : den P A f K s = den P A f K' s := by
  refine Option.ext fun r => ⟨fun h1 => ?_, fun h1 => ?_⟩
  · obtain ⟨n, hn⟩ := ((tends_den f K s).2 r).1 h1
    exact norm_run hf n K K' s r h hn
  · obtain ⟨n, hn⟩ := ((tends_den f K' s).2 r).1 h1
    exact norm_run hf n K' K s r h.symm hn

/-- A code is run step by step. -/
theorem den_flat (hf : P.funcs[f]? = some fn) {c : Code} {l : List Code} (h : flat c = l) (K : List Item) (s : St) : den P A f (.code c :: K) s = den P A f (codes l K) s := by
  subst h; exact den_norm hf s (norm_code c K)
end
end Go.AM
