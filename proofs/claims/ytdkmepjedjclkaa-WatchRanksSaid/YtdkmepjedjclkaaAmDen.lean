/-
  THE ABSTRACT MACHINE WITHOUT FUEL: 'den' and 'denC' are the limits of the runs with fuel, and they meet the machine's own equations. Conditions: none.
-/
import Derived.Test.YtdkmepjedjclkaaAmRun
namespace Go.AM

/-- A growing family of answers, and its limit. -/
def Tends {R : Type} (X : Nat → Option R) (x : Option R) : Prop :=
  (∀ n r, X n = some r → X (n + 1) = some r) ∧ ∀ r, x = some r ↔ ∃ n, X n = some r

theorem Tends.le {R : Type} {X : Nat → Option R} {x : Option R} (h : Tends X x) {n m : Nat} (hnm : n ≤ m) {r : R} (k : X n = some r) : X m = some r := by
  induction hnm with
  | refl => exact k
  | step _ ih => exact h.1 _ _ ih

theorem Tends.const {R : Type} (x : Option R) : Tends (fun _ => x) x := ⟨fun _ _ h => h, fun _ => ⟨fun h => ⟨0, h⟩, fun ⟨_, h⟩ => h⟩⟩

theorem Tends.bind {R T : Type} {X : Nat → Option R} {x : Option R} {F : Nat → R → Option T} {f : R → Option T} (h : Tends X x) (k : ∀ a, Tends (fun n => F n a) (f a)) :
    Tends (fun n => (X n).bind (F n)) (x.bind f) := by
  refine ⟨fun n r hr => ?_, fun r => ⟨fun hr => ?_, fun ⟨n, hr⟩ => ?_⟩⟩
  · simp only [Option.bind_eq_some_iff] at hr ⊢
    obtain ⟨a, h1, h2⟩ := hr
    exact ⟨a, h.1 _ _ h1, (k a).1 _ _ h2⟩
  · simp only [Option.bind_eq_some_iff] at hr
    obtain ⟨a, h1, h2⟩ := hr
    obtain ⟨n, hn⟩ := (h.2 a).1 h1
    obtain ⟨m, hm⟩ := ((k a).2 r).1 h2
    refine ⟨max n m, ?_⟩
    simp only [Option.bind_eq_some_iff]
    exact ⟨a, h.le (Nat.le_max_left ..) hn, (k a).le (Nat.le_max_right ..) hm⟩
  · simp only [Option.bind_eq_some_iff] at hr ⊢
    obtain ⟨a, h1, h2⟩ := hr
    exact ⟨a, (h.2 a).2 ⟨n, h1⟩, ((k a).2 r).2 ⟨n, h2⟩⟩

theorem Tends.map {R T : Type} {X : Nat → Option R} {x : Option R} {f : R → T} (h : Tends X x) : Tends (fun n => (X n).map f) (x.map f) := by
  have := Tends.bind (F := fun _ a => some (f a)) (f := fun a => some (f a)) h (fun a => Tends.const _)
  simpa [Option.map_eq_bind, Function.comp_def] using this

theorem Tends.cond {R : Type} {b : Bool} {X Y : Nat → Option R} {x y : Option R} (h : Tends X x) (k : Tends Y y) : Tends (fun n => bif b then X n else Y n) (bif b then x else y) := by
  cases b <;> assumption

theorem Tends.shift {R : Type} {X : Nat → Option R} {x : Option R} (h : Tends (fun n => X (n + 1)) x) (h0 : X 0 = none) : Tends X x := by
  refine ⟨fun n r hr => ?_, fun r => ⟨fun hr => ?_, fun ⟨n, hr⟩ => ?_⟩⟩
  · cases n with
    | zero => rw [h0] at hr; cases hr
    | succ n => exact h.1 _ _ hr
  · obtain ⟨n, hn⟩ := (h.2 r).1 hr
    exact ⟨n + 1, hn⟩
  · cases n with
    | zero => rw [h0] at hr; cases hr
    | succ n => exact (h.2 r).2 ⟨n, hr⟩

theorem Tends.uniq {R : Type} {X : Nat → Option R} {x y : Option R} (h : Tends X x) (k : Tends X y) : x = y := by
  refine Option.ext fun r => ?_
  rw [show (x = some r) ↔ _ from h.2 r, show (y = some r) ↔ _ from k.2 r]

theorem fin_bound {R : Type} {X : Nat → Nat → Option R} {f : Nat → Option R} (h : ∀ i, Tends (fun n => X n i) (f i)) {r : R} : ∀ k, (∀ i, i < k → f i = some r) → ∃ n, ∀ i, i < k → X n i = some r
  | 0, _ => ⟨0, fun i hi => by omega⟩
  | k + 1, hk => by
    obtain ⟨n, hn⟩ := fin_bound h k (fun i hi => hk i (by omega))
    obtain ⟨m, hm⟩ := ((h k).2 r).1 (hk k (by omega))
    refine ⟨max n m, fun i hi => ?_⟩
    rcases Nat.lt_or_ge i k with h1 | h1
    · exact (h i).le (Nat.le_max_left ..) (hn i h1)
    · obtain rfl : i = k := by omega
      exact (h i).le (Nat.le_max_right ..) hm

theorem allOf_some {R : Type} {n : Nat} {F : Nat → Option R} {r : R} : allOf n F = some r ↔ 0 < n ∧ ∀ i, i < n → F i = some r := by
  unfold allOf
  constructor
  · intro h
    split at h
    · rename_i h1
      have := h1.choose_spec
      cases h
      exact this
    · cases h
  · intro h
    have h1 : ∃ r, 0 < n ∧ ∀ i, i < n → F i = some r := ⟨r, h⟩
    rw [dif_pos h1]
    have h2 := h1.choose_spec
    have := h2.2 0 h.1
    rw [h.2 0 h.1] at this
    cases this
    rfl

theorem Tends.allOf {R : Type} {k : Nat} {X : Nat → Nat → Option R} {f : Nat → Option R} (h : ∀ i, Tends (fun n => X n i) (f i)) : Tends (fun n => AM.allOf k (X n)) (AM.allOf k f) := by
  refine ⟨fun n r hr => ?_, fun r => ⟨fun hr => ?_, fun ⟨n, hr⟩ => ?_⟩⟩
  · rw [allOf_some] at hr ⊢
    exact ⟨hr.1, fun i hi => (h i).1 _ _ (hr.2 i hi)⟩
  · rw [allOf_some] at hr
    obtain ⟨n, hn⟩ := fin_bound h k hr.2
    exact ⟨n, allOf_some.2 ⟨hr.1, hn⟩⟩
  · rw [allOf_some] at hr ⊢
    exact ⟨hr.1, fun i hi => ((h i).2 r).2 ⟨n, hr.2 i hi⟩⟩

def TendsC (C : Nat → CallF) (c : CallF) : Prop := ∀ g args m, Tends (fun n => C n g args m) (c g args m)

theorem tends_callA {pf : FuncId → Bool} {C : Nat → CallF} {c : CallF} (h : TendsC C c) (md : Nat) (m : Mem) (f : AV) (args : List AV) : Tends (fun n => callA pf (C n) md m f args) (callA pf c md m f args) := by
  cases f <;> try exact Tends.const _
  unfold callA
  refine Tends.cond ?_ (h _ _ _)
  refine Tends.cond ?_ (Tends.cond ?_ ?_)
  · refine Tends.bind (Tends.const _) fun p => Tends.cond ?_ (Tends.const _)
    exact Tends.bind (h _ _ _) fun _ => Tends.const _
  · exact Tends.bind (h _ _ _) fun _ => Tends.const _
  · exact Tends.bind (Tends.const _) fun _ => Tends.bind (h _ _ _) fun _ => Tends.const _

theorem tends_opA {P : Program} {pf : FuncId → Bool} {C : Nat → CallF} {c : CallF} (h : TendsC C c) (md : Nat) (o : Oper) (s : St) : Tends (fun n => opA P pf (C n) md o s) (opA P pf c md o s) := by
  unfold opA
  split <;> try exact Tends.const _
  split <;> try exact Tends.const _
  split <;> try exact Tends.const _
  exact Tends.bind (tends_callA h _ _ _ _) fun _ => Tends.const _

theorem tends_opI {P : Program} {pf : FuncId → Bool} {C : Nat → CallF} {c : CallF} (h : TendsC C c) (md : Nat) (b : Option Nat) (i : Nat) (o : Oper) (s : St) : Tends (fun n => opI P pf (C n) md b i o s) (opI P pf c md b i o s) := by
  unfold opI
  split
  · exact tends_opA h _ _ _
  · split
    · exact Tends.map (tends_opA h _ _ _)
    · exact Tends.map (tends_opA h _ _ _)
    · exact tends_opA h _ _ _

theorem tends_guardA {R : Type} (ops : Array Oper) (o : Oper) (s : St) {T F : Nat → St → Option R} {t f : St → Option R} (ht : ∀ s, Tends (fun n => T n s) (t s)) (hf : ∀ s, Tends (fun n => F n s) (f s)) :
    Tends (fun n => guardA ops o s (T n) (F n)) (guardA ops o s t f) := by
  unfold guardA
  split
  · exact ht s
  · split
    · exact Tends.const _
    · split
      · split
        · exact Tends.cond (Tends.cond (ht _) (hf _)) (Tends.const _)
        · exact Tends.cond (Tends.cond (hf _) (ht _)) (Tends.const _)
      · exact hf s
      · exact Tends.const _

theorem tends_nextA {R : Type} (s : St) (o : Oper) {K : Nat → St → Option R} {k : St → Option R} (h : ∀ s, Tends (fun n => K n s) (k s)) : Tends (fun n => nextA s o (K n)) (nextA s o k) := by
  unfold nextA
  split <;> try exact Tends.const _
  split <;> try exact Tends.const _
  split <;> try exact Tends.const _
  split <;> try exact Tends.const _
  refine Tends.cond ?_ (Tends.const _)
  split
  · exact Tends.bind (Tends.const _) h
  · exact Tends.allOf fun i => Tends.bind (Tends.const _) fun _ => Tends.bind (Tends.const _) fun _ => Tends.bind (Tends.const _) h

theorem tends_opsA {R : Type} {P : Program} {pf : FuncId → Bool} {C : Nat → CallF} {c : CallF} (h : TendsC C c) (md : Nat → Nat) (ops : Array Oper) (b : Option Nat) {K : Nat → St → Option R} {k : St → Option R} (hk : ∀ s, Tends (fun n => K n s) (k s)) :
    ∀ (l : List Oper) (i : Nat) (s : St), Tends (fun n => opsA P pf (C n) md ops b i l s (K n)) (opsA P pf c md ops b i l s k)
  | [], i, s => by simp only [opsA]; exact hk s
  | o :: l, i, s => by
    simp only [opsA]
    refine tends_guardA ops o s (fun s => ?_) (fun s => ?_)
    · split
      · exact tends_nextA s o fun s => tends_opsA h md ops b hk l _ s
      · exact Tends.bind (tends_opI h _ _ _ _ _) fun s => tends_opsA h md ops b hk l _ s
    · exact Tends.bind (Tends.const _) fun s => tends_opsA h md ops b hk l _ s

theorem tends_stepA {P : Program} {A : FnAnn} {pf : FuncId → Bool} {C : Nat → CallF} {c : CallF} (h : TendsC C c) (fn : Func) {X : Nat → List Item → St → Option Res} {x : List Item → St → Option Res} (hx : ∀ K s, Tends (fun n => X n K s) (x K s)) (K : List Item) (s : St) :
    Tends (fun n => stepA P A pf (C n) fn (X n) K s) (stepA P A pf c fn x K s) := by
  unfold stepA
  split <;> try first | exact Tends.const _ | exact hx _ _
  · split <;> try exact Tends.const _
    split <;> exact Tends.cond (hx _ _) (Tends.const _)
  · exact Tends.cond (hx _ _) (hx _ _)
  · split
    · exact hx _ _
    · exact Tends.const _
  · refine Tends.cond (Tends.const _) (Tends.bind (Tends.const _) fun s => ?_)
    exact tends_opsA h _ _ _ (fun s => Tends.bind (Tends.const _) fun s => hx _ _) _ _ _

/-! ### The runs with fuel grow -/
theorem two {R : Type} {x y : Option R} (h : ∀ r, x = some r → y = some r) : Tends (fun n => match n with | 0 => x | _ + 1 => y) y := by
  refine ⟨fun n r hr => ?_, fun r => ⟨fun hr => ⟨1, hr⟩, fun ⟨n, hr⟩ => ?_⟩⟩
  · cases n with
    | zero => exact h r hr
    | succ n => exact hr
  · cases n with
    | zero => exact h r hr
    | succ n => exact hr

theorem stepA_mono {P : Program} {A : FnAnn} {pf : FuncId → Bool} {c c' : CallF} (h : ∀ g a m r, c g a m = some r → c' g a m = some r) (fn : Func) {x x' : List Item → St → Option Res} (hx : ∀ K s r, x K s = some r → x' K s = some r) (K : List Item) (s : St) {r : Res}
    (hr : stepA P A pf c fn x K s = some r) : stepA P A pf c' fn x' K s = some r := by
  have := (tends_stepA (P := P) (A := A) (pf := pf) (C := fun n => match n with | 0 => c | _ + 1 => c') (c := c') (fun g a m => by
      have h1 := two (x := c g a m) (y := c' g a m) (h g a m)
      have h2 : (fun n => match n with | 0 => c g a m | _ + 1 => c' g a m) = (fun n => (match n with | 0 => c | _ + 1 => c' : CallF) g a m) := by
        funext n; cases n <;> rfl
      rw [h2] at h1; exact h1) fn (X := fun n => match n with | 0 => x | _ + 1 => x') (x := x') (fun K s => by
      have h1 := two (x := x K s) (y := x' K s) (hx K s)
      have h2 : (fun n => match n with | 0 => x K s | _ + 1 => x' K s) = (fun n => (match n with | 0 => x | _ + 1 => x' : List Item → St → Option Res) K s) := by
        funext n; cases n <;> rfl
      rw [h2] at h1; exact h1) K s).2 r
  exact this.2 ⟨0, hr⟩

theorem fuel_mono {P : Program} {A : Ann} : ∀ n, (∀ f K s r, runA P A n f K s = some r → runA P A (n + 1) f K s = some r) ∧ (∀ g a m r, callN P A n g a m = some r → callN P A (n + 1) g a m = some r)
  | 0 => ⟨fun f K s r h => by simp [runA] at h, fun g a m r h => by simp [callN] at h⟩
  | n + 1 => by
    obtain ⟨h1, h2⟩ := fuel_mono n
    constructor
    · intro f K s r h
      rw [runA] at h ⊢
      simp only [Option.bind_eq_some_iff] at h ⊢
      obtain ⟨fn, hf, h⟩ := h
      exact ⟨fn, hf, stepA_mono h2 fn (h1 f) K s h⟩
    · intro g a m r h
      rw [callN] at h ⊢
      simp only [Option.bind_eq_some_iff] at h ⊢
      obtain ⟨fn, hf, b, hb, h⟩ := h
      refine ⟨fn, hf, b, hb, ?_⟩
      cases hle : Nat.ble a.length fn.ntmps with
      | false => simp [hle] at h
      | true =>
        simp only [hle, cond_true] at h ⊢
        cases hp : (A g).pure with
        | false => simp only [hp, cond_false] at h ⊢; exact h1 _ _ _ _ h
        | true =>
          simp only [hp, cond_true] at h ⊢
          cases hc : closedL a with
          | false => simp [hc] at h
          | true =>
            simp only [hc, cond_true, Option.bind_eq_some_iff] at h ⊢
            obtain ⟨rr, h3, h4⟩ := h
            exact ⟨rr, h1 _ _ _ _ h3, h4⟩

open Classical in
noncomputable def lim {R : Type} (X : Nat → Option R) : Option R := if h : ∃ r n, X n = some r then some h.choose else none

theorem tends_lim {R : Type} {X : Nat → Option R} (h : ∀ n r, X n = some r → X (n + 1) = some r) : Tends X (lim X) := by
  have le : ∀ {n m r}, n ≤ m → X n = some r → X m = some r := by
    intro n m r hnm k
    induction hnm with
    | refl => exact k
    | step _ ih => exact h _ _ ih
  refine ⟨h, fun r => ?_⟩
  unfold lim
  constructor
  · intro hr
    split at hr
    · rename_i h1
      cases hr
      exact h1.choose_spec
    · cases hr
  · rintro ⟨n, hn⟩
    have h1 : ∃ r n, X n = some r := ⟨r, n, hn⟩
    rw [dif_pos h1]
    obtain ⟨m, hm⟩ := h1.choose_spec
    have h2 := le (Nat.le_max_left n m) hn
    rw [le (Nat.le_max_right n m) hm] at h2
    exact h2

noncomputable def den (P : Program) (A : Ann) (f : FuncId) (K : List Item) (s : St) : Option Res := lim fun n => runA P A n f K s
noncomputable def denC (P : Program) (A : Ann) : CallF := fun g args m => lim fun n => callN P A n g args m

theorem tends_den {P : Program} {A : Ann} (f : FuncId) (K : List Item) (s : St) : Tends (fun n => runA P A n f K s) (den P A f K s) := tends_lim fun n => (fuel_mono n).1 f K s
theorem tends_denC {P : Program} {A : Ann} : TendsC (fun n g args m => callN P A n g args m) (denC P A) := fun g a m => tends_lim fun n => (fuel_mono n).2 g a m

theorem den_eq (P : Program) (A : Ann) (f : FuncId) (K : List Item) (s : St) :
    den P A f K s = (P.funcs[f]?).bind fun fn => stepA P (A f) (fun g => (A g).pure) (denC P A) fn (den P A f) K s := by
  refine Tends.uniq (tends_den f K s) (Tends.shift ?_ (by simp [runA]))
  simp only [runA]
  exact Tends.bind (Tends.const _) fun fn => tends_stepA tends_denC fn (fun K s => tends_den f K s) K s

theorem denC_eq (P : Program) (A : Ann) (g : FuncId) (args : List AV) (m : Mem) :
    denC P A g args m = (P.funcs[g]?).bind fun fn => fn.body.bind fun b =>
      bif Nat.ble args.length fn.ntmps then
        (bif (A g).pure then (bif closedL args then (den P A g [.code b] (initA fn args Mem.empty)).bind fun r => some (r.1, m) else none)
         else den P A g [.code b] (initA fn args m))
      else none := by
  refine Tends.uniq (tends_denC g args m) (Tends.shift ?_ (by simp [callN]))
  simp only [callN]
  refine Tends.bind (Tends.const _) fun fn => Tends.bind (Tends.const _) fun b => Tends.cond (Tends.cond (Tends.cond ?_ (Tends.const _)) (tends_den _ _ _)) (Tends.const _)
  exact Tends.bind (tends_den _ _ _) fun _ => Tends.const _

/-- What the machine without fuel answers, the one with fuel answers. -/
theorem denC_fuel {P : Program} {A : Ann} {g : FuncId} {args : List AV} {m : Mem} {r : Res} (h : denC P A g args m = some r) : ∃ n, callN P A n g args m = some r :=
  ((tends_denC g args m).2 r).1 h
end Go.AM
