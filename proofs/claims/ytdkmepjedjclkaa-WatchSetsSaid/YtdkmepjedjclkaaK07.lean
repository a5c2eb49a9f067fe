/-
  Definitely (3): the search for a course. Conditions: none.
-/
import Derived.Test.YtdkmepjedjclkaaK06
import Derived.Test.YtdkmepjedjclkaaKAmH
import Derived.Test.YtdkmepjedjclkaaK04
import Derived.Test.YtdkmepjedjclkaaK05
import Derived.Test.YtdkmepjedjclkaaK01
set_option linter.all false
namespace Go.Proofs.Ytdkmepjedjclkaa
open Go.AM
open Go.Proofs.Try (prog)
set_option linter.all false
set_option maxRecDepth 100000
set_option maxHeartbeats 4000000

theorem u31' : prog.underlying 31 = some (.slice 22) := by kernel_rfl
theorem nil31 : binA prog .neq 31 .nils .nils = some (.bool false) := by simp [binA, eqT, eqA, u31']
theorem nil31' (ex : Bool) (n : Nat) (cs : List AV) : binA prog .neq 31 (.fsl ex n cs) .nils = some (.bool true) := by simp [binA, eqT, eqA, u31']
theorem eil31 : binA prog .eql 31 .nils .nils = some (.bool true) := by simp [binA, eqT, eqA, u31']
theorem eil31' (ex : Bool) (n : Nat) (cs : List AV) : binA prog .eql 31 (.fsl ex n cs) .nils = some (.bool false) := by simp [binA, eqT, eqA, u31']

/-- The search, as a value. -/
def crsV (E : Ents) (id cid : Nat) (sv : AV) : AV := .fn 77 [] [.fptr [mapV E], .sptr [.map id], .fptr [sv], .ptr cid 0 1]
/-- What is known of what is remembered. -/
structure CInv (D : List Int) (N : List Note) (S : List (List Int)) (m : Mem) (E : Ents) (id cid : Nat) (sv : AV) : Prop where
  mp : ∃ g L, m.h id = some (.map g (keysL L) (valsL L)) ∧ Keys4 L ∧ TrueE L ∧ ∀ c, IsCut D.length (pad D) c → inE L c = true → ¬ Can D N S (c.take D.length)
  fn : m.h cid = some (.cells [crsV E id cid sv])
  ne : id ≠ cid
  l1 : id < m.nx
  l2 : cid < m.nx
theorem CInv.more {D : List Int} {N : List Note} {S : List (List Int)} {m : Mem} {E : Ents} {id cid : Nat} {sv : AV} (c : CInv D N S m E id cid sv) {m' : Mem} (h : ∀ i, i < m.nx → m'.h i = m.h i) (hn : m.nx ≤ m'.nx) : CInv D N S m' E id cid sv := by
  obtain ⟨g, L, a, b⟩ := c.mp
  exact ⟨⟨g, L, by rw [h _ c.l1]; exact a, b⟩, by rw [h _ c.l2]; exact c.fn, c.ne, Nat.lt_of_lt_of_le c.l1 hn, Nat.lt_of_lt_of_le c.l2 hn⟩

/-- What the search hands back. -/
def CRes (D : List Int) (N : List Note) (S : List (List Int)) (x : List Int) (v : AV) : Prop :=
  (Can D N S x ∧ ∃ l ex, Path D N S x l ∧ v = .fsl ex l.length (flatC rowC l)) ∨ (¬ Can D N S x ∧ v = .nils)

section
variable {sv : AV} {D : List Int} {N : List Note} {S : List (List Int)} {K : List (List (List Int))} {E : Ents} {id cid : Nat}
/-- The search from a cut, told of its calls for the next cuts. -/
theorem crs_loop (k : Clocks D N K) (s : IsStory sv D.length (pad D) K) {c : List Int} (hc : IsCut D.length (pad D) c) (hm : c.take D.length ∈ cutsL D N) (hS : c.take D.length ∉ S) (hD : c.take D.length ≠ D)
    (rec : ∀ (d : List Int) (m : Mem), IsCut D.length (pad D) d → d.take D.length ∈ cutsL D N → (d.take D.length).sum = (c.take D.length).sum + 1 → CInv D N S m E id cid sv → ∃ v m', denC prog ann 77 [.agg (ints d), .fptr [mapV E], .sptr [.map id], .fptr [sv], .ptr cid 0 1] m = some (v, m') ∧ CInv D N S m' E id cid sv ∧ CRes D N S (d.take D.length) v) :
    ∀ (j i : Nat) (m : Mem), j ≤ D.length → (nextR (pad D) K D.length c D.length).drop i = nextR (pad D) K D.length c j → (∀ g, j ≤ g → g < D.length → ¬ Can D N S (bump (c.take D.length) g)) → CInv D N S m E id cid sv →
    ∃ v m', watch_Definitely_1.L0 (.sptr [.map id]) (.fptr [sv]) (.ptr cid 0 1) (.fptr (ints c)) (nextV (nextR (pad D) K D.length c D.length)) (.int .i64 (nextR (pad D) K D.length c D.length).length) (.int .i64 i) m [.code watch_Definitely_1.r12, .code watch_Definitely_1.r13, .code .ret] = some (v, m') ∧ CInv D N S m' E id cid sv ∧ CRes D N S (c.take D.length) v := by
  have hn4 := s.n4
  have hc4 := hc.len
  have hfz := s.frz
  have htc : (ints c).take 4 = ints c := List.take_of_length_le (by simp [hc4])
  simp at htc
  generalize hNL : nextR (pad D) K D.length c D.length = NL
  have hav := nextV_is NL
  have hln : ∀ (j : Nat), (nextR (pad D) K D.length c j).length ≤ j := by
    intro j
    induction j with
    | zero => simp [nextR]
    | succ j ih => rw [nextR, List.length_append]; split <;> simp <;> omega
  have hNl : NL.length ≤ 4 := by rw [← hNL]; have := hln D.length; omega
  intro j
  induction j with
  | zero =>
    intro i m h1 h2 h3 ci
    have hi : NL.length ≤ i := by
      have := congrArg List.length h2
      simp [nextR] at this; omega
    have hno : ¬ Can D N S (c.take D.length) := fun x => by
      obtain ⟨h, hh, r⟩ := x.on hD
      exact h3 h (by omega) hh r
    obtain ⟨g, L, a1, a2, a3, a4⟩ := ci.mp
    have hu := upd99 (v := .bool true) a1 a2 hc4
    refine ⟨.nils, ⟨upd m.h id (some (.map (g + 1) (keysL (setL L c (.bool true))) (valsL (setL L c (.bool true))))), m.nx⟩, ?_, ⟨⟨g + 1, setL L c (.bool true), by simp, setL_keys4 a2 hc4, setL_true a3, fun d hd hin => ?_⟩, by simp [show (cid == id) = false from beq_eq_false_iff_ne.2 (fun x => ci.ne x.symm), ci.fn], ci.ne, ci.l1, ci.l2⟩, .inr ⟨hno, rfl⟩⟩
    · rw [watch_Definitely_1.L0_eq]
      simp [show ¬ i < NL.length by omega, hc4, htc, hu, Mem.set]
      done
    · rw [inE, lk_set] at hin
      by_cases q : c = d
      · rw [← q]; exact hno
      · rw [if_neg q] at hin; exact a4 d hd hin
  | succ j ih =>
    intro i m h1 h2 h3 ci
    by_cases q : stepOk (pad D) K D.length c j = true
    · have hmem := (stepOk_iff k hc (h := j) (by omega)).1 q
      simp only [nextR, if_pos q, List.singleton_append] at h2
      have hi : i < NL.length := by
        rcases Nat.lt_or_ge i NL.length with h | h
        · exact h
        · rw [List.drop_of_length_le h] at h2; cases h2
      have hd : NL.drop i = cth NL i :: NL.drop (i + 1) := by
        obtain ⟨g1, g2⟩ := List.getElem?_eq_some_iff.1 (cth_eq hi)
        rw [List.drop_eq_getElem_cons g1, g2]
      rw [hd] at h2
      obtain ⟨hce, hdr⟩ := List.cons.inj h2
      have q1 : nth c j + 1 ≤ nth (pad D) j := by
        simp only [stepOk, Bool.and_eq_true, decide_eq_true_eq] at q; exact q.1
      have hb := bump_is hc (h := j) (by omega) q1
      have hbt : (bump c j).take D.length = bump (c.take D.length) j := bump_take (by omega) (by omega)
      have hbm : (bump c j).take D.length ∈ cutsL D N := by rw [hbt]; exact hmem
      have hA : Four NL := fun d hd => by
        have key : ∀ j, ∀ d ∈ nextR (pad D) K D.length c j, d.length = 4 := by
          intro j
          induction j with
          | zero => intro d hd; cases hd
          | succ j ih =>
            intro d hd
            rw [nextR] at hd
            rcases List.mem_append.1 hd with h | h
            · split at h
              · simp at h; rw [h, bump_len]; exact hc4
              · cases h
            · exact ih d h
        rw [← hNL] at hd; exact key _ d hd
      have hidx := hav.idx hA.cells hi .i64
      have hld := load_cut hA hi
      rw [hce] at hld
      have hb4 : (bump c j).length = 4 := hb.len
      have htb : (ints (bump c j)).take 4 = ints (bump c j) := List.take_of_length_le (by simp [hb4])
      simp at htb
      obtain ⟨v, m1, e1, ci1, r1⟩ := rec (bump c j) ⟨upd m.h m.nx none, m.nx + 1⟩ hb hbm (by rw [hbt, sum_bump (by simp; omega)]) (ci.more (fun i hi => by simp [show (i == m.nx) = false from beq_eq_false_iff_ne.2 (by omega)]) (by simp))
      have hcn : (cid == m.nx) = false := beq_eq_false_iff_ne.2 (by have := ci.l2; omega)
      have hfnc := ci.fn
      have hpu : (ann 77).pure = false := by kernel_rfl
      have hwr : IntKind.wrap .i64 ((i : Int) + 1) = (i : Int) + 1 := wrap_id (by omega) (by omega)
      rcases r1 with ⟨rc, l, ex, rp, rfl⟩ | ⟨rn, rfl⟩
      · have hlist := list_fix s hc4
        rw [hbt] at rc rp
        have hcan : Can D N S (c.take D.length) := .step hm hS (h := j) (by omega) rc
        have hpath : Path D N S (c.take D.length) (c.take D.length :: l) := .step hD (by omega) rc (fun g hg hgd => h3 g (by omega) hgd) rp
        have hll : l.length ≤ 25 := by
          have key : ∀ (x : List Int) (l : List (List Int)), Path D N S x l → x ∈ cutsL D N → (l.length : Int) + x.sum ≤ D.sum + 1 := by
            intro x l p
            induction p with
            | last => intro _; simp; omega
            | @step c h l hc hh r ng p ih =>
              intro hm
              have := ih r.mem
              have hl := ((mem_cuts k.P.L).1 hm).1.len
              have := sum_bump (c := c) (h := h) (by omega)
              simp; omega
          have a := key _ _ rp rc.mem
          have b := sum_six D hn4 k.P.L.hi
          have c0 : 0 ≤ (bump (c.take D.length) j).sum := by
            have hcl := ((mem_cuts k.P.L).1 rc.mem).1
            have : ∀ (y : List Int), (∀ g, 0 ≤ nth y g) → 0 ≤ y.sum := by
              intro y
              induction y with
              | nil => intro _; simp
              | cons z y ih =>
                intro h
                have h0 : 0 ≤ z := h 0
                have := ih fun g => h (g + 1)
                simp; omega
            exact this _ hcl.lo
          omega
        have htl : (c.take D.length).length = D.length := by simp [hc4]; omega
        have hflr : (flatC rowC l).length = l.length := flatC_row_len l
        have hcl : closedL (flatC rowC l) = true := flatC_closedL (fun _ => rfl) l
        have hrow : AV.fsl false (l.length + 1) (.fsl false D.length (ints (c.take D.length)) :: flatC rowC l) = .fsl false (c.take D.length :: l).length (flatC rowC (c.take D.length :: l)) := by rw [flatC_cons]; simp only [rowC, htl]; rfl
        have htk2 : (AV.fsl false D.length (ints (c.take D.length)) :: flatC rowC l).take (l.length + 1) = .fsl false D.length (ints (c.take D.length)) :: flatC rowC l := List.take_of_length_le (by simp [hflr])
        have htk3 : (flatC rowC l).take l.length = flatC rowC l := List.take_of_length_le (by omega)
        have hne0 : ¬ l.length = 0 := fun h => rp.ne (List.length_eq_zero_iff.1 h)
        have hne0b : (l.length == 0) = false := beq_eq_false_iff_ne.2 hne0
        refine ⟨.fsl false (c.take D.length :: l).length (flatC rowC (c.take D.length :: l)), ⟨upd (upd m1.h m1.nx none) m1.nx none, m1.nx + 1⟩, ?_, ci1.more (fun i hi => by simp [show (i == m1.nx) = false from beq_eq_false_iff_ne.2 (by omega)]) (by simp), .inl ⟨hcan, _, false, hpath, rfl⟩⟩
        rw [← hrow]
        generalize c.take D.length = x at hlist htl ⊢
        rw [watch_Definitely_1.L0_eq]
        simp [hi, hidx, hld, hb4, htb, hcn, hfnc, crsV, hpu, e1, nil31', hc4, htc, hfz, hlist, s.closed, hne0b, hflr, hcl, htk2, htk3, show 1 + l.length = l.length + 1 by omega, show l.length + 1 ≤ 4611686018427387904 by omega, show (l.length + 1) * 24 ≤ 70368744177664 by omega]
        done
      · rw [hbt] at rn
        obtain ⟨v, m2, e2, ci2, r2⟩ := ih (i + 1) m1 (by omega) hdr (fun g hg hgd => by
          by_cases e : g = j
          · rw [e]; exact rn
          · exact h3 g (by omega) hgd) ci1
        refine ⟨v, m2, ?_, ci2, r2⟩
        simp only [Int.natCast_add, Int.cast_ofNat_Int] at e2
        rw [← e2, watch_Definitely_1.L0_eq]
        simp [hi, hidx, hld, hb4, htb, hcn, hfnc, crsV, hpu, e1, nil31, hwr]
        done
    · have hnot : ¬ Can D N S (bump (c.take D.length) j) := fun x => q ((stepOk_iff k hc (by omega)).2 x.mem)
      simp only [nextR, if_neg q, List.nil_append] at h2
      exact ih i m (by omega) h2 (fun g hg hgd => by
        by_cases e : g = j
        · rw [e]; exact hnot
        · exact h3 g (by omega) hgd) ci
end
end Go.Proofs.Ytdkmepjedjclkaa

/-
  Definitely (4): WHAT IT HANDS BACK. Conditions: none.
-/
namespace Go.Proofs.Ytdkmepjedjclkaa
open Go.AM
open Go.Proofs.Try (prog)
set_option linter.all false
set_option maxRecDepth 100000
set_option maxHeartbeats 4000000

theorem lookIn {L : Ents} {c : List Int} {m : Mem} {id g : Nat} (hm : m.h id = some (.map g (keysL L) (valsL L))) (h : Keys4 L) (hT : TrueE L) (hc : c.length = 4) : lookP prog m 99 (.bool false) (.map id) (.agg (ints c)) false = some (.bool (inE L c)) :=
  (lookM99 hm h hc _ _).trans (congrArg some (inE_look hT))
theorem lookInV {L : Ents} {c : List Int} (m : Mem) (h : Keys4 L) (hT : TrueE L) (hc : c.length = 4) : lookP prog m 99 (.bool false) (mapV L) (.agg (ints c)) false = some (.bool (inE L c)) :=
  (look99 h hc m _ _).trans (congrArg some (inE_look hT))

section
variable {sv : AV} {D : List Int} {N : List Note} {S : List (List Int)} {K : List (List (List Int))} {E : Ents} {id cid : Nat}
theorem crs_body (k : Clocks D N K) (s : IsStory sv D.length (pad D) K) (hE : Keys4 E) (hT : TrueE E) (hin : ∀ c, IsCut D.length (pad D) c → inE E c = decide (c.take D.length ∈ S)) {c : List Int} (hc : IsCut D.length (pad D) c) (hm : c.take D.length ∈ cutsL D N)
    (rec : c.take D.length ≠ D → ∀ (d : List Int) (m : Mem), IsCut D.length (pad D) d → d.take D.length ∈ cutsL D N → (d.take D.length).sum = (c.take D.length).sum + 1 → CInv D N S m E id cid sv → ∃ v m', denC prog ann 77 [.agg (ints d), .fptr [mapV E], .sptr [.map id], .fptr [sv], .ptr cid 0 1] m = some (v, m') ∧ CInv D N S m' E id cid sv ∧ CRes D N S (d.take D.length) v)
    (m : Mem) (ci : CInv D N S m E id cid sv) :
    ∃ v m', denC prog ann 77 [.agg (ints c), .fptr [mapV E], .sptr [.map id], .fptr [sv], .ptr cid 0 1] m = some (v, m') ∧ CInv D N S m' E id cid sv ∧ CRes D N S (c.take D.length) v := by
  have hn4 := s.n4
  have hfz := s.frz
  have hc4 := hc.len
  have htc : (ints c).take 4 = ints c := List.take_of_length_le (by simp [hc4])
  simp at htc
  have hv := lookInV m hE hT hc4
  obtain ⟨g, L, a1, a2, a3, a4⟩ := ci.mp
  have hl := lookIn a1 a2 a3 hc4
  have hmo : (mapV E).one = true := rfl
  by_cases q1 : c.take D.length ∈ S
  · rw [hin c hc, decide_eq_true q1] at hv
    refine ⟨.nils, m, ?_, ci, .inr ⟨fun x => x.out q1, rfl⟩⟩
    rw [watch_Definitely_1.call_eq]
    simp [hc4, htc, hv]
    done
  · rw [hin c hc, decide_eq_false q1] at hv
    cases q2 : inE L c with
    | true =>
      rw [q2] at hl
      refine ⟨.nils, m, ?_, ci, .inr ⟨a4 c hc q2, rfl⟩⟩
      rw [watch_Definitely_1.call_eq]
      simp [hc4, htc, hv, hl]
      done
    | false =>
      rw [q2] at hl
      have hD4 := s.D4
      have hlist := list_fix s hc4
      have hnext := next_spec s hc
      have hsc := s.closed
      have hcm := ci.more (m' := ⟨m.h, m.nx + 6⟩) (fun _ _ => rfl) (by simp)
      obtain ⟨V, hsv, hV, hS⟩ := s.V
      have htD : (ints (pad D) ++ V).take 4 = ints (pad D) := List.take_left' (by simp [hD4])
      have hlD : 4 ≤ (ints (pad D)).length + V.length := by simp [hD4]
      have heq := eql99 hc4 hD4
      by_cases q3 : c = pad D
      · have hxD : c.take D.length = D := by rw [q3]; exact pad_take rfl
        rw [decide_eq_true q3] at heq
        have hmD := hm
        have q1D := q1
        rw [hxD] at hmD q1D
        have hcan : Can D N S D := .last hmD q1D
        refine ⟨.fsl true 1 [.fsl false D.length (ints (c.take D.length))], ⟨m.h, m.nx + 6⟩, ?_, hcm, .inl ⟨by rw [hxD]; exact hcan, [D], true, by rw [hxD]; exact .last, by rw [hxD]; rfl⟩⟩
        rw [watch_Definitely_1.call_eq]
        generalize c.take D.length = x at hlist
        rw [hsv] at hlist hfz hsc ⊢
        simp [hc4, htc, hv, hl, htD, hD4, hlD, heq, hlist, hfz]
        done
      · have hxD : c.take D.length ≠ D := fun h => q3 (by rw [← take_pad rfl hc hn4, h])
        rw [decide_eq_false q3] at heq
        have hav := nextV_is (nextR (pad D) K D.length c D.length)
        obtain ⟨v, m', e1, ci', r'⟩ := crs_loop k s hc hm q1 hxD (rec hxD) D.length 0 ⟨m.h, m.nx + 6⟩ (Nat.le_refl _) (by simp) (fun g hg hgd => by omega) hcm
        refine ⟨v, m', ?_, ci', r'⟩
        simp only [Int.cast_ofNat_Int, Int.ofNat_zero] at e1
        rw [watch_Definitely_1.call_eq, ← e1]
        generalize nextR (pad D) K D.length c D.length = NL at hnext hav ⊢
        rw [hsv] at hnext hfz hsc ⊢
        simp [hc4, htc, hv, hl, htD, hD4, hlD, heq, hnext, hfz, hav.len]
        done

theorem crs_spec (k : Clocks D N K) (s : IsStory sv D.length (pad D) K) (hE : Keys4 E) (hT : TrueE E) (hin : ∀ c, IsCut D.length (pad D) c → inE E c = decide (c.take D.length ∈ S)) : ∀ (f : Nat) (c : List Int) (m : Mem), IsCut D.length (pad D) c → c.take D.length ∈ cutsL D N → D.sum ≤ (c.take D.length).sum + f → CInv D N S m E id cid sv →
    ∃ v m', denC prog ann 77 [.agg (ints c), .fptr [mapV E], .sptr [.map id], .fptr [sv], .ptr cid 0 1] m = some (v, m') ∧ CInv D N S m' E id cid sv ∧ CRes D N S (c.take D.length) v := by
  intro f
  induction f with
  | zero =>
    intro c m hc hm hf ci
    have hcl := ((mem_cuts k.P.L).1 hm).1
    have hcD : c.take D.length = D := sum_eq _ _ hcl.len hcl.hi (by omega)
    exact crs_body k s hE hT hin hc hm (fun h => absurd hcD h) m ci
  | succ f ih =>
    intro c m hc hm hf ci
    exact crs_body k s hE hT hin hc hm (fun _ d m hd hdm hds cd => ih d m hd hdm (by omega) cd) m ci
end

/-- What Definitely hands back. -/
inductive DefRes (D : List Int) (N : List Note) (L : List (List Int)) : AV → Int → Prop where
  | bad (h : ¬ ValidS D N) : DefRes D N L .nils 1
  | long (v : ValidS D N) (h : 2500 < L.length) : DefRes D N L .nils 3
  | form (v : ValidS D N) (h : L.length ≤ 2500) (h2 : L.all (cutB D) = false) : DefRes D N L .nils 2
  | none (v : ValidS D N) (h : L.length ≤ 2500) (h2 : L.all (cutB D) = true) (e : ¬ Can D N L (List.replicate D.length 0)) : DefRes D N L .nils 5
  | ok {ex : Bool} {l : List (List Int)} (v : ValidS D N) (h : L.length ≤ 2500) (h2 : L.all (cutB D) = true) (e : Can D N L (List.replicate D.length 0)) (p : Path D N L (List.replicate D.length 0) l) : DefRes D N L (.fsl ex l.length (flatC rowC l)) 0

theorem defV_spec {v vL : AV} {D : List Int} {N : List Note} {cs : List AV} {L : List (List Int)} (hs : IsTale v D N) (hl : D.length < 100000) (hn : N.length < 100000) (hL : IsVec IsInts vL cs L) (hLl : L.length < 1000000) (hw : ∀ i, i < L.length → (gth L i).length < 1000000) :
    ∃ x e, DefRes D N L x e ∧ ∀ m, denC prog ann 39 [v, vL] m = some (.tup [x, .int .i64 e], m) := by
  obtain ⟨x, y, e, hr, er⟩ := setOf_spec hs hl hn hL hLl hw
  obtain ⟨vD, vN, rfl, h1, h2⟩ := hs.ex
  have hcl : closedL [.agg [vD, vN], vL] = true := by simp [h1.closed, h2.closed, hL.closed]
  cases hr with
  | bad h =>
    refine ⟨_, _, .bad h, fun m => ?_⟩
    rw [watch_Definitely.call_eq _ _ _ hcl]
    simp [h1.one, h2.one, h1.closed, h2.closed, hL.closed, er]
    done
  | long v h =>
    refine ⟨_, _, .long v h, fun m => ?_⟩
    rw [watch_Definitely.call_eq _ _ _ hcl]
    simp [h1.one, h2.one, h1.closed, h2.closed, hL.closed, er]
    done
  | form v h h' =>
    refine ⟨_, _, .form v h h', fun m => ?_⟩
    rw [watch_Definitely.call_eq _ _ _ hcl]
    simp [h1.one, h2.one, h1.closed, h2.closed, hL.closed, er]
    done
  | @ok sv K val h h' k s =>
    have hn4 := s.n4
    have hE : Keys4 (setE L []) := setE_keys (fun e he => by cases he) fun r hr => by rw [(all_cutB h' r hr).len]; exact hn4
    have hT : TrueE (setE L []) := setE_true (fun e he => by cases he)
    have hmc : (mapV (setE L [])).closed = true := rfl
    have hmo : (mapV (setE L [])).one = true := rfl
    have hmce : (mapV (setE L [])).cells = [mapV (setE L [])] := rfl
    have hz : ([0, 0, 0, 0] : List Int) = List.replicate 4 0 := rfl
    have hzc : IsCut D.length (pad D) [0, 0, 0, 0] := ⟨rfl, fun h => by rw [hz, nth_zero']; exact Int.le_refl _, fun h => by rw [hz, nth_zero']; exact s.pos h⟩
    have hzt : ([0, 0, 0, 0] : List Int).take D.length = List.replicate D.length 0 := by rw [hz, List.take_replicate]; congr 1; omega
    have hs6 := sum_six D hn4 k.P.L.hi
    have hsum0 : (List.replicate D.length (0 : Int)).sum = 0 := by simp
    have ci0 : CInv D N L ⟨upd (upd (upd (upd (upd (upd Mem.empty.h 0 none) 1 none) 2 (some (.map 0 [] []))) 3 none) 4 (some (.cells [.nilf]))) 4 (some (.cells [crsV (setE L []) 2 4 x])), 5⟩ (setE L []) 2 4 x := by
      refine ⟨⟨0, [], by simp [keysL, valsL], (fun e he => by cases he), (fun e he => by cases he), (fun c _ hin => by simp [inE, lkL] at hin)⟩, by simp, by omega, by show 2 < 5; omega, by show 4 < 5; omega⟩
    obtain ⟨w, m', ew, _, rw'⟩ := crs_spec k s hE hT (fun c hc => inE_set hn4 h' hc) 24 [0, 0, 0, 0] _ hzc (by rw [hzt]; exact zeros_cut k.P.L k.P) (by rw [hzt, hsum0]; omega) ci0
    rw [hzt] at rw'
    have hpu : (ann 77).pure = false := by kernel_rfl
    have hso := s.one
    have hsc := s.closed
    have hsce : x.cells = [x] := by obtain ⟨V, rfl, _⟩ := s.V; rfl
    simp [crsV, ints] at ew
    rcases rw' with ⟨rc, l, ex, rp, rfl⟩ | ⟨rn, rfl⟩
    · refine ⟨_, _, .ok (ex := ex) val h h' rc rp, fun m => ?_⟩
      rw [watch_Definitely.call_eq _ _ _ hcl]
      simp [h1.one, h2.one, h1.closed, h2.closed, hL.closed, er, hmc, hmo, hmce, hso, hsc, hsce, hpu, ew, eil31']
      done
    · refine ⟨_, _, .none val h h' rn, fun m => ?_⟩
      rw [watch_Definitely.call_eq _ _ _ hcl]
      simp [h1.one, h2.one, h1.closed, h2.closed, hL.closed, er, hmc, hmo, hmce, hso, hsc, hsce, hpu, ew, eil31]
      done
end Go.Proofs.Ytdkmepjedjclkaa

/-
  THE REFERENCE's SMALL FUNCTIONS ON CUTS: has, name, more, SameLists. Conditions: none.
-/
namespace Go.Proofs.Ytdkmepjedjclkaa
open Go.AM
open Go.Proofs.Try (prog)
set_option linter.all false
set_option maxRecDepth 100000
set_option maxHeartbeats 4000000

/-- All rows are short. -/
def Short (L : List (List Int)) : Prop := ∀ i, i < L.length → (gth L i).length < 1000000

theorem has_loop {vS vc : AV} {cs : List AV} {S : List (List Int)} {c : List Int} (hS : IsVec IsInts vS cs S) (hc : IsInts vc c) (hw : Short S) (hcl : c.length < 1000000) (hl : S.length < 1000000) : ∀ (k i : Nat) (m : Mem), i + k = S.length →
    r09_has.L0 vS vc (.int .i64 i) m [.code r09_has.r6, .code .ret] = some (.bool ((S.drop i).any fun r => decide (r = c)), Mem.empty) := by
  intro k
  induction k with
  | zero =>
    intro i m h1
    have e : i = S.length := by omega
    rw [r09_has.L0_eq]
    simp [e, hS.len]
    done
  | succ k ih =>
    intro i m h1
    have hi : i < S.length := by omega
    have hwr : IntKind.wrap .i64 ((i : Int) + 1) = (i : Int) + 1 := wrap_id (by omega) (by omega)
    have hb := hS.at hi
    have hsame := same_spec hb hc (by have := hw i hi; omega) (by omega)
    have hst := fun m => ih (i + 1) m (by omega)
    simp only [Int.natCast_add, Int.cast_ofNat_Int] at hst
    rw [r09_has.L0_eq, drop_gth hi, List.any_cons]
    by_cases q : gth S i = c
    · rw [decide_eq_true q] at hsame ⊢
      simp [hS.len, hi, hS.idx hi, hS.load hi, hb.closed, hc.closed, hsame]
      done
    · rw [decide_eq_false q] at hsame ⊢
      simp [hS.len, hi, hS.idx hi, hS.load hi, hb.closed, hc.closed, hsame, hwr, hst]
      done
theorem has_spec {vS vc : AV} {cs : List AV} {S : List (List Int)} {c : List Int} (hS : IsVec IsInts vS cs S) (hc : IsInts vc c) (hw : Short S) (hcl : c.length < 1000000) (hl : S.length < 1000000) (m : Mem) : denC prog ann 78 [vS, vc] m = some (.bool (decide (c ∈ S)), m) := by
  have := has_loop hS hc hw hcl hl S.length 0 Mem.empty (by omega)
  simp only [Int.cast_ofNat_Int, Int.ofNat_zero, List.drop_zero] at this
  have e : (S.any fun r => decide (r = c)) = decide (c ∈ S) := by
    rw [Bool.eq_iff_iff, List.any_eq_true, decide_eq_true_eq]
    exact ⟨fun ⟨x, hx, h⟩ => by rw [← of_decide_eq_true h]; exact hx, fun h => ⟨c, h, by simp⟩⟩
  rw [e] at this
  rw [r09_has.call_eq _ _ _ (by simp [hS.closed, hc.closed])]
  simp [this]

/-! ### Names -/
def u8w (v : Int) : Int := IntKind.wrap .u8 v
def nameS (l : List Int) : List UInt8 := l.map fun v => UInt8.ofNat (u8w v).toNat
def nameC (l : List Int) : List AV := l.map fun v => .int .u8 (u8w v)
theorem nameC_len (l : List Int) : (nameC l).length = l.length := by simp [nameC]
theorem nameC_bytes : ∀ l : List Int, bytesOf (nameC l) = some (nameS l)
  | [] => rfl
  | a :: l => by
    have := nameC_bytes l
    simp only [nameC, nameS] at this ⊢
    simp [bytesOf, this]
/-- A cut with one deed less of a hand; of none, if the number is no hand's. -/
def lessL (l : List Int) (h : Int) : List Int := if h < 0 then l else l.set h.toNat (nth l h.toNat - 1)
theorem lessL_len (l : List Int) (h : Int) : (lessL l h).length = l.length := by unfold lessL; split <;> simp
theorem nth_less (l : List Int) (h : Int) {i : Nat} (hi : i < l.length) : nth (lessL l h) i = if (i : Int) = h then nth l i - 1 else nth l i := by
  unfold lessL
  by_cases q : h < 0
  · rw [if_pos q, if_neg (by omega)]
  · rw [if_neg q, nth_set]
    by_cases e : (i : Int) = h
    · subst e; simp [hi]
    · rw [if_neg e, if_neg (by omega)]
theorem name_loop {vl : AV} {l : List Int} {h : Int} (hv : IsInts vl l) (hl : l.length < 1000000) (hb : ∀ i, -1000000 ≤ nth l i ∧ nth l i < 1000000) : ∀ (k i : Nat) (m : Mem), i + k = l.length → m.h 0 = some (.cells (nameC ((lessL l h).take i))) →
    r09_name.L0 vl (.int .i64 h) (.sl 0 1 0 i i) (.int .i64 i) m [.code r09_name.r9, .code .ret] = some (.str (nameS (lessL l h)), Mem.empty) := by
  intro k
  induction k with
  | zero =>
    intro i m h1 hm
    have e : i = l.length := by omega
    have hll := lessL_len l h
    rw [e, List.take_of_length_le (by omega)] at hm
    have htk : (nameC (lessL l h)).take l.length = nameC (lessL l h) := List.take_of_length_le (by rw [nameC_len, hll]; exact Nat.le_refl _)
    rw [r09_name.L0_eq]
    simp [e, hv.len, convStr, hm, nameC_len, hll, htk, nameC_bytes]
    done
  | succ k ih =>
    intro i m h1 hm
    have hi : i < l.length := by omega
    have hll := lessL_len l h
    have hwr : IntKind.wrap .i64 ((i : Int) + 1) = (i : Int) + 1 := wrap_id (by omega) (by omega)
    obtain ⟨b0, b1⟩ := hb i
    have hw2 : IntKind.wrap .i64 (nth l i - 1) = nth l i - 1 := wrap_id (by omega) (by omega)
    have hcl : (nameC ((lessL l h).take i)).length = i := by rw [nameC_len]; simp; omega
    have hnl := nth_less l h hi
    have hst : ∀ v : Int, nth (lessL l h) i = v → r09_name.L0 vl (.int .i64 h) (.sl 0 1 0 (i + 1) (i + 1)) (.int .i64 ((i : Int) + 1)) ⟨upd m.h 0 (some (.cells (nameC ((lessL l h).take i) ++ [.int .u8 (u8w v)]))), m.nx⟩ [.code r09_name.r9, .code .ret] = some (.str (nameS (lessL l h)), Mem.empty) := fun v hv' => by
      have := ih (i + 1) ⟨upd m.h 0 (some (.cells (nameC ((lessL l h).take i) ++ [.int .u8 (u8w v)]))), m.nx⟩ (by omega) (by
        have e : (lessL l h)[i]? = some v := by rw [nth_eq (by omega), hv']
        rw [List.take_add_one, e]; simp [nameC])
      simpa only [Int.natCast_add, Int.cast_ofNat_Int] using this
    rw [r09_name.L0_eq]
    by_cases q : (i : Int) = h
    · rw [if_pos q] at hnl
      have := hst _ hnl
      subst q
      simp only [u8w] at this
      simp [hv.len, hi, hv.idx hi, ints_head hi, hm, hcl, hwr, hw2, this, show i ≤ 4611686018427387903 by omega, show i + 1 ≤ 70368744177664 by omega]
      done
    · rw [if_neg q] at hnl
      have := hst _ hnl
      simp only [u8w] at this
      simp [hv.len, hi, hv.idx hi, ints_head hi, q, hm, hcl, hwr, this, show i ≤ 4611686018427387903 by omega, show i + 1 ≤ 70368744177664 by omega]
      done
theorem name_spec {vl : AV} {l : List Int} (h : Int) (hv : IsInts vl l) (hl : l.length < 1000000) (hb : ∀ i, -1000000 ≤ nth l i ∧ nth l i < 1000000) (m : Mem) : denC prog ann 79 [vl, .int .i64 h] m = some (.str (nameS (lessL l h)), m) := by
  have := name_loop (h := h) hv hl hb l.length 0 ⟨upd Mem.empty.h 0 (some (.cells [])), 1⟩ (by omega) (by simp [nameC])
  simp only [Int.cast_ofNat_Int, Int.ofNat_zero] at this
  rw [r09_name.call_eq _ _ _ (by simp [hv.closed])]
  simp [this]
theorem lessL_no (l : List Int) : lessL l (-1) = l := by simp [lessL]
theorem u8w_id {v : Int} (h0 : 0 ≤ v) (h1 : v ≤ 255) : u8w v = v := by
  simp only [u8w, IntKind.wrap, IntKind.min, IntKind.max, IntKind.signed, IntKind.bits]
  simp
  omega
theorem nameS_inj : ∀ {a b : List Int}, a.length = b.length → (∀ i, 0 ≤ nth a i ∧ nth a i ≤ 255) → (∀ i, 0 ≤ nth b i ∧ nth b i ≤ 255) → nameS a = nameS b → a = b
  | [], [], _, _, _, _ => rfl
  | x :: a, y :: b, hl, ha, hb, h => by
    simp only [nameS, List.map_cons, List.cons.injEq] at h
    obtain ⟨h1, h2⟩ := h
    have hx : 0 ≤ x ∧ x ≤ 255 := ha 0
    have hy : 0 ≤ y ∧ y ≤ 255 := hb 0
    rw [u8w_id hx.1 hx.2, u8w_id hy.1 hy.2] at h1
    have e := congrArg UInt8.toNat h1
    simp only [UInt8.toNat_ofNat'] at e
    have : x = y := by omega
    rw [this, nameS_inj (a := a) (b := b) (by simpa using hl) (fun i => ha (i + 1)) (fun i => hb (i + 1)) h2]
  | [], _ :: _, hl, _, _, _ => by simp at hl
  | _ :: _, [], hl, _, _, _ => by simp at hl

theorem more_spec {vl : AV} {l : List Int} {h : Nat} (hv : IsInts vl l) (hl : l.length < 1000000) (hh : h < l.length) (hb : nth l h < 1000000 ∧ -1000000 < nth l h) (m : Mem) : denC prog ann 80 [vl, .int .i64 h] m = some (.fsl false l.length (ints (bump l h)), m) := by
  have hw : IntKind.wrap .i64 (nth l h + 1) = nth l h + 1 := wrap_id (by omega) (by omega)
  have hne : (l.length == 0) = false := beq_eq_false_iff_ne.2 (by omega)
  have htk : (ints (bump l h)).take l.length = ints (bump l h) := List.take_of_length_le (by simp [bump_len])
  simp at htk
  have hset : l.set h (nth l h + 1) = bump l h := rfl
  rw [r09_more.call_eq _ _ _ (by simp [hv.closed])]
  simp [hv.src, hne, hh, hw, hset, htk, bump_len, show l.length ≤ 4611686018427387904 by omega, show l.length * 8 ≤ 70368744177664 by omega]
  done

/-! ### The same lists -/
theorem vec_nil {R : AV → List Int → Prop} : IsVec R .nils [] [] := ⟨rfl, (fun i hi => by simp at hi), rfl, .inl ⟨rfl, rfl⟩⟩
theorem sl_loop {va vb : AV} {ca cb : List AV} {A B : List (List Int)} (ha : IsVec IsInts va ca A) (hb : IsVec IsInts vb cb B) (wa : Short A) (wb : Short B) (hl : A.length = B.length) (hA : A.length < 1000000) : ∀ (k i : Nat) (m : Mem), i + k = A.length →
    r01_SameLists.L0 va vb (.int .i64 i) m [.code r01_SameLists.r8, .code .ret] = some (.bool (decide (A.drop i = B.drop i)), Mem.empty) := by
  intro k
  induction k with
  | zero =>
    intro i m h1
    have e : i = A.length := by omega
    rw [r01_SameLists.L0_eq, List.drop_of_length_le (by omega), List.drop_of_length_le (by omega)]
    simp [e, ha.len]
    done
  | succ k ih =>
    intro i m h1
    have hi : i < A.length := by omega
    have hiB : i < B.length := by omega
    have hwr : IntKind.wrap .i64 ((i : Int) + 1) = (i : Int) + 1 := wrap_id (by omega) (by omega)
    have x := ha.at hi
    have y := hb.at hiB
    have hsame := same_spec x y (by have := wa i hi; omega) (by have := wb i hiB; omega)
    have hst := fun m => ih (i + 1) m (by omega)
    simp only [Int.natCast_add, Int.cast_ofNat_Int] at hst
    rw [r01_SameLists.L0_eq, drop_gth hi, drop_gth hiB]
    by_cases q : gth A i = gth B i
    · rw [decide_eq_true q] at hsame
      have e : decide (gth A i :: A.drop (i + 1) = gth B i :: B.drop (i + 1)) = decide (A.drop (i + 1) = B.drop (i + 1)) := by rw [q]; simp
      rw [e]
      simp [ha.len, hi, ha.idx hi, ha.load hi, hb.idx hiB, hb.load hiB, x.closed, y.closed, hsame, hwr, hst]
      done
    · rw [decide_eq_false q] at hsame
      have e : decide (gth A i :: A.drop (i + 1) = gth B i :: B.drop (i + 1)) = false := decide_eq_false fun h => q (List.cons.inj h).1
      rw [e]
      simp [ha.len, hi, ha.idx hi, ha.load hi, hb.idx hiB, hb.load hiB, x.closed, y.closed, hsame]
      done
theorem sameL_spec {va vb : AV} {ca cb : List AV} {A B : List (List Int)} (ha : IsVec IsInts va ca A) (hb : IsVec IsInts vb cb B) (wa : Short A) (wb : Short B) (hA : A.length < 1000000) (m : Mem) : denC prog ann 42 [va, vb] m = some (.bool (decide (A = B)), m) := by
  rw [r01_SameLists.call_eq _ _ _ (by simp [ha.closed, hb.closed])]
  by_cases q : A.length = B.length
  · have := sl_loop ha hb wa wb q hA A.length 0 Mem.empty (by omega)
    simp only [Int.cast_ofNat_Int, Int.ofNat_zero, List.drop_zero] at this
    simp [ha.len, hb.len, q, this]
    done
  · have q' : ¬ (A.length : Int) = B.length := by omega
    rw [decide_eq_false (fun h => q (by rw [h]))]
    simp [ha.len, hb.len, q, q']
    done
end Go.Proofs.Ytdkmepjedjclkaa

/-
  BODIES OF FUNCTIONS OF THE PROGRAM AS SMALL OPERATIONS (written by gen.py; checked by the kernel against the program). Conditions: none.
-/
namespace Go.Proofs.Ytdkmepjedjclkaa
open Go.AM
open Go.Proofs.Try (prog)
set_option maxRecDepth 100000
set_option linter.all false

end Go.Proofs.Ytdkmepjedjclkaa

/-
  WatchLattice RETURNS TRUE. Conditions: none.
-/
namespace Go.Proofs.Ytdkmepjedjclkaa
open Go.AM
open Go.Proofs.Try (prog)
set_option linter.all false
set_option maxRecDepth 100000
set_option maxHeartbeats 4000000

end Go.Proofs.Ytdkmepjedjclkaa

/-
  THE PLAIN LAW (6): the cuts stand in order; a consistent cut is the join of clocks. Conditions: none.
-/
namespace Go.Proofs.Ytdkmepjedjclkaa
open Go.AM
open Go.Proofs.Try (prog)
set_option linter.all false
set_option maxRecDepth 10000

theorem lexLt_irr : ∀ a : List Int, lexLt a a = false
  | [] => rfl
  | a :: x => by simp [lexLt, lexLt_irr x]
theorem tuples_sorted : ∀ D : List Int, (tuplesL D).Pairwise (fun a b => lexLt a b = true)
  | [] => by simp [tuplesL]
  | d :: D => by
    simp only [tuplesL]
    rw [List.pairwise_flatMap]
    refine ⟨fun i _ => ?_, ?_⟩
    · rw [List.pairwise_map]
      exact (tuples_sorted D).imp fun h => by simpa [lexLt] using h
    · refine List.pairwise_lt_range.imp fun {i j} hij a ha b hb => ?_
      simp only [List.mem_map] at ha hb
      obtain ⟨a', _, rfl⟩ := ha
      obtain ⟨b', _, rfl⟩ := hb
      have h1 : ¬ (i : Int) = j := by omega
      simp only [lexLt, h1, if_false, decide_eq_true_eq]
      omega
theorem cuts_sorted (D : List Int) (N : List Note) : (cutsL D N).Pairwise (fun a b => lexLt a b = true) := (tuples_sorted D).filter _

/-- The join of the clocks of the hands' last deeds: from hand h on, k hands. -/
def joinR (K : List (List (List Int))) (n : Nat) (l : List Int) : Nat → Nat → List Int → List Int
  | 0, _, out => out
  | k + 1, h, out => joinR K n l k (h + 1) (if 0 < nth l h then zmax out ((clk K h ((nth l h).toNat - 1)).take n) else out)

section
variable {D : List Int} {N : List Note} {K : List (List (List Int))}
end
end Go.Proofs.Ytdkmepjedjclkaa

/-
  THE PLAIN LAW (7): the cuts at which all hands say yes are closed under meet and join; the least of them comes first. Conditions: none.
-/
namespace Go.Proofs.Ytdkmepjedjclkaa
open Go.AM
open Go.Proofs.Try (prog)
set_option linter.all false
set_option maxRecDepth 100000

section
variable {D : List Int} {N : List Note} {F : List (List Bool)}
end

theorem lex_of_le : ∀ {a b : List Int}, a.length = b.length → (∀ g, nth a g ≤ nth b g) → lexLt b a = false
  | [], [], _, _ => rfl
  | x :: a, y :: b, hl, h => by
    have h0 : x ≤ y := h 0
    have ih := lex_of_le (a := a) (b := b) (by simpa using hl) fun g => h (g + 1)
    simp only [lexLt]
    by_cases e : y = x
    · rw [if_pos e]; exact ih
    · rw [if_neg e, decide_eq_false_iff_not]; omega
  | [], _ :: _, hl, _ => by simp at hl
  | _ :: _, [], hl, _ => by simp at hl

/-- The first of some cuts in order that holds one that is nowhere greater than the others is that one. -/
theorem head_least {Y : List (List Int)} (hs : Y.Pairwise (fun a b => lexLt a b = true)) {u : List Int} (hu : u ∈ Y) {n : Nat} (hn : ∀ y ∈ Y, y.length = n) (hl : ∀ y ∈ Y, ∀ g, nth u g ≤ nth y g) : Y.head? = some u := by
  cases Y with
  | nil => cases hu
  | cons x l =>
    rw [List.pairwise_cons] at hs
    rcases List.mem_cons.1 hu with e | e
    · rw [e]; rfl
    · have h1 := hs.1 u e
      have h2 := lex_of_le (a := u) (b := x) (by rw [hn u hu, hn x (by simp)]) (hl x (by simp))
      rw [h2] at h1; cases h1

theorem find_sub {p : List Int → Bool} : ∀ {A : List (List Int)}, A.find? p = (A.filter p).head?
  | [] => rfl
  | a :: A => by
    rw [List.find?_cons, List.filter_cons]
    cases q : p a with
    | true => rfl
    | false => exact find_sub (A := A)
end Go.Proofs.Ytdkmepjedjclkaa

/-
  THE REFERENCE's Definitely (1): from which cuts the end is reached. Conditions: none.
-/
namespace Go.Proofs.Ytdkmepjedjclkaa
open Go.AM
open Go.Proofs.Try (prog)
set_option linter.all false
set_option maxRecDepth 100000
set_option maxHeartbeats 4000000

/-! ### Maps keyed by strings -/
theorem und9 : prog.underlying 9 = some .string := by kernel_rfl
theorem keyEq9 (a b : List UInt8) : keyEq prog 9 (.str a) (.str b) = some (decide (a = b)) := by
  simp [keyEq, scV, und9, eqSc, beq_dec]
theorem keyT9 (a : List UInt8) : keyT prog 9 (.str a) = true := by simp [keyT, scV, und9]
abbrev EntS := List (List UInt8 × AV)
def keysS (L : EntS) : List AV := L.map fun e => .str e.1
def valsS (L : EntS) : List AV := L.map (·.2)
def lkS : EntS → List UInt8 → Option AV
  | [], _ => none
  | e :: L, c => if e.1 = c then some e.2 else lkS L c
def setS : EntS → List UInt8 → AV → EntS
  | [], c, v => [(c, v)]
  | e :: L, c, v => if e.1 = c then (c, v) :: L else e :: setS L c v
theorem findK9 : ∀ (L : EntS) (c : List UInt8), findK prog 9 (.str c) (keysS L) (valsS L) = some (lkS L c)
  | [], c => rfl
  | e :: L, c => by
    have ih := findK9 L c
    simp only [keysS, valsS, List.map_cons, findK, keyEq9, Option.bind_some]
    simp only [keysS, valsS] at ih
    by_cases q : e.1 = c
    · simp [q, lkS]
    · have q' : ¬ c = e.1 := fun x => q x.symm
      simp [q, q', lkS, ih]
theorem setK9 : ∀ (L : EntS) (c : List UInt8) (v : AV), setK prog 9 (.str c) v (keysS L) (valsS L) = some (keysS (setS L c v), valsS (setS L c v))
  | [], c, v => rfl
  | e :: L, c, v => by
    have ih := setK9 L c v
    simp only [keysS, valsS, List.map_cons, setK, keyEq9, Option.bind_some]
    simp only [keysS, valsS] at ih
    by_cases q : e.1 = c
    · simp [q, setS]
    · have q' : ¬ c = e.1 := fun x => q x.symm
      simp [q, q', setS, ih]
theorem lk_setS : ∀ (L : EntS) (c : List UInt8) (v : AV) (d : List UInt8), lkS (setS L c v) d = if c = d then some v else lkS L d
  | [], c, v, d => by simp [setS, lkS]
  | e :: L, c, v, d => by
    rw [setS]
    by_cases q : e.1 = c
    · rw [if_pos q, lkS, lkS]
      by_cases q2 : c = d
      · rw [if_pos q2, if_pos q2]
      · rw [if_neg q2, if_neg q2, if_neg (by rw [q]; exact q2)]
    · rw [if_neg q, lkS, lkS, lk_setS L c v d]
      by_cases q2 : e.1 = d
      · rw [if_pos q2, if_pos q2, if_neg (fun x => q (q2.trans x.symm))]
      · rw [if_neg q2, if_neg q2]
def orZ (z : AV) : Option AV → AV
  | some v => v
  | none => z
theorem lookS {L : EntS} {c : List UInt8} {m : Mem} {id g : Nat} (hm : m.h id = some (.map g (keysS L) (valsS L))) (z : AV) : lookP prog m 9 z (.map id) (.str c) false = some (orZ z (lkS L c)) := by
  simp only [lookP, keyT9, cond_true, lookA, hm, findK9, Option.bind_some]
  cases lkS L c <;> rfl
theorem updS {L : EntS} {c : List UInt8} {m : Mem} {id g : Nat} {v : AV} (hm : m.h id = some (.map g (keysS L) (valsS L))) : updM prog m 9 (.map id) (.str c) v = some (.tup [], m.set id (some (.map (g + 1) (keysS (setS L c v)) (valsS (setS L c v))))) := by
  simp only [updM, updP, keyT9, cond_true, hm, setK9, Option.bind_some, Option.map_some]

/-! ### From which cuts the end is reached -/
open Classical in
noncomputable def canB (D : List Int) (N : List Note) (S : List (List Int)) (x : List Int) : Bool := decide (Can D N S x)
section
variable {D : List Int} {N : List Note} {S : List (List Int)}
theorem canB_iff {x : List Int} : canB D N S x = true ↔ Can D N S x := by simp [canB]
theorem canB_no {x : List Int} (h : ¬ Can D N S x) : canB D N S x = false := by simp [canB, h]
theorem canB_eq (P : Pre D N) {x : List Int} (hx : x ∈ cutsL D N) (hS : x ∉ S) : canB D N S x = (decide (x = D) || (List.range' 0 D.length).any fun g => canB D N S (bump x g)) := by
  rw [Bool.eq_iff_iff, canB_iff, Bool.or_eq_true, decide_eq_true_eq, List.any_eq_true]
  constructor
  · intro h
    by_cases q : x = D
    · exact .inl q
    · obtain ⟨g, hg, r⟩ := h.on q
      exact .inr ⟨g, by simp [List.mem_range'_1, hg], canB_iff.2 r⟩
  · rintro (q | ⟨g, hg, r⟩)
    · subst q; exact .last hx hS
    · simp only [List.mem_range'_1] at hg
      exact .step hx hS (by omega) (canB_iff.1 r)
theorem cuts_last (P : Pre D N) {i : Nat} (hi : i < (cutsL D N).length) : (cutsL D N)[i] = D ↔ i + 1 = (cutsL D N).length := by
  have hD := deeds_cut P
  obtain ⟨j, hj, hjD⟩ := List.getElem_of_mem hD
  have hs := cuts_sorted D N
  have hlast : j + 1 = (cutsL D N).length := by
    rcases Nat.lt_or_ge (j + 1) (cutsL D N).length with h | h
    · have := List.pairwise_iff_getElem.1 hs j (j + 1) hj h (by omega)
      rw [hjD] at this
      obtain ⟨c1, _⟩ := (mem_cuts P.L).1 (List.getElem_mem h)
      rw [lex_of_le c1.len c1.hi] at this; cases this
    · omega
  constructor
  · intro h
    rcases Nat.lt_trichotomy i j with q | q | q
    · have := List.pairwise_iff_getElem.1 hs i j hi hj q
      rw [h, hjD, lexLt_irr] at this; cases this
    · omega
    · have := List.pairwise_iff_getElem.1 hs j i hj hi q
      rw [h, hjD, lexLt_irr] at this; cases this
  · intro h
    have : i = j := by omega
    subst this; exact hjD
theorem lex_bump : ∀ {x : List Int} {g : Nat}, g < x.length → lexLt x (bump x g) = true
  | a :: x, 0, _ => by
    have h1 : ¬ a = a + 1 := by omega
    have h2 : a < a + 1 := by omega
    simp [bump, nth, lexLt, h1, h2]
  | a :: x, g + 1, h => by
    have ih := lex_bump (x := x) (g := g) (by simpa using h)
    have e : bump (a :: x) (g + 1) = a :: bump x g := rfl
    rw [e]; simpa [lexLt] using ih
theorem bump_later {i : Nat} (hi : i < (cutsL D N).length) {g : Nat} (hg : g < D.length) (hb : bump (cutsL D N)[i] g ∈ cutsL D N) : bump (cutsL D N)[i] g ∈ (cutsL D N).drop (i + 1) := by
  have hs := cuts_sorted D N
  have hrow := cutsL_row (List.getElem_mem hi)
  have hlt := lex_bump (x := (cutsL D N)[i]) (g := g) (by omega)
  obtain ⟨j, hj, hjb⟩ := List.getElem_of_mem hb
  have hij : i < j := by
    rcases Nat.lt_trichotomy i j with q | q | q
    · exact q
    · subst q; rw [← hjb, lexLt_irr] at hlt; cases hlt
    · have := List.pairwise_iff_getElem.1 hs j i hj hi q
      rw [hjb] at this
      have hh := lexLt_same (cutsL D N)[i] (bump (cutsL D N)[i] g)
      -- both ways
      exact absurd this (by
        have key : ∀ a b : List Int, lexLt a b = true → lexLt b a = false := by
          intro a
          induction a with
          | nil => intro b h; cases b <;> simp [lexLt] at h ⊢
          | cons x a ih =>
            intro b h
            cases b with
            | nil => simp [lexLt] at h
            | cons y b =>
              simp only [lexLt] at h ⊢
              by_cases e : x = y
              · subst e; simp at h ⊢; exact ih b h
              · have e' : ¬ y = x := fun z => e z.symm
                simp [e, e'] at h ⊢; omega
        rw [key _ _ hlt]; simp)
  rw [← hjb, List.mem_drop_iff_getElem]
  exact ⟨j - (i + 1), by omega, by congr 1; omega⟩

/-- A list that is named as a cut is. -/
structure Named (D x : List Int) : Prop where
  len : x.length = D.length
  b : ∀ g, 0 ≤ nth x g ∧ nth x g ≤ 255
theorem cut_named (L : Lims D N) {x : List Int} (h : x ∈ cutsL D N) : Named D x := by
  obtain ⟨c, _⟩ := (mem_cuts L).1 h
  exact ⟨c.len, fun g => ⟨c.lo g, by have := c.hi g; have := L.hi g; omega⟩⟩
theorem bump_named (L : Lims D N) {x : List Int} (h : x ∈ cutsL D N) {g : Nat} (hg : g < D.length) : Named D (bump x g) := by
  obtain ⟨c, _⟩ := (mem_cuts L).1 h
  have cl := c.len
  refine ⟨by rw [bump_len, cl], fun q => ?_⟩
  have a := c.lo q
  have b := c.hi q
  have d := L.hi q
  rw [nth_bump (by omega)]
  split
  · rename_i e; subst e; omega
  · omega
/-- What the map holds when the cuts from i on are done. -/
def CanMap (D : List Int) (N : List Note) (S : List (List Int)) (L : EntS) (i : Nat) : Prop :=
  ∀ x, Named D x → ∀ z, orZ z (lkS L (nameS x)) = open Classical in if x ∈ (cutsL D N).drop i ∧ x ∉ S then .bool (canB D N S x) else z
theorem CanMap.bump {L : EntS} {i : Nat} (hL : CanMap D N S L (i + 1)) (Lm : Lims D N) (hi : i < (cutsL D N).length) {g : Nat} (hg : g < D.length) : orZ (.bool false) (lkS L (nameS (bump (cutsL D N)[i] g))) = .bool (canB D N S (bump (cutsL D N)[i] g)) := by
  rw [hL _ (bump_named Lm (List.getElem_mem hi) hg)]
  split
  · rfl
  · rename_i h
    rw [canB_no]
    intro hc
    exact h ⟨bump_later hi hg hc.mem, hc.out⟩
theorem CanMap.skip {L : EntS} {i : Nat} (hL : CanMap D N S L (i + 1)) (hi : i < (cutsL D N).length) (hS : (cutsL D N)[i] ∈ S) : CanMap D N S L i := by
  intro x hx z
  rw [hL x hx, List.drop_eq_getElem_cons hi]
  by_cases q : x ∈ (cutsL D N).drop (i + 1) ∧ x ∉ S
  · rw [if_pos q, if_pos ⟨List.mem_cons_of_mem _ q.1, q.2⟩]
  · rw [if_neg q, if_neg]
    rintro ⟨h1, h2⟩
    rcases List.mem_cons.1 h1 with e | e
    · rw [e] at h2; exact h2 hS
    · exact q ⟨e, h2⟩
theorem CanMap.add {L : EntS} {i : Nat} (hL : CanMap D N S L (i + 1)) (Lm : Lims D N) (hi : i < (cutsL D N).length) (hS : (cutsL D N)[i] ∉ S) : CanMap D N S (setS L (nameS (cutsL D N)[i]) (.bool (canB D N S (cutsL D N)[i]))) i := by
  intro x hx z
  have hn := cut_named Lm (List.getElem_mem hi)
  rw [lk_setS, List.drop_eq_getElem_cons hi]
  by_cases e : (cutsL D N)[i] = x
  · rw [if_pos (by rw [e]), if_pos ⟨by rw [e]; simp, by rw [← e]; exact hS⟩, e]; rfl
  · rw [if_neg (fun h => e (nameS_inj (by rw [hn.len, hx.len]) hn.b hx.b h)), hL x hx]
    by_cases q : x ∈ (cutsL D N).drop (i + 1) ∧ x ∉ S
    · rw [if_pos q, if_pos ⟨List.mem_cons_of_mem _ q.1, q.2⟩]
    · rw [if_neg q, if_neg]
      rintro ⟨h1, h2⟩
      rcases List.mem_cons.1 h1 with e2 | e2
      · exact e e2.symm
      · exact q ⟨e2, h2⟩
end
end Go.Proofs.Ytdkmepjedjclkaa

/-
  THE REFERENCE's Definitely (2): its loops. Conditions: none.
-/
namespace Go.Proofs.Ytdkmepjedjclkaa
open Go.AM
open Go.Proofs.Try (prog)
set_option linter.all false
set_option maxRecDepth 100000
set_option maxHeartbeats 4000000

section
variable {D : List Int} {N : List Note} {S : List (List Int)} {vD vN vS : AV} {cs : List AV}
theorem dany_loop (P : Pre D N) {i : Nat} (hi : i < (cutsL D N).length) (hl : (cutsL D N).length < 100000) {L : EntS} {id gen : Nat} (hL : CanMap D N S L (i + 1)) (Kc : List Item) : ∀ (k h : Nat) (b : Bool) (m : Mem), h + k = D.length → m.h id = some (.map gen (keysS L) (valsS L)) →
    r09_Definitely.L2 vS (.fptr [vD, vN]) (.fsl false (cutsL D N).length (flatC rowC (cutsL D N))) (.map id) (.int .i64 i) (.bool b) (.int .i64 h) m Kc =
      r09_Definitely.L2 vS (.fptr [vD, vN]) (.fsl false (cutsL D N).length (flatC rowC (cutsL D N))) (.map id) (.int .i64 i) (.bool (b || (List.range' h k).any fun g => canB D N S (bump (cutsL D N)[i] g))) (.int .i64 D.length) m Kc := by
  have h4 := P.L.n4
  have hmem : (cutsL D N)[i] ∈ cutsL D N := List.getElem_mem hi
  have hrow := cutsL_row hmem
  have i1 := (IsSl.fsl (f := rowC) false (cutsL D N)).idx (rowC_len _) hi .i64
  have i2 := load_row hi
  have hcth : cth (cutsL D N) i = (cutsL D N)[i] := by have := cth_eq hi; rw [List.getElem?_eq_getElem hi] at this; exact (Option.some.inj this).symm
  rw [hcth] at i2
  have hlook : ∀ (h : Nat) (m : Mem), h < D.length → m.h id = some (.map gen (keysS L) (valsS L)) → lookP prog m 9 (.bool false) (.map id) (.str (nameS (bump (cutsL D N)[i] h))) false = some (.bool (canB D N S (bump (cutsL D N)[i] h))) := fun h m hh hm => by
    rw [lookS hm, hL.bump P.L hi hh]
  obtain ⟨cc, _⟩ := (mem_cuts P.L).1 hmem
  have hnm := fun h (hh : h < D.length) => bump_named P.L hmem hh
  generalize (cutsL D N)[i] = x at *
  intro k
  induction k with
  | zero =>
    intro h b m h1 hm
    have e : h = D.length := by omega
    simp [e]
  | succ k ih =>
    intro h b m h1 hm
    have hh : h < D.length := by omega
    have hwr : IntKind.wrap .i64 ((h : Int) + 1) = (h : Int) + 1 := wrap_id (by omega) (by omega)
    have a := cc.lo h
    have c := cc.hi h
    have d := P.L.hi h
    have hmore := more_spec (IsInts.fsl false x) (by omega) (h := h) (by omega) ⟨by omega, by omega⟩
    have hb := hnm h hh
    have hname := name_spec (-1) (IsInts.fsl false (bump x h)) (by rw [bump_len]; omega) (fun g => by have := hb.b g; omega)
    rw [lessL_no, bump_len, hrow] at hname
    rw [hrow] at hmore
    have hlk := hlook h m hh hm
    have hst := ih (h + 1) (b || canB D N S (bump x h)) m (by omega) hm
    simp only [Int.natCast_add, Int.cast_ofNat_Int] at hst
    rw [List.range'_succ, List.any_cons, ← Bool.or_assoc, ← hst, r09_Definitely.L2_eq]
    cases b with
    | true =>
      simp [i1, i2, hrow, hh, hwr]
      done
    | false =>
      simp [i1, i2, hrow, hh, hwr, hmore, hname, hlk]
      done

theorem dcan_loop (P : Pre D N) (hS : IsVec IsInts vS cs S) (hw : Short S) (hSl : S.length < 1000000) (hl : (cutsL D N).length < 100000) {id : Nat} (Kc : List Item) : ∀ (i : Nat) (L : EntS) (gen : Nat) (m : Mem), i ≤ (cutsL D N).length → CanMap D N S L i → m.h id = some (.map gen (keysS L) (valsS L)) → id < m.nx →
    ∃ L' gen' m', CanMap D N S L' 0 ∧ m'.h id = some (.map gen' (keysS L') (valsS L')) ∧ id < m'.nx ∧
      r09_Definitely.L0 vS (.fptr [vD, vN]) (.fsl false (cutsL D N).length (flatC rowC (cutsL D N))) (.map id) (.int .i64 ((i : Int) - 1)) m Kc =
        r09_Definitely.L0 vS (.fptr [vD, vN]) (.fsl false (cutsL D N).length (flatC rowC (cutsL D N))) (.map id) (.int .i64 (-1)) m' Kc := by
  have h4 := P.L.n4
  intro i
  induction i with
  | zero =>
    intro L gen m h1 hL hm hid
    exact ⟨L, gen, m, hL, hm, hid, rfl⟩
  | succ i ih =>
    intro L gen m h1 hL hm hid
    have hi : i < (cutsL D N).length := by omega
    have e0 : ((i + 1 : Nat) : Int) - 1 = (i : Int) := by omega
    have hw1 : IntKind.wrap .i64 ((i : Int) - 1) = (i : Int) - 1 := wrap_id (by omega) (by omega)
    have hmem : (cutsL D N)[i] ∈ cutsL D N := List.getElem_mem hi
    have hrow := cutsL_row hmem
    have i1 := (IsSl.fsl (f := rowC) false (cutsL D N)).idx (rowC_len _) hi .i64
    have i2 := load_row hi
    have hcth : cth (cutsL D N) i = (cutsL D N)[i] := by have := cth_eq hi; rw [List.getElem?_eq_getElem hi] at this; exact (Option.some.inj this).symm
    rw [hcth] at i2
    have hhas := has_spec hS (IsInts.fsl false (cutsL D N)[i]) hw (by omega) hSl
    by_cases q : (cutsL D N)[i] ∈ S
    · obtain ⟨L', gen', m', a, b, c, e⟩ := ih L gen m (by omega) (hL.skip hi q) hm hid
      refine ⟨L', gen', m', a, b, c, ?_⟩
      rw [decide_eq_true q] at hhas
      generalize (cutsL D N)[i] = x at i2 hhas hrow
      rw [e0, ← e, r09_Definitely.L0_eq]
      simp [i1, i2, hS.closed, hhas, hw1]
      done
    · have hcan := canB_eq P hmem q
      obtain ⟨L', gen', m', a, b, c, e⟩ := ih (setS L (nameS (cutsL D N)[i]) (.bool (canB D N S (cutsL D N)[i]))) (gen + 1) ⟨upd m.h id (some (.map (gen + 1) (keysS (setS L (nameS (cutsL D N)[i]) (.bool (canB D N S (cutsL D N)[i])))) (valsS (setS L (nameS (cutsL D N)[i]) (.bool (canB D N S (cutsL D N)[i])))))), m.nx⟩ (by omega) (hL.add P.L hi q) (by simp) hid
      refine ⟨L', gen', m', a, b, c, ?_⟩
      rw [decide_eq_false q] at hhas
      have hany := fun Kc b => dany_loop (vS := vS) (vD := vD) (vN := vN) (S := S) P hi hl hL Kc D.length 0 b m (by omega) hm
      have hnmd := cut_named P.L hmem
      have hname := name_spec (-1) (IsInts.fsl false (cutsL D N)[i]) (by omega) (fun g => by have := hnmd.b g; omega)
      rw [lessL_no, hrow] at hname
      have hu := updS (c := nameS (cutsL D N)[i]) (v := .bool (canB D N S (cutsL D N)[i])) hm
      have hlast := cuts_last P hi
      have hdl : (decide ((i : Int) = (cutsL D N).length - 1)) = decide ((cutsL D N)[i] = D) := by
        rw [Bool.eq_iff_iff, decide_eq_true_eq, decide_eq_true_eq, hlast]; omega
      have hw2 : IntKind.wrap .i64 (((cutsL D N).length : Int) - 1) = ((cutsL D N).length : Int) - 1 := wrap_id (by omega) (by omega)
      rw [← hdl] at hcan
      simp only [Int.cast_ofNat_Int, Int.ofNat_zero] at hany
      have step : ∀ b, b = canB D N S (cutsL D N)[i] → r09_Definitely.L2 vS (.fptr [vD, vN]) (.fsl false (cutsL D N).length (flatC rowC (cutsL D N))) (.map id) (.int .i64 i) (.bool b) (.int .i64 D.length) m (.code r09_Definitely.r12 :: .inBlock 1 :: .code r09_Definitely.r5 :: .inLoop r09_Definitely.l0 :: .inBlock 0 :: Kc) =
          r09_Definitely.L0 vS (.fptr [vD, vN]) (.fsl false (cutsL D N).length (flatC rowC (cutsL D N))) (.map id) (.int .i64 ((i : Int) - 1)) ⟨upd m.h id (some (.map (gen + 1) (keysS (setS L (nameS (cutsL D N)[i]) (.bool (canB D N S (cutsL D N)[i])))) (valsS (setS L (nameS (cutsL D N)[i]) (.bool (canB D N S (cutsL D N)[i])))))), m.nx⟩ Kc := by
        intro b hb
        rw [← hb] at hu ⊢
        generalize (cutsL D N)[i] = x at i2 hname hrow hu ⊢
        rw [r09_Definitely.L2_eq]
        simp [i1, i2, hrow, hname, hu, hw1, Mem.set]
        done
      have e1 : r09_Definitely.L0 vS (.fptr [vD, vN]) (.fsl false (cutsL D N).length (flatC rowC (cutsL D N))) (.map id) (.int .i64 (i : Int)) m Kc = r09_Definitely.L2 vS (.fptr [vD, vN]) (.fsl false (cutsL D N).length (flatC rowC (cutsL D N))) (.map id) (.int .i64 i) (.bool (decide ((i : Int) = (cutsL D N).length - 1))) (.int .i64 0) m (.code r09_Definitely.r12 :: .inBlock 1 :: .code r09_Definitely.r5 :: .inLoop r09_Definitely.l0 :: .inBlock 0 :: Kc) := by
        generalize (cutsL D N)[i] = x at i2 hhas hrow
        rw [r09_Definitely.L0_eq]
        simp [i1, i2, hS.closed, hhas, hw2]
        done
      rw [e0, e1, hany, step _ hcan.symm, e]
end
end Go.Proofs.Ytdkmepjedjclkaa

/-
  FLAGS: THE REFERENCE's Yes; flags as an argument. Conditions: none.
-/
namespace Go.Proofs.Ytdkmepjedjclkaa
open Go.AM
open Go.Proofs.Try (prog)
set_option linter.all false
set_option maxRecDepth 100000
set_option maxHeartbeats 4000000

/-- A slice of such cells, one for each part. -/
theorem parts_vec {α : Type} [Inhabited α] {R : AV → α → Prop} : ∀ (parts : List (List AV)), (∀ p ∈ parts, ∃ v a, p = [v] ∧ R v a ∧ v.closed = true) → ∃ (cs : List AV) (l : List α), parts.flatten = cs ∧ l.length = parts.length ∧ cs.length = l.length ∧ (∀ i, i < l.length → R (cAt cs i) (gth l i)) ∧ closedL cs = true
  | [], _ => ⟨[], [], rfl, rfl, rfl, fun i hi => by simp at hi, rfl⟩
  | p :: ps, h => by
    obtain ⟨v, a, rfl, h1, h2⟩ := h p (by simp)
    obtain ⟨cs, l, k1, k2, k3, k4, k5⟩ := parts_vec ps fun q hq => h q (by simp [hq])
    refine ⟨v :: cs, a :: l, by rw [List.flatten_cons, k1]; rfl, by simp [k2], by simp [k3], fun i hi => ?_, by simp [h2, k5]⟩
    cases i with
    | zero => exact h1
    | succ i => exact k4 i (by simpa using hi)

end Go.Proofs.Ytdkmepjedjclkaa

/-
  BODIES OF FUNCTIONS OF THE PROGRAM AS SMALL OPERATIONS (written by gen.py; checked by the kernel against the program). Conditions: none.
-/
namespace Go.Proofs.Ytdkmepjedjclkaa
open Go.AM
open Go.Proofs.Try (prog)
set_option maxRecDepth 100000
set_option linter.all false

end Go.Proofs.Ytdkmepjedjclkaa

/-
  WatchFlags RETURNS TRUE. Conditions: none.
-/
namespace Go.Proofs.Ytdkmepjedjclkaa
open Go.AM
open Go.Proofs.Try (prog)
set_option linter.all false
set_option maxRecDepth 100000
set_option maxHeartbeats 4000000

theorem tuples_len : ∀ D : List Int, (∀ i, nth D i ≤ 6) → (tuplesL D).length ≤ 7 ^ D.length
  | [], _ => by simp [tuplesL]
  | d :: D, h => by
    have ih := tuples_len D fun i => h (i + 1)
    have hd : d ≤ 6 := h 0
    have e : ∀ (l : List Nat) (X : List (List Int)), (l.flatMap fun (i : Nat) => X.map (List.cons (i : Int))).length = l.length * X.length := by
      intro l X
      induction l with
      | nil => simp
      | cons a l ih => simp only [List.flatMap_cons, List.length_append, List.length_map, ih, List.length_cons]; rw [Nat.succ_mul]; omega
    simp only [tuplesL]
    rw [e, List.length_range, List.length_cons, Nat.pow_succ, Nat.mul_comm]
    exact Nat.mul_le_mul ih (by omega)
theorem cuts_few {D : List Int} {N : List Note} (L : Lims D N) : (cutsL D N).length ≤ 2401 := by
  refine Nat.le_trans (List.length_filter_le _ _) (Nat.le_trans (tuples_len D L.hi) ?_)
  exact Nat.le_trans (Nat.pow_le_pow_right (by omega) L.n4) (by decide)

/-- A row of flags as a value. -/
def rowBV (l : List Bool) : AV := .fsl (l.length == 0) l.length (flatC boolC l)
def cutF (Y : List (List Bool)) (k : Nat) : List (List Bool) := (Y.take k).map fun l => l.take 8
end Go.Proofs.Ytdkmepjedjclkaa

/-
  THE REFERENCE's Definitely (3): WHAT IT HANDS BACK; its Possibly; sets as arguments. Conditions: none.
-/
namespace Go.Proofs.Ytdkmepjedjclkaa
open Go.AM
open Go.Proofs.Try (prog)
set_option linter.all false
set_option maxRecDepth 100000
set_option maxHeartbeats 4000000

section
variable {D : List Int} {N : List Note} {S : List (List Int)} {vD vN vS : AV} {cs : List AV}
theorem CanMap.at {L : EntS} (hL : CanMap D N S L 0) {x : List Int} (hx : Named D x) : orZ (.bool false) (lkS L (nameS x)) = .bool (canB D N S x) := by
  rw [hL x hx]
  split
  · rfl
  · rename_i h
    rw [canB_no]
    intro hc
    exact h ⟨by simpa using hc.mem, hc.out⟩

theorem dwalk_step (P : Pre D N) {c : List Int} (hc : c ∈ cutsL D N) {L : EntS} (hL : CanMap D N S L 0) {id oid gen : Nat} {acc : List (List Int)} (hal : acc.length < 100000) {m : Mem} (hm : m.h id = some (.map gen (keysS L) (valsS L))) (ho : m.h oid = some (.cells (flatC rowC acc))) (Kc : List Item) : ∀ (k : Nat), k ≤ D.length → (∀ g, k ≤ g → g < D.length → ¬ Can D N S (bump c g)) → (∃ g, g < k ∧ Can D N S (bump c g)) →
    ∃ h, h < D.length ∧ Can D N S (bump c h) ∧ (∀ g, h < g → g < D.length → ¬ Can D N S (bump c g)) ∧
      r09_Definitely.L6 (.fptr [vD, vN]) (.map id) (.fsl false D.length (ints c)) (.sl oid 1 0 acc.length acc.length) (.int .i64 ((k : Int) - 1)) m (.code r09_Definitely.r23 :: .inBlock 5 :: .inLoop r09_Definitely.l4 :: .inBlock 4 :: Kc) =
        r09_Definitely.L4 (.fptr [vD, vN]) (.map id) (.fsl false D.length (ints (bump c h))) (.sl oid 1 0 (acc.length + 1) (acc.length + 1)) ⟨upd m.h oid (some (.cells (flatC rowC acc ++ [.fsl false D.length (ints (bump c h))]))), m.nx⟩ Kc := by
  have h4 := P.L.n4
  obtain ⟨cc, _⟩ := (mem_cuts P.L).1 hc
  have hrow := cc.len
  intro k
  induction k with
  | zero => rintro _ _ ⟨g, hg, _⟩; omega
  | succ k ih =>
    intro h1 h2 h3
    have hk : k < D.length := by omega
    have e0 : ((k + 1 : Nat) : Int) - 1 = (k : Int) := by omega
    have hw1 : IntKind.wrap .i64 ((k : Int) - 1) = (k : Int) - 1 := wrap_id (by omega) (by omega)
    have a := cc.lo k
    have b := cc.hi k
    have d := P.L.hi k
    have hmore := more_spec (IsInts.fsl false c) (by omega) (h := k) (by omega) ⟨by omega, by omega⟩
    have hb := bump_named P.L hc hk
    have hname := name_spec (-1) (IsInts.fsl false (bump c k)) (by rw [bump_len]; omega) (fun g => by have := hb.b g; omega)
    rw [lessL_no, bump_len, hrow] at hname
    rw [hrow] at hmore
    have hlk := lookS hm (.bool false) (c := nameS (bump c k))
    rw [hL.at hb] at hlk
    by_cases q : Can D N S (bump c k)
    · rw [canB_iff.2 q] at hlk
      refine ⟨k, hk, q, fun g hg hgd => h2 g (by omega) hgd, ?_⟩
      have hfl := flatC_row_len acc
      rw [e0, r09_Definitely.L6_eq]
      simp [hmore, hname, hlk, ho, hfl, show acc.length ≤ 4611686018427387903 by omega, show (acc.length + 1) * 24 ≤ 70368744177664 by omega]
      done
    · rw [canB_no q] at hlk
      obtain ⟨h, x1, x2, x3, x4⟩ := ih (by omega) (fun g hg hgd => by
        by_cases e : g = k
        · rw [e]; exact q
        · exact h2 g (by omega) hgd) (by
        obtain ⟨g, hg, r⟩ := h3
        refine ⟨g, ?_, r⟩
        rcases Nat.lt_or_ge g k with h | h
        · exact h
        · exact absurd r (by have : g = k := by omega
                             rw [this]; exact q))
      refine ⟨h, x1, x2, x3, ?_⟩
      rw [← x4, e0, r09_Definitely.L6_eq]
      simp [hmore, hname, hlk, hw1]
      done

theorem dwalk_loop (P : Pre D N) (hD : IsInts vD D) {L : EntS} (hL : CanMap D N S L 0) {id oid gen : Nat} (hne : id ≠ oid) : ∀ (f : Nat) (c : List Int) (acc : List (List Int)) (m : Mem), Can D N S c → D.sum ≤ c.sum + f → acc.length + f < 100000 → m.h id = some (.map gen (keysS L) (valsS L)) → m.h oid = some (.cells (flatC rowC acc)) →
    ∃ l, Path D N S c (c :: l) ∧ r09_Definitely.L4 (.fptr [vD, vN]) (.map id) (.fsl false D.length (ints c)) (.sl oid 1 0 acc.length acc.length) m [.code r09_Definitely.r24, .code .ret] = some (.fsl false (acc ++ l).length (flatC rowC (acc ++ l)), Mem.empty) := by
  have h4 := P.L.n4
  intro f
  induction f with
  | zero =>
    intro c acc m hc hf hal hm ho
    have cc := ((mem_cuts P.L).1 hc.mem).1
    have hcD : c = D := sum_eq _ _ cc.len cc.hi (by omega)
    have hsame := same_spec (IsInts.fsl false c) hD (by have := cc.len; omega) (by omega)
    rw [decide_eq_true hcD, cc.len] at hsame
    have hdp : ∀ d, mapO (deep m.h (d + 1)) (flatC rowC acc) = some (flatC rowC acc) := fun d => flatC_deep _ _ (fun a => by simp [rowC]) _
    have htk : (flatC rowC acc).take acc.length = flatC rowC acc := List.take_of_length_le (by rw [flatC_row_len]; exact Nat.le_refl _)
    refine ⟨[], by rw [hcD]; exact .last, ?_⟩
    rw [r09_Definitely.L4_eq]
    simp [hsame, hD.closed, ho, flatC_row_len, hdp, htk]
    done
  | succ f ih =>
    intro c acc m hc hf hal hm ho
    have cc := ((mem_cuts P.L).1 hc.mem).1
    have hsame := same_spec (IsInts.fsl false c) hD (by have := cc.len; omega) (by omega)
    by_cases q : c = D
    · rw [decide_eq_true q, cc.len] at hsame
      have hdp : ∀ d, mapO (deep m.h (d + 1)) (flatC rowC acc) = some (flatC rowC acc) := fun d => flatC_deep _ _ (fun a => by simp [rowC]) _
      have htk : (flatC rowC acc).take acc.length = flatC rowC acc := List.take_of_length_le (by rw [flatC_row_len]; exact Nat.le_refl _)
      refine ⟨[], by rw [q]; exact .last, ?_⟩
      rw [r09_Definitely.L4_eq]
      simp [hsame, hD.closed, ho, flatC_row_len, hdp, htk]
      done
    · rw [decide_eq_false q, cc.len] at hsame
      obtain ⟨h, x1, x2, x3, x4⟩ := dwalk_step (vD := vD) (vN := vN) P hc.mem hL (by omega) hm ho [.code r09_Definitely.r24, .code .ret] D.length (Nat.le_refl _) (fun g hg hgd => by omega) (hc.on q)
      have hbl : (bump c h).length = D.length := by rw [bump_len, cc.len]
      have hfl : flatC rowC (acc ++ [bump c h]) = flatC rowC acc ++ [.fsl false D.length (ints (bump c h))] := by rw [flatC_append, flatC_one]; simp only [rowC, hbl]
      obtain ⟨l, p, e⟩ := ih (bump c h) (acc ++ [bump c h]) ⟨upd m.h oid (some (.cells (flatC rowC acc ++ [.fsl false D.length (ints (bump c h))]))), m.nx⟩ x2 (by rw [sum_bump (by rw [cc.len]; exact x1)]; omega) (by simp; omega) (by simp [show (id == oid) = false from beq_eq_false_iff_ne.2 hne, hm]) (by simp [hfl])
      refine ⟨bump c h :: l, .step q x1 x2 x3 p, ?_⟩
      have e2 : acc ++ bump c h :: l = acc ++ [bump c h] ++ l := by simp
      rw [e2, ← e, List.length_append, List.length_singleton, ← x4, r09_Definitely.L4_eq]
      have hwn : IntKind.wrap .i64 ((D.length : Int) - 1) = (D.length : Int) - 1 := wrap_id (by omega) (by omega)
      simp [hsame, hD.closed, hwn]
      done

/-- What the reference's Definitely hands back. -/
inductive DefR (D : List Int) (N : List Note) (S : List (List Int)) : AV → Prop where
  | no (h : ¬ Can D N S (List.replicate D.length 0)) : DefR D N S .nils
  | yes {l : List (List Int)} (h : Can D N S (List.replicate D.length 0)) (p : Path D N S (List.replicate D.length 0) l) : DefR D N S (.fsl false l.length (flatC rowC l))

theorem cuts_first (P : Pre D N) : (cutsL D N).head? = some (List.replicate D.length 0) :=
  head_least (cuts_sorted D N) (zeros_cut P.L P) (fun y hy => cutsL_row hy) fun y hy g => by rw [nth_zero']; exact ((mem_cuts P.L).1 hy).1.lo g

theorem defR_spec {v : AV} (hs : IsTale v D N) (P : Pre D N) (hS : IsVec IsInts vS cs S) (hw : Short S) (hSl : S.length < 1000000) : ∃ r, DefR D N S r ∧ ∀ m, denC prog ann 41 [v, vS] m = some (r, m) := by
  have h4 := P.L.n4
  have hcf := cuts_few (N := N) P.L
  have hcut := cutsR_spec hs P.L
  have hz := cuts_first P
  obtain ⟨vD, vN, rfl, h1, h2⟩ := hs.ex
  have hcl : closedL [.agg [vD, vN], vS] = true := by simp [h1.closed, h2.closed, hS.closed]
  have hpos : 0 < (cutsL D N).length := List.length_pos_of_mem (zeros_cut P.L P)
  have hz0 : (cutsL D N)[0] = List.replicate D.length 0 := by
    rw [List.head?_eq_getElem?, List.getElem?_eq_getElem hpos] at hz
    exact Option.some.inj hz
  obtain ⟨L, gen, m1, a1, a2, a3, a4⟩ := dcan_loop (vD := vD) (vN := vN) P hS hw hSl (by omega) (id := 0) [.code r09_Definitely.r13, .code r09_Definitely.r14, .code r09_Definitely.i3, .code r09_Definitely.r16, .code r09_Definitely.k4, .code r09_Definitely.r24, .code .ret] (cutsL D N).length [] 0 ⟨upd Mem.empty.h 0 (some (.map 0 [] [])), 1⟩ (Nat.le_refl _) (fun x hx z => by
      rw [List.drop_of_length_le (Nat.le_refl _), if_neg (fun h => by cases h.1)]; rfl) (by simp [keysS, valsS]) (by show 0 < 1; omega)
  have hwl : IntKind.wrap .i64 (((cutsL D N).length : Int) - 1) = ((cutsL D N).length : Int) - 1 := wrap_id (by omega) (by omega)
  have i1 := (IsSl.fsl (f := rowC) false (cutsL D N)).idx (rowC_len _) hpos .i64
  have i2 := load_row hpos
  have hcth : cth (cutsL D N) 0 = List.replicate D.length 0 := by have := cth_eq hpos; rw [List.getElem?_eq_getElem hpos, hz0] at this; exact (Option.some.inj this).symm
  rw [hcth] at i2
  simp only [Int.ofNat_zero, Int.cast_ofNat_Int, List.drop_zero] at i1 i2
  have hnz : Named D (List.replicate D.length 0) := ⟨by simp, fun g => by rw [nth_zero']; omega⟩
  have hname := name_spec (-1) (IsInts.fsl false (List.replicate D.length 0)) (by simp; omega) (fun g => by rw [nth_zero']; omega)
  rw [lessL_no] at hname
  have hlz : (List.replicate D.length (0 : Int)).length = D.length := by simp
  have hlk := lookS a2 (.bool false) (c := nameS (List.replicate D.length 0))
  rw [a1.at hnz] at hlk
  have hrowz : flatC rowC [List.replicate D.length 0] = [.fsl false D.length (ints (List.replicate D.length 0))] := by rw [flatC_one]; simp only [rowC, hlz]
  have hne0 : (0 : Nat) ≠ m1.nx := by omega
  by_cases q : Can D N S (List.replicate D.length 0)
  · rw [canB_iff.2 q] at hlk
    have hs0 := sum_six D h4 P.L.hi
    obtain ⟨l, p, e⟩ := dwalk_loop (vD := vD) (vN := vN) P h1 a1 (id := 0) (oid := m1.nx) (gen := gen) hne0 24 (List.replicate D.length 0) [List.replicate D.length 0] ⟨upd m1.h m1.nx (some (.cells [.fsl false D.length (ints (List.replicate D.length 0))])), m1.nx + 1⟩ q (by simp; omega) (by simp) (by simp [show ((0 : Nat) == m1.nx) = false from beq_eq_false_iff_ne.2 hne0, a2]) (by rw [hrowz]; simp)
    refine ⟨_, .yes q p, fun m => ?_⟩
    rw [List.singleton_append] at e
    generalize hZ : List.replicate D.length (0 : Int) = z at *
    generalize flatC rowC (z :: l) = R at e ⊢
    generalize (z :: l).length = nR at e ⊢
    rw [hlz] at i2 hname
    simp at e
    rw [r09_Definitely.call_eq _ _ _ hcl]
    simp [h1.one, h2.one, h1.closed, h2.closed, hcut, hwl, a4]
    rw [r09_Definitely.L0_eq]
    simp [i1, i2, hname, hlk, hpos, e]
    done
  · rw [canB_no q] at hlk
    refine ⟨_, .no q, fun m => ?_⟩
    generalize hZ : List.replicate D.length (0 : Int) = z at *
    rw [hlz] at i2 hname
    rw [r09_Definitely.call_eq _ _ _ hcl]
    simp [h1.one, h2.one, h1.closed, h2.closed, hcut, hwl, a4]
    rw [r09_Definitely.L0_eq]
    simp [i1, i2, hname, hlk, hpos]
    done
end
end Go.Proofs.Ytdkmepjedjclkaa

/-
  THE REFERENCE's Possibly; sets as arguments. Conditions: none.
-/
namespace Go.Proofs.Ytdkmepjedjclkaa
open Go.AM
open Go.Proofs.Try (prog)
set_option linter.all false
set_option maxRecDepth 100000
set_option maxHeartbeats 4000000

/-- The best cut so far. -/
def bestF (N : List Note) (b : Option (List Int)) (c : List Int) : Option (List Int) := if (conR N c && (match b with | none => true | some d => lexLt c d)) = true then some c else b
/-- It as a value. -/
def OptV (b : Option (List Int)) (v : AV) : Prop := match b with
  | none => v = .nils
  | some c => ∃ ex, v = .fsl ex c.length (ints c)
theorem neil22 : binA prog .neq 22 .nils .nils = some (.bool false) := by simp [binA, eqT, eqA, und22]
theorem neil22' (x : Bool) (n : Nat) (cs : List AV) : binA prog .neq 22 (.fsl x n cs) .nils = some (.bool true) := by simp [binA, eqT, eqA, und22]

section
variable {D : List Int} {N : List Note} {S : List (List Int)} {vD vN vS : AV} {cs : List AV}
theorem possR_loop (hs : IsTale (.agg [vD, vN]) D N) (L : Lims D N) (hS : IsVec IsInts vS cs S) (hr : ∀ r ∈ S, r.length = D.length) (hl : S.length < 1000000) : ∀ (k i : Nat) (b : Option (List Int)) (vb : AV) (m : Mem), i + k = S.length → OptV b vb → (∀ c, b = some c → c.length = D.length) →
    ∃ r, OptV ((S.drop i).foldl (bestF N) b) r ∧ r09_Possibly.L0 vS (.fptr [vD, vN]) vb (.int .i64 i) m [.code r09_Possibly.r7, .code .ret] = some (r, Mem.empty) := by
  have h4 := L.n4
  have h1' := L.n1
  have hs' := hs
  obtain ⟨_, _, e0, hD, hN⟩ := hs.ex
  cases e0
  intro k
  induction k with
  | zero =>
    intro i b vb m h1 hb hbl
    have e : i = S.length := by omega
    have hdp : ∀ h d, deep h (d + 1) vb = some vb := by
      cases b with
      | none => rw [show vb = .nils from hb]; exact fun _ _ => rfl
      | some c => obtain ⟨ex, rfl⟩ := hb; exact fun _ _ => rfl
    refine ⟨vb, by rw [List.drop_of_length_le (by omega)]; exact hb, ?_⟩
    rw [r09_Possibly.L0_eq]
    simp [e, hS.len, hdp]
    done
  | succ k ih =>
    intro i b vb m h1 hb hbl
    have hi : i < S.length := by omega
    have hwr : IntKind.wrap .i64 ((i : Int) + 1) = (i : Int) + 1 := wrap_id (by omega) (by omega)
    have hrow := hr _ (gth_mem hi)
    have hc := hS.at hi
    obtain ⟨exc, hce⟩ : ∃ ex, cAt cs i = .fsl ex (gth S i).length (ints (gth S i)) := by
      rcases hc with ⟨_, e⟩ | h
      · rw [e] at hrow; simp at hrow; omega
      · exact h
    have hcon := fun m => consR_spec hs' hc (by have := L.N24; omega) (fun x hx => by have := L.notes x hx; omega) m
    rw [drop_gth hi, List.foldl_cons]
    have hidx := hS.idx hi .i64
    have hld := hS.load hi
    rw [hce] at hld hcon hc
    cases q : conR N (gth S i) with
    | false =>
      rw [q] at hcon
      obtain ⟨r, r1, r2⟩ := ih (i + 1) b vb ⟨m.h, m.nx + 18⟩ (by omega) hb hbl
      refine ⟨r, by simpa [bestF, q] using r1, ?_⟩
      simp only [Int.natCast_add, Int.cast_ofNat_Int] at r2
      rw [← r2, r09_Possibly.L0_eq]
      simp [hS.len, hi, hidx, hld, hD.one, hN.one, hD.closed, hN.closed, hcon, hwr]
      done
    | true =>
      rw [q] at hcon
      cases b with
      | none =>
        have hb' : vb = .nils := hb
        subst hb'
        obtain ⟨r, r1, r2⟩ := ih (i + 1) (some (gth S i)) (.fsl exc (gth S i).length (ints (gth S i))) ⟨m.h, m.nx + 18⟩ (by omega) ⟨exc, rfl⟩ (fun c h => by rw [← Option.some.inj h]; exact hrow)
        refine ⟨r, by simpa [bestF, q] using r1, ?_⟩
        simp only [Int.natCast_add, Int.cast_ofNat_Int] at r2
        rw [← r2, r09_Possibly.L0_eq]
        simp [hS.len, hi, hidx, hld, hD.one, hN.one, hD.closed, hN.closed, hcon, hwr, nil22']
        done
      | some d =>
        obtain ⟨exd, rfl⟩ := hb
        have hdl := hbl d rfl
        have hbf := before_spec hc (IsInts.fsl exd d) (by omega)
        cases q2 : lexLt (gth S i) d with
        | true =>
          rw [q2] at hbf
          obtain ⟨r, r1, r2⟩ := ih (i + 1) (some (gth S i)) (.fsl exc (gth S i).length (ints (gth S i))) ⟨m.h, m.nx + 18⟩ (by omega) ⟨exc, rfl⟩ (fun c h => by rw [← Option.some.inj h]; exact hrow)
          refine ⟨r, by simpa [bestF, q, q2] using r1, ?_⟩
          simp only [Int.natCast_add, Int.cast_ofNat_Int] at r2
          rw [← r2, r09_Possibly.L0_eq]
          simp [hS.len, hi, hidx, hld, hD.one, hN.one, hD.closed, hN.closed, hcon, hwr, nil22, hbf]
          done
        | false =>
          rw [q2] at hbf
          obtain ⟨r, r1, r2⟩ := ih (i + 1) (some d) (.fsl exd d.length (ints d)) ⟨m.h, m.nx + 18⟩ (by omega) ⟨exd, rfl⟩ hbl
          refine ⟨r, by simpa [bestF, q, q2] using r1, ?_⟩
          simp only [Int.natCast_add, Int.cast_ofNat_Int] at r2
          rw [← r2, r09_Possibly.L0_eq]
          simp [hS.len, hi, hidx, hld, hD.one, hN.one, hD.closed, hN.closed, hcon, hwr, nil22, hbf]
          done

theorem lex_trans : ∀ {a b c : List Int}, lexLt a b = true → lexLt b c = true → lexLt a c = true
  | [], [], _, h, _ => by simp [lexLt] at h
  | [], _ :: _, [], _, h => by simp [lexLt] at h
  | [], _ :: _, _ :: _, _, _ => rfl
  | _ :: _, [], _, h, _ => by simp [lexLt] at h
  | _ :: _, _ :: _, [], _, h => by simp [lexLt] at h
  | x :: a, y :: b, z :: c, h1, h2 => by
    simp only [lexLt] at h1 h2 ⊢
    by_cases e1 : x = y
    · subst e1
      rw [if_pos rfl] at h1
      by_cases e2 : x = z
      · subst e2
        rw [if_pos rfl] at h2 ⊢
        exact lex_trans h1 h2
      · rw [if_neg e2] at h2 ⊢; exact h2
    · rw [if_neg e1, decide_eq_true_eq] at h1
      by_cases e2 : y = z
      · subst e2
        rw [if_neg e1, decide_eq_true_eq]; exact h1
      · rw [if_neg e2, decide_eq_true_eq] at h2
        rw [if_neg (by omega), decide_eq_true_eq]; omega

/-- What is known of the best. -/
def BestOk (N : List Note) (S : List (List Int)) (b : Option (List Int)) : Prop := match b with
  | none => ∀ c ∈ S, conR N c = false
  | some d => d ∈ S ∧ conR N d = true ∧ ∀ c ∈ S, conR N c = true → lexLt c d = false
theorem best_step {S : List (List Int)} {b : Option (List Int)} (h : BestOk N S b) (c : List Int) : BestOk N (S ++ [c]) (bestF N b c) := by
  have mem : ∀ x, x ∈ S ++ [c] ↔ x ∈ S ∨ x = c := fun x => by simp
  cases q : conR N c with
  | false =>
    have e : bestF N b c = b := by simp [bestF, q]
    rw [e]
    cases b with
    | none => intro x hx; rcases (mem x).1 hx with h1 | rfl; exact h x h1; exact q
    | some d =>
      refine ⟨(mem d).2 (.inl h.1), h.2.1, fun x hx hc => ?_⟩
      rcases (mem x).1 hx with h1 | rfl
      · exact h.2.2 x h1 hc
      · rw [q] at hc; cases hc
  | true =>
    cases b with
    | none =>
      have e : bestF N none c = some c := by simp [bestF, q]
      rw [e]
      refine ⟨(mem c).2 (.inr rfl), q, fun x hx hc => ?_⟩
      rcases (mem x).1 hx with h1 | rfl
      · rw [h x h1] at hc; cases hc
      · exact lexLt_irr x
    | some d =>
      cases q2 : lexLt c d with
      | true =>
        have e : bestF N (some d) c = some c := by simp [bestF, q, q2]
        rw [e]
        refine ⟨(mem c).2 (.inr rfl), q, fun x hx hc => ?_⟩
        rcases (mem x).1 hx with h1 | rfl
        · cases q3 : lexLt x c with
          | false => rfl
          | true =>
            have := lex_trans q3 q2
            rw [h.2.2 x h1 hc] at this; cases this
        · exact lexLt_irr x
      | false =>
        have e : bestF N (some d) c = some d := by simp [bestF, q, q2]
        rw [e]
        refine ⟨(mem d).2 (.inl h.1), h.2.1, fun x hx hc => ?_⟩
        rcases (mem x).1 hx with h1 | rfl
        · exact h.2.2 x h1 hc
        · exact q2
theorem best_all : ∀ (T S : List (List Int)) (b : Option (List Int)), BestOk N S b → BestOk N (S ++ T) (T.foldl (bestF N) b)
  | [], S, b, h => by simpa using h
  | c :: T, S, b, h => by
    have := best_all T (S ++ [c]) _ (best_step h c)
    simpa using this
theorem best_find (L : Lims D N) (hS : ∀ r ∈ S, CutL D r) : S.foldl (bestF N) none = (cutsL D N).find? (fun c => decide (c ∈ S)) := by
  have hb := best_all (N := N) S [] none (fun c hc => by cases hc)
  rw [List.nil_append] at hb
  rw [find_sub]
  have hso := (cuts_sorted D N).filter (fun c => decide (c ∈ S))
  have hmem : ∀ c, c ∈ (cutsL D N).filter (fun c => decide (c ∈ S)) ↔ c ∈ S ∧ conR N c = true := fun c => by
    rw [List.mem_filter, mem_cuts L, decide_eq_true_eq]
    exact ⟨fun ⟨⟨_, b⟩, c⟩ => ⟨c, b⟩, fun ⟨a, b⟩ => ⟨⟨hS c a, b⟩, a⟩⟩
  generalize (cutsL D N).filter (fun c => decide (c ∈ S)) = Fl at hso hmem
  cases q : S.foldl (bestF N) none with
  | none =>
    rw [q] at hb
    cases Fl with
    | nil => rfl
    | cons f l =>
      obtain ⟨a, b⟩ := (hmem f).1 (by simp)
      rw [hb f a] at b; cases b
  | some d =>
    rw [q] at hb
    obtain ⟨b1, b2, b3⟩ := hb
    have hd := (hmem d).2 ⟨b1, b2⟩
    cases Fl with
    | nil => cases hd
    | cons f l =>
      obtain ⟨a, b⟩ := (hmem f).1 (by simp)
      rw [List.pairwise_cons] at hso
      rcases List.mem_cons.1 hd with e | e
      · rw [e]; rfl
      · have := hso.1 d e
        rw [b3 f a b] at this; cases this

theorem possR_spec {v : AV} (hs : IsTale v D N) (L : Lims D N) (hS : IsVec IsInts vS cs S) (hc : ∀ r ∈ S, CutL D r) (hl : S.length < 1000000) : ∃ r, OptV ((cutsL D N).find? (fun c => decide (c ∈ S))) r ∧ ∀ m, denC prog ann 40 [v, vS] m = some (r, m) := by
  obtain ⟨vD, vN, rfl, h1, h2⟩ := hs.ex
  obtain ⟨r, r1, r2⟩ := possR_loop hs L hS (fun r hr => (hc r hr).len) hl S.length 0 none .nils Mem.empty (by omega) rfl (fun c h => by cases h)
  rw [List.drop_zero, best_find L hc] at r1
  simp only [Int.cast_ofNat_Int, Int.ofNat_zero] at r2
  refine ⟨r, r1, fun m => ?_⟩
  rw [r09_Possibly.call_eq _ _ _ (by simp [h1.closed, h2.closed, hS.closed])]
  simp [h1.one, h2.one, h1.closed, h2.closed, r2]
end

/-! ### Sets as arguments -/
theorem dat22' {d : Nat} {cs : List AV} (h : Dat prog (d + 2) 22 cs) : ∃ v l, cs = [v] ∧ (IsInts v l ∧ (l.length : Int) ≤ 9223372036854775807) ∧ v.closed = true := by
  obtain ⟨v, l, e, h1, h2⟩ := dat22 h
  exact ⟨v, l, e, ⟨h1, h2⟩, h1.closed⟩
theorem datV31 {d : Nat} {a : AV} (h : DatV prog (d + 3) 31 a) : ∃ cs L, IsVec IsInts a cs L ∧ (L.length : Int) ≤ 9223372036854775807 ∧ ∀ i, i < L.length → ((gth L i).length : Int) ≤ 9223372036854775807 := by
  simp only [DatV, u31] at h
  rw [Dat] at h
  simp only [u31] at h
  rcases h with h | ⟨parts, h, hl, hp⟩
  · simp at h; subst h
    exact ⟨[], [], ⟨rfl, fun i hi => by simp at hi, rfl, .inl ⟨rfl, rfl⟩⟩, by simp, fun i hi => by simp at hi⟩
  · obtain ⟨cs, l, k1, k2, k3, k4, k5⟩ := parts_vec (R := fun v (l : List Int) => IsInts v l ∧ (l.length : Int) ≤ 9223372036854775807) parts (fun p hq => dat22' (hp p hq).2)
    have : maxLen = 9223372036854775807 := by decide
    simp at h; subst h
    exact ⟨cs, l, ⟨k3, fun i hi => (k4 i hi).1, k5, .inr ⟨false, by rw [k2, ← k1]⟩⟩, by omega, fun i hi => (k4 i hi).2⟩

def cutS (Y : List (List Int)) (k : Nat) : List (List Int) := (Y.take k).map fun l => l.take 5
theorem cutS_len (Y : List (List Int)) (k : Nat) : (cutS Y k).length = min k Y.length := by simp [cutS]
theorem cutS_succ {Y : List (List Int)} {i : Nat} (hi : i < Y.length) : cutS Y (i + 1) = cutS Y i ++ [(gth Y i).take 5] := by
  simp [cutS, List.take_add_one, gth_eq hi]
theorem cAt_append {X : List AV} {w : AV} {j : Nat} : cAt (X ++ [w]) j = if j < X.length then cAt X j else if j = X.length then w else .undef := by
  simp only [cAt, List.getD]
  by_cases h : j < X.length
  · rw [List.getElem?_append_left h, if_pos h]
  · rw [List.getElem?_append_right (by omega), if_neg h]
    by_cases e : j = X.length
    · subst e; simp
    · rw [if_neg e]
      obtain ⟨q, hq⟩ : ∃ q, j - X.length = q + 1 := ⟨j - X.length - 1, by omega⟩
      rw [hq]; rfl
theorem gth_append {α : Type} [Inhabited α] {X : List α} {w : α} {j : Nat} (h : j < X.length + 1) : gth (X ++ [w]) j = if j < X.length then gth X j else w := by
  simp only [gth, List.getD]
  by_cases e : j < X.length
  · rw [List.getElem?_append_left e, if_pos e]
  · rw [List.getElem?_append_right (by omega), if_neg e]
    have : j - X.length = 0 := by omega
    rw [this]; rfl

theorem sets_loop {vY : AV} {cy : List AV} {Y : List (List Int)} (hY : IsVec IsInts vY cy Y) (hw : ∀ i, i < Y.length → ((gth Y i).length : Int) ≤ 9223372036854775807) : ∀ (k i : Nat) (X : List AV) (m : Mem), i + k = min 2501 Y.length → X.length = i → (∀ j, j < i → IsInts (cAt X j) (gth (cutS Y i) j)) → closedL X = true → m.h 0 = some (.cells X) →
    ∃ X', IsVec IsInts (.fsl false X'.length X') X' (cutS Y (min 2501 Y.length)) ∧ l09_sets.L0 vY (.sl 0 1 0 i i) (.int .i64 i) m [.code l09_sets.r6, .code .ret] = some (.fsl false X'.length X', Mem.empty) := by
  intro k
  induction k with
  | zero =>
    intro i X m h1 hX hR hcl hm
    have e : i = min 2501 Y.length := by omega
    have hdp : ∀ d, mapO (deep m.h (d + 1)) X = some X := fun d => by
      have key : ∀ X : List AV, (∀ j, j < X.length → ∃ l, IsInts (cAt X j) l) → mapO (deep m.h (d + 1)) X = some X := by
        intro X
        induction X with
        | nil => intro _; rfl
        | cons x X ih =>
          intro h
          obtain ⟨l, hl⟩ := h 0 (by simp)
          have hx : IsInts x l := hl
          rw [mapO_cons, hx.deep, ih fun j hj => h (j + 1) (by simpa using hj)]; rfl
      exact key X fun j hj => ⟨_, hR j (by omega)⟩
    have htk : X.take i = X := List.take_of_length_le (by omega)
    refine ⟨X, ⟨by rw [cutS_len]; omega, fun j hj => by rw [← e]; exact hR j (by rw [cutS_len] at hj; omega), hcl, .inr ⟨false, by rw [cutS_len, hX]; congr 1; omega⟩⟩, ?_⟩
    have q1 : (i < Y.length) = False ∨ ((i < Y.length) = True ∧ ¬ (i : Int) ≤ 2500) := by
      by_cases q : i < Y.length
      · exact .inr ⟨eq_true q, by omega⟩
      · exact .inl (eq_false q)
    rw [l09_sets.L0_eq]
    rcases q1 with q1 | ⟨q1, q2⟩
    · simp [hY.len, q1, hm, hX, hdp, htk]
      done
    · simp [hY.len, q1, q2, hm, hX, hdp, htk]
      done
  | succ k ih =>
    intro i X m h1 hX hR hcl hm
    have hi : i < Y.length := by omega
    have h25 : (i : Int) ≤ 2500 := by omega
    have hwr : IntKind.wrap .i64 ((i : Int) + 1) = (i : Int) + 1 := wrap_id (by omega) (by omega)
    have hb := hY.at hi
    obtain ⟨w, w1, w2⟩ := few_spec hb (hw i hi)
    obtain ⟨X', a, b⟩ := ih (i + 1) (X ++ [w]) ⟨upd m.h 0 (some (.cells (X ++ [w]))), m.nx⟩ (by omega) (by simp [hX]) (fun j hj => by
      have hl : (cutS Y i).length = i := by rw [cutS_len]; omega
      rw [cAt_append, cutS_succ hi, gth_append (by omega), hX, hl]
      by_cases e : j < i
      · rw [if_pos e, if_pos e]; exact hR j e
      · rw [if_neg e, if_neg e, if_pos (by omega)]; exact w1) (by simp [hcl, w1.closed]) (by simp)
    refine ⟨X', a, ?_⟩
    simp only [Int.natCast_add, Int.cast_ofNat_Int] at b
    rw [← b, l09_sets.L0_eq]
    simp [hY.len, hi, h25, hY.idx hi, hY.load hi, hb.closed, w2, w1.one, w1.closed, w1.cells, hm, hX, hwr, show i ≤ 4611686018427387903 by omega, show (i + 1) * 24 ≤ 70368744177664 by omega]
    done
theorem sets_spec {vY : AV} {cy : List AV} {Y : List (List Int)} (hY : IsVec IsInts vY cy Y) (hw : ∀ i, i < Y.length → ((gth Y i).length : Int) ≤ 9223372036854775807) :
    ∃ X', IsVec IsInts (.fsl false X'.length X') X' (cutS Y (min 2501 Y.length)) ∧ ∀ m, denC prog ann 37 [vY] m = some (.fsl false X'.length X', m) := by
  obtain ⟨X', a, b⟩ := sets_loop hY hw (min 2501 Y.length) 0 [] ⟨upd Mem.empty.h 0 (some (.cells [])), 1⟩ (by omega) rfl (fun j hj => by omega) rfl (by simp)
  simp only [Int.cast_ofNat_Int, Int.ofNat_zero] at b
  refine ⟨X', a, fun m => ?_⟩
  rw [l09_sets.call_eq _ _ (by simp [hY.closed])]
  simp [b]
end Go.Proofs.Ytdkmepjedjclkaa

/-
  WatchGarg RETURNS TRUE. Conditions: none.
-/
namespace Go.Proofs.Ytdkmepjedjclkaa
open Go.AM
open Go.Proofs.Try (prog)
set_option linter.all false
set_option maxRecDepth 100000
set_option maxHeartbeats 4000000

def rowW (l : List Bool) : AV := .fsl false l.length (flatC boolC l)
theorem vec_rows (ex : Bool) (Y : List (List Int)) : IsVec IsInts (.fsl ex Y.length (flatC rowC Y)) (flatC rowC Y) Y := by
  rw [flatC_row]
  exact vec_of (g := fun c : List Int => AV.fsl false c.length (ints c)) (fun c => IsInts.fsl false c) (fun _ => rfl) ex Y
end Go.Proofs.Ytdkmepjedjclkaa

/-
  BODIES OF FUNCTIONS OF THE PROGRAM AS SMALL OPERATIONS (written by gen.py; checked by the kernel against the program). Conditions: none.
-/
namespace Go.Proofs.Ytdkmepjedjclkaa
open Go.AM
open Go.Proofs.Try (prog)
set_option maxRecDepth 100000
set_option linter.all false

namespace l09_WatchSets
/-- pommel/pommellaw09.WatchSets -/
noncomputable def b : Code := (Try.f8.body).getD .skip
theorem hf : prog.funcs[8]? = some Try.f8 := by kernel_rfl
noncomputable def r0 : Code := findReg b 0
noncomputable def r1 : Code := findReg b 1
noncomputable def r2 : Code := findReg b 2
noncomputable def r3 : Code := findReg b 3
noncomputable def r4 : Code := findReg b 4
noncomputable def r5 : Code := findReg b 5
noncomputable def i0 : Code := findCond b 0
noncomputable def i0t : Code := thenOf i0
noncomputable def i0e : Code := elseOf i0
noncomputable def r6 : Code := findReg b 6
noncomputable def r7 : Code := findReg b 7
noncomputable def i1 : Code := findCond b 1
noncomputable def i1t : Code := thenOf i1
noncomputable def i1e : Code := elseOf i1
noncomputable def r8 : Code := findReg b 8
noncomputable def r9 : Code := findReg b 9
noncomputable def k0 : Code := findBlk b 0
noncomputable def l0 : Code := loopOf k0
noncomputable def L0 (x5 x6 x7 x8 x9 x10 x11 x12 : AV) (m : Mem) (K : List Item) : Option Res := den prog ann 8 (.code l0 :: .inLoop l0 :: .inBlock 0 :: K) ⟨[(5, x5), (6, x6), (7, x7), (8, x8), (9, x9), (10, x10), (11, x11), (12, x12)], 122, m⟩
noncomputable def r10 : Code := findReg b 10
noncomputable def i2 : Code := findCond b 2
noncomputable def i2t : Code := thenOf i2
noncomputable def i2e : Code := elseOf i2
noncomputable def k1 : Code := findBlk b 1
noncomputable def r12 : Code := findReg b 12
noncomputable def i3 : Code := findCond b 3
noncomputable def i3t : Code := thenOf i3
noncomputable def i3e : Code := elseOf i3
noncomputable def r13 : Code := findReg b 13
noncomputable def r11 : Code := findReg b 11
noncomputable def r14 : Code := findReg b 14
noncomputable def i4 : Code := findCond b 4
noncomputable def i4t : Code := thenOf i4
noncomputable def i4e : Code := elseOf i4
noncomputable def r15 : Code := findReg b 15
noncomputable def r16 : Code := findReg b 16
noncomputable def r17 : Code := findReg b 17
theorem b_eq (K : List Item) (s : St) : den prog ann 8 (.code b :: K) s = den prog ann 8 (.code r0 :: .code r1 :: .code r2 :: .code r3 :: .code r4 :: .code r5 :: .code i0 :: .code r9 :: .code k0 :: .code r14 :: .code i4 :: .code r16 :: .code r17 :: .code .ret :: K) s := den_flat hf (l := [r0, r1, r2, r3, r4, r5, i0, r9, k0, r14, i4, r16, r17, .ret]) (by kernel_rfl) K s
theorem r0_eq (K : List Item) (s : St) : den prog ann 8 (.code r0 :: K) s = mreg prog ann 8 none [] none [] [
    ⟨some 2, none, .v fun s => frozenPtr (s.get 0)⟩,
    ⟨some 4, none, .v fun s => some (.bool false)⟩] K s := (den_reg hf _ K s).trans (by kernel_rfl)
theorem r1_eq (K : List Item) (s : St) : den prog ann 8 (.code r1 :: K) s = mreg prog ann 8 none [] none [5] [
    ⟨some 15, none, .v fun s => loadF true 2 (s.get 2)⟩,
    ⟨some 16, none, .c 0 (fun s => (.fn 17 [] [])) fun s => [(s.get 15)]⟩,
    ⟨some 17, none, .v fun s => some (s.get 1)⟩,
    ⟨some 18, none, .c 0 (fun s => (.fn 37 [] [])) fun s => [(s.get 17)]⟩,
    ⟨some 5, none, .w false none fun s => newPtr s.m [.nils, .nils]⟩,
    ⟨none, none, .w false none fun s => stA true 2 s.m (s.get 5) (s.get 16)⟩,
    ⟨some 6, none, .v fun s => some (s.get 18)⟩] K s := (den_reg hf _ K s).trans (by kernel_rfl)
theorem r2_eq (K : List Item) (s : St) : den prog ann 8 (.code r2 :: K) s = mreg prog ann 8 none [] none [] [
    ⟨some 20, none, .v fun s => loadF true 2 (s.get 5)⟩,
    ⟨some 21, none, .v fun s => some (s.get 6)⟩,
    ⟨some 22, none, .c 2 (fun s => (.fn 38 [] [])) fun s => [(s.get 20), (s.get 21)]⟩,
    ⟨some 19, none, .v fun s => some (s.get 22)⟩,
    ⟨some 23, none, .v fun s => extA (s.get 19) 0⟩,
    ⟨some 24, none, .v fun s => extA (s.get 19) 1⟩,
    ⟨some 7, none, .v fun s => some (s.get 23)⟩,
    ⟨some 8, none, .v fun s => some (s.get 24)⟩] K s := (den_reg hf _ K s).trans (by kernel_rfl)
theorem r3_eq (K : List Item) (s : St) : den prog ann 8 (.code r3 :: K) s = mreg prog ann 8 none [] none [] [
    ⟨some 26, none, .v fun s => loadF true 2 (s.get 5)⟩,
    ⟨some 27, none, .v fun s => some (s.get 6)⟩,
    ⟨some 28, none, .c 2 (fun s => (.fn 39 [] [])) fun s => [(s.get 26), (s.get 27)]⟩,
    ⟨some 25, none, .v fun s => some (s.get 28)⟩,
    ⟨some 29, none, .v fun s => extA (s.get 25) 0⟩,
    ⟨some 30, none, .v fun s => extA (s.get 25) 1⟩,
    ⟨some 9, none, .v fun s => some (s.get 29)⟩,
    ⟨some 10, none, .v fun s => some (s.get 30)⟩] K s := (den_reg hf _ K s).trans (by kernel_rfl)
theorem r4_eq (K : List Item) (s : St) : den prog ann 8 (.code r4 :: K) s = mreg prog ann 8 none [] none [] [
    ⟨some 11, none, .v fun s => some (.int .i64 0)⟩] K s := (den_reg hf _ K s).trans (by kernel_rfl)
theorem r5_eq (K : List Item) (s : St) : den prog ann 8 (.code r5 :: K) s = mreg prog ann 8 none [] none [] [
    ⟨some 31, none, .v fun s => loadF true 2 (s.get 5)⟩,
    ⟨some 32, none, .c 0 (fun s => (.fn 19 [] [])) fun s => [(s.get 31)]⟩,
    ⟨some 33, none, .v fun s => unA .not (s.get 32)⟩] K s := (den_reg hf _ K s).trans (by kernel_rfl)
theorem i0_eq (K : List Item) (s : St) : den prog ann 8 (.code i0 :: K) s = ifV prog ann 8 33 i0t i0e K s (s.get 33) := den_if hf (by kernel_rfl) K s
theorem i0t_eq (K : List Item) (s : St) : den prog ann 8 (.code i0t :: K) s = den prog ann 8 (.code r6 :: K) s := den_flat hf (l := [r6]) (by kernel_rfl) K s
theorem r6_eq (K : List Item) (s : St) : den prog ann 8 (.code r6 :: K) s = mreg prog ann 8 none [] none [] [
    ⟨some 11, none, .v fun s => some (.int .i64 1)⟩] K s := (den_reg hf _ K s).trans (by kernel_rfl)
theorem i0e_eq (K : List Item) (s : St) : den prog ann 8 (.code i0e :: K) s = den prog ann 8 (.code r7 :: .code i1 :: K) s := den_flat hf (l := [r7, i1]) (by kernel_rfl) K s
theorem r7_eq (K : List Item) (s : St) : den prog ann 8 (.code r7 :: K) s = mreg prog ann 8 none [] none [] [
    ⟨some 34, none, .v fun s => some (s.get 6)⟩,
    ⟨some 35, none, .v fun s => lenSl (s.get 34)⟩,
    ⟨some 36, none, .v fun s => binA prog .gtr 3 (s.get 35) (.int .i64 2500)⟩] K s := (den_reg hf _ K s).trans (by kernel_rfl)
theorem i1_eq (K : List Item) (s : St) : den prog ann 8 (.code i1 :: K) s = ifV prog ann 8 36 i1t i1e K s (s.get 36) := den_if hf (by kernel_rfl) K s
theorem i1t_eq (K : List Item) (s : St) : den prog ann 8 (.code i1t :: K) s = den prog ann 8 (.code r8 :: K) s := den_flat hf (l := [r8]) (by kernel_rfl) K s
theorem r8_eq (K : List Item) (s : St) : den prog ann 8 (.code r8 :: K) s = mreg prog ann 8 none [] none [] [
    ⟨some 11, none, .v fun s => some (.int .i64 3)⟩] K s := (den_reg hf _ K s).trans (by kernel_rfl)
theorem i1e_eq (K : List Item) (s : St) : den prog ann 8 (.code i1e :: K) s = den prog ann 8 (K) s := den_flat hf (l := []) (by kernel_rfl) K s
theorem r9_eq (K : List Item) (s : St) : den prog ann 8 (.code r9 :: K) s = mreg prog ann 8 (some [5, 6, 7, 8, 9, 10, 11]) [] none [] [
    ⟨some 12, none, .v fun s => some (.int .i64 0)⟩] K s := (den_reg hf _ K s).trans (by kernel_rfl)
theorem k0_eq (K : List Item) (t : List (Nat × AV)) (m : Mem) : den prog ann 8 (.code k0 :: K) ⟨t, 122, m⟩ = L0 (get t 5) (get t 6) (get t 7) (get t 8) (get t 9) (get t 10) (get t 11) (get t 12) m K := den_loop_enter hf (b := l0) (id := 10) (l := [5, 6, 7, 8, 9, 10, 11, 12]) (by kernel_rfl) (by kernel_rfl) (by kernel_rfl) K _
theorem l0_eq (K : List Item) (t : List (Nat × AV)) (m : Mem) : den prog ann 8 (.inLoop l0 :: .inBlock 0 :: K) ⟨t, 122, m⟩ = L0 (get t 5) (get t 6) (get t 7) (get t 8) (get t 9) (get t 10) (get t 11) (get t 12) m K := den_loop_again hf (id := 10) (l := [5, 6, 7, 8, 9, 10, 11, 12]) (by kernel_rfl) (by kernel_rfl) (.inBlock 0 :: K) _
theorem L0_eq (x5 x6 x7 x8 x9 x10 x11 x12 : AV) (m : Mem) (K : List Item) : L0 x5 x6 x7 x8 x9 x10 x11 x12 m K = den prog ann 8 (.code r10 :: .code i2 :: .code k1 :: .code r11 :: .inLoop l0 :: .inBlock 0 :: K) ⟨[(5, x5), (6, x6), (7, x7), (8, x8), (9, x9), (10, x10), (11, x11), (12, x12)], 122, m⟩ := den_flat hf (l := [r10, i2, k1, r11]) (by kernel_rfl) _ _
theorem r10_eq (K : List Item) (s : St) : den prog ann 8 (.code r10 :: K) s = mreg prog ann 8 (some [5, 6, 7, 8, 9, 10, 11, 12]) [] none [] [
    ⟨some 37, none, .v fun s => some (s.get 12)⟩,
    ⟨some 38, none, .v fun s => some (s.get 6)⟩,
    ⟨some 39, none, .v fun s => lenSl (s.get 38)⟩,
    ⟨some 40, none, .v fun s => binA prog .lss 3 (s.get 37) (s.get 39)⟩,
    ⟨some 41, none, .v fun s => some (s.get 40)⟩,
    ⟨some 42, some (41, true), .v fun s => some (s.get 11)⟩,
    ⟨some 43, some (41, true), .v fun s => binA prog .eql 27 (s.get 42) (.int .i64 0)⟩,
    ⟨some 44, none, .v fun s => pickA (s.get 41) (s.get 43) (.bool false)⟩] K s := (den_reg hf _ K s).trans (by kernel_rfl)
theorem i2_eq (K : List Item) (s : St) : den prog ann 8 (.code i2 :: K) s = ifV prog ann 8 44 i2t i2e K s (s.get 44) := den_if hf (by kernel_rfl) K s
theorem i2t_eq (K : List Item) (s : St) : den prog ann 8 (.code i2t :: K) s = den prog ann 8 (K) s := den_flat hf (l := []) (by kernel_rfl) K s
theorem i2e_eq (K : List Item) (s : St) : den prog ann 8 (.code i2e :: K) s = den prog ann 8 (.code (.exit 0) :: K) s := den_flat hf (l := [(.exit 0)]) (by kernel_rfl) K s
theorem k1_eq (K : List Item) (s : St) : den prog ann 8 (.code k1 :: K) s = den prog ann 8 (.code r12 :: .code i3 :: .inBlock 1 :: K) s := den_blk hf (b := blkOf k1) (l := [r12, i3]) (by kernel_rfl) (by kernel_rfl) K s
theorem r12_draw : drawOk (fun g => (ann g).pure) (modeOf (ann 8) (idOf r12)) (frzOf (ann 8) (idOf r12)) (opsOf r12) = true := drawOk_of (an := [0, 0, 0, 6, 14, 31, 63]) (by kernel_rfl) (by kernel_rfl)
theorem r12_eq (K : List Item) (s : St) : den prog ann 8 (.code r12 :: K) s = mreg prog ann 8 none [] (some 7) [] [
    ⟨some 47, none, .v fun s => loadF true 2 (s.get 5)⟩,
    ⟨some 48, none, .v fun s => some (s.get 6)⟩,
    ⟨some 49, none, .v fun s => some (s.get 12)⟩,
    ⟨some 50, none, .v fun s => idxSl 1 (s.get 48) (s.get 49)⟩,
    ⟨some 51, none, .v fun s => loadF false 1 (s.get 50)⟩,
    ⟨some 52, none, .c 0 (fun s => (.fn 27 [] [])) fun s => [(s.get 47), (s.get 51)]⟩,
    ⟨some 53, none, .v fun s => unA .not (s.get 52)⟩] K s := (den_regD hf r12_draw K s).trans (by kernel_rfl)
theorem i3_eq (K : List Item) (s : St) : den prog ann 8 (.code i3 :: K) s = ifV prog ann 8 53 i3t i3e K s (s.get 53) := den_if hf (by kernel_rfl) K s
theorem i3t_eq (K : List Item) (s : St) : den prog ann 8 (.code i3t :: K) s = den prog ann 8 (.code r13 :: K) s := den_flat hf (l := [r13]) (by kernel_rfl) K s
theorem r13_eq (K : List Item) (s : St) : den prog ann 8 (.code r13 :: K) s = mreg prog ann 8 none [] none [] [
    ⟨some 11, none, .v fun s => some (.int .i64 2)⟩] K s := (den_reg hf _ K s).trans (by kernel_rfl)
theorem i3e_eq (K : List Item) (s : St) : den prog ann 8 (.code i3e :: K) s = den prog ann 8 (K) s := den_flat hf (l := []) (by kernel_rfl) K s
theorem r11_eq (K : List Item) (s : St) : den prog ann 8 (.code r11 :: K) s = mreg prog ann 8 (some [5, 6, 7, 8, 9, 10, 11, 12]) [] none [] [
    ⟨some 45, none, .v fun s => some (s.get 12)⟩,
    ⟨some 46, none, .v fun s => binA prog .add 3 (s.get 45) (.int .i64 1)⟩,
    ⟨some 12, none, .v fun s => some (s.get 46)⟩] K s := (den_reg hf _ K s).trans (by kernel_rfl)
theorem r14_eq (K : List Item) (s : St) : den prog ann 8 (.code r14 :: K) s = mreg prog ann 8 (some [5, 6, 7, 8, 9, 10, 11]) [] none [] [
    ⟨some 54, none, .v fun s => some (s.get 11)⟩,
    ⟨some 55, none, .v fun s => binA prog .neq 27 (s.get 54) (.int .i64 0)⟩] K s := (den_reg hf _ K s).trans (by kernel_rfl)
theorem i4_eq (K : List Item) (s : St) : den prog ann 8 (.code i4 :: K) s = ifV prog ann 8 55 i4t i4e K s (s.get 55) := den_if hf (by kernel_rfl) K s
theorem i4t_eq (K : List Item) (s : St) : den prog ann 8 (.code i4t :: K) s = den prog ann 8 (.code r15 :: .code .ret :: K) s := den_flat hf (l := [r15, .ret]) (by kernel_rfl) K s
theorem r15_eq (K : List Item) (s : St) : den prog ann 8 (.code r15 :: K) s = mreg prog ann 8 none [] none [] [
    ⟨some 56, none, .v fun s => some (s.get 7)⟩,
    ⟨some 57, none, .v fun s => lenSl (s.get 56)⟩,
    ⟨some 58, none, .v fun s => some (s.get 9)⟩,
    ⟨some 59, none, .v fun s => lenSl (s.get 58)⟩,
    ⟨some 60, none, .v fun s => binA prog .add 3 (s.get 57) (s.get 59)⟩,
    ⟨some 61, none, .v fun s => binA prog .eql 3 (s.get 60) (.int .i64 0)⟩,
    ⟨some 62, none, .v fun s => some (s.get 61)⟩,
    ⟨some 63, some (62, true), .v fun s => some (s.get 8)⟩,
    ⟨some 64, some (62, true), .v fun s => some (s.get 11)⟩,
    ⟨some 65, some (62, true), .v fun s => binA prog .eql 27 (s.get 63) (s.get 64)⟩,
    ⟨some 66, none, .v fun s => pickA (s.get 62) (s.get 65) (.bool false)⟩,
    ⟨some 67, none, .v fun s => some (s.get 66)⟩,
    ⟨some 68, some (67, true), .v fun s => some (s.get 10)⟩,
    ⟨some 69, some (67, true), .v fun s => some (s.get 11)⟩,
    ⟨some 70, some (67, true), .v fun s => binA prog .eql 27 (s.get 68) (s.get 69)⟩,
    ⟨some 71, none, .v fun s => pickA (s.get 67) (s.get 70) (.bool false)⟩,
    ⟨some 72, none, .v fun s => some (s.get 71)⟩,
    ⟨some 73, some (72, true), .c 0 (fun s => (.fn 22 [] [])) fun s => []⟩,
    ⟨some 74, none, .v fun s => pickA (s.get 72) (s.get 73) (.bool false)⟩,
    ⟨some 4, none, .v fun s => some (s.get 74)⟩] K s := (den_reg hf _ K s).trans (by kernel_rfl)
theorem i4e_eq (K : List Item) (s : St) : den prog ann 8 (.code i4e :: K) s = den prog ann 8 (K) s := den_flat hf (l := []) (by kernel_rfl) K s
theorem r16_draw : drawOk (fun g => (ann g).pure) (modeOf (ann 8) (idOf r16)) (frzOf (ann 8) (idOf r16)) (opsOf r16) = true := drawOk_of (an := [0, 0, 3, 0, 0, 31, 63, 127]) (by kernel_rfl) (by kernel_rfl)
theorem r16_eq (K : List Item) (s : St) : den prog ann 8 (.code r16 :: K) s = mreg prog ann 8 none [] (some 8) [] [
    ⟨some 75, none, .v fun s => loadF true 2 (s.get 5)⟩,
    ⟨some 76, none, .v fun s => some (s.get 6)⟩,
    ⟨some 77, none, .c 0 (fun s => (.fn 40 [] [])) fun s => [(s.get 75), (s.get 76)]⟩,
    ⟨some 78, none, .v fun s => loadF true 2 (s.get 5)⟩,
    ⟨some 79, none, .v fun s => some (s.get 6)⟩,
    ⟨some 80, none, .c 0 (fun s => (.fn 41 [] [])) fun s => [(s.get 78), (s.get 79)]⟩,
    ⟨some 13, none, .v fun s => some (s.get 77)⟩,
    ⟨some 14, none, .v fun s => some (s.get 80)⟩] K s := (den_regD hf r16_draw K s).trans (by kernel_rfl)
theorem r17_eq (K : List Item) (s : St) : den prog ann 8 (.code r17 :: K) s = mreg prog ann 8 none [] none [] [
    ⟨some 81, none, .v fun s => some (s.get 7)⟩,
    ⟨some 82, none, .v fun s => some (s.get 13)⟩,
    ⟨some 83, none, .c 0 (fun s => (.fn 21 [] [])) fun s => [(s.get 81), (s.get 82)]⟩,
    ⟨some 84, none, .v fun s => some (s.get 83)⟩,
    ⟨some 85, some (84, true), .v fun s => some (s.get 8)⟩,
    ⟨some 86, some (84, true), .v fun s => binA prog .eql 27 (s.get 85) (.int .i64 0)⟩,
    ⟨some 87, some (84, true), .v fun s => some (s.get 13)⟩,
    ⟨some 88, some (84, true), .v fun s => binA prog .neq 22 (s.get 87) (.nils)⟩,
    ⟨some 89, some (84, true), .v fun s => binA prog .eql 4 (s.get 86) (s.get 88)⟩,
    ⟨some 90, none, .v fun s => pickA (s.get 84) (s.get 89) (.bool false)⟩,
    ⟨some 91, none, .v fun s => some (s.get 90)⟩,
    ⟨some 92, some (91, true), .v fun s => some (s.get 13)⟩,
    ⟨some 93, some (91, true), .v fun s => binA prog .neq 22 (s.get 92) (.nils)⟩,
    ⟨some 94, some (91, true), .v fun s => some (s.get 93)⟩,
    ⟨some 95, some (94, false), .v fun s => some (s.get 8)⟩,
    ⟨some 96, some (94, false), .v fun s => binA prog .eql 27 (s.get 95) (.int .i64 5)⟩,
    ⟨some 97, some (91, true), .v fun s => pickA (s.get 94) (.bool true) (s.get 96)⟩,
    ⟨some 98, none, .v fun s => pickA (s.get 91) (s.get 97) (.bool false)⟩,
    ⟨some 99, none, .v fun s => some (s.get 98)⟩,
    ⟨some 100, some (99, true), .v fun s => some (s.get 9)⟩,
    ⟨some 101, some (99, true), .v fun s => some (s.get 14)⟩,
    ⟨some 102, some (99, true), .c 0 (fun s => (.fn 42 [] [])) fun s => [(s.get 100), (s.get 101)]⟩,
    ⟨some 103, none, .v fun s => pickA (s.get 99) (s.get 102) (.bool false)⟩,
    ⟨some 104, none, .v fun s => some (s.get 103)⟩,
    ⟨some 105, some (104, true), .v fun s => some (s.get 10)⟩,
    ⟨some 106, some (104, true), .v fun s => binA prog .eql 27 (s.get 105) (.int .i64 0)⟩,
    ⟨some 107, some (104, true), .v fun s => some (s.get 14)⟩,
    ⟨some 108, some (104, true), .v fun s => binA prog .neq 31 (s.get 107) (.nils)⟩,
    ⟨some 109, some (104, true), .v fun s => binA prog .eql 4 (s.get 106) (s.get 108)⟩,
    ⟨some 110, none, .v fun s => pickA (s.get 104) (s.get 109) (.bool false)⟩,
    ⟨some 111, none, .v fun s => some (s.get 110)⟩,
    ⟨some 112, some (111, true), .v fun s => some (s.get 14)⟩,
    ⟨some 113, some (111, true), .v fun s => binA prog .neq 31 (s.get 112) (.nils)⟩,
    ⟨some 114, some (111, true), .v fun s => some (s.get 113)⟩,
    ⟨some 115, some (114, false), .v fun s => some (s.get 10)⟩,
    ⟨some 116, some (114, false), .v fun s => binA prog .eql 27 (s.get 115) (.int .i64 5)⟩,
    ⟨some 117, some (111, true), .v fun s => pickA (s.get 114) (.bool true) (s.get 116)⟩,
    ⟨some 118, none, .v fun s => pickA (s.get 111) (s.get 117) (.bool false)⟩,
    ⟨some 119, none, .v fun s => some (s.get 118)⟩,
    ⟨some 120, some (119, true), .c 0 (fun s => (.fn 22 [] [])) fun s => []⟩,
    ⟨some 121, none, .v fun s => pickA (s.get 119) (s.get 120) (.bool false)⟩,
    ⟨some 4, none, .v fun s => some (s.get 121)⟩] K s := (den_reg hf _ K s).trans (by kernel_rfl)
theorem ret_eq (K : List Item) (s : St) : den prog ann 8 (.code .ret :: K) s = finM true [fun s => some (s.get 4)] s := (den_ret hf K s).trans (by kernel_rfl)
theorem nil_eq (s : St) : den prog ann 8 [] s = finM true [fun s => some (s.get 4)] s := (den_nil hf s).trans (by kernel_rfl)
theorem inBlock_eq (id : Nat) (K : List Item) (s : St) : den prog ann 8 (.inBlock id :: K) s = den prog ann 8 K s := den_inBlock hf id K s
theorem exit_eq (id : Nat) (K : List Item) (s : St) : den prog ann 8 (.code (.exit id) :: K) s = exitV prog ann 8 (exitTo id K) s := den_exitV hf id K s
theorem call_eq (v0 v1 : AV) (m : Mem) (h : closedL [v0, v1] = true) : denC prog ann 8 [v0, v1] m = (den prog ann 8 [.code b] ⟨[(0, v0), (1, v1)], 122, Mem.empty⟩).bind fun r => some (r.1, m) := (denC_pure hf (b := b) (by kernel_rfl) (by kernel_rfl) (by kernel_rfl) h m).trans (by kernel_rfl)
theorem pure_eq : (ann 8).pure = true := by kernel_rfl
attribute [simp] b_eq r0_eq r1_eq r2_eq r3_eq r4_eq r5_eq i0_eq i0t_eq r6_eq i0e_eq r7_eq i1_eq i1t_eq r8_eq i1e_eq r9_eq k0_eq l0_eq r10_eq i2_eq i2t_eq i2e_eq k1_eq r12_eq i3_eq i3t_eq r13_eq i3e_eq r11_eq r14_eq i4_eq i4t_eq r15_eq i4e_eq r16_eq r17_eq ret_eq nil_eq inBlock_eq exit_eq pure_eq
end l09_WatchSets
end Go.Proofs.Ytdkmepjedjclkaa
