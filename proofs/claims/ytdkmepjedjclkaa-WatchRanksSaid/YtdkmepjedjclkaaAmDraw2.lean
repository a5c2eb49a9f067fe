/-
  THE ABSTRACT MACHINE: which operations leave each other alone. Conditions: none.
-/
import Derived.Test.YtdkmepjedjclkaaAmDraw
namespace Go.AM

theorem mapO_same {w : World} {N : Nat → Prop} {i : Pl} {f g : AV → Option AV} (h : ∀ a u, Rep w N i a u → f a = g a) : ∀ {as : List AV} {us : List Value}, RepL w N i as us → mapO f as = mapO g as
  | [], _, _ => rfl
  | a :: as, _, ⟨v, r, _, h2, h3⟩ => by simp only [mapO, h a v h2, mapO_same h h3]

theorem deep_fr {m : Mem} {w : World} {N : Nat → Prop} {i : Pl} (s : Sim m w N i) {k : Nat} {X : Option AObj} (hk : ∀ t, i k t = none) : ∀ (d : Nat) {a : AV} {u : Value}, Rep w N i a u → deep (upd m.h k X) d a = deep m.h d a
  | 0, _, _, _ => rfl
  | d + 1, a, u, ha => by
    have hne := Rep.ne hk ha
    have l0 : Le w N P0 w N i := ⟨fun _ h => h, fun _ _ => rfl, fun _ _ _ h => by simp [P0] at h⟩
    have ih : ∀ {as : List AV} {us : List Value}, RepL w N i as us → mapO (deep (upd m.h k X) d) as = mapO (deep m.h d) as := fun h => mapO_same (fun a u h => deep_fr s hk d h) h
    cases a <;> simp only [deep]
    · rename_i id off top
      rw [upd_ne _ _ hne]
      split
      · rename_i xs ho
        cases hc : (xs.length == top && Nat.ble off top) with
        | false => rfl
        | true =>
          simp only [Bool.and_eq_true, beq_iff_eq] at hc
          obtain ⟨b, o, c, h1, _⟩ := ha
          obtain ⟨_, _, _, _, vs, _, _, _, _, _, _, h8⟩ := s.cells ho hc.1 h1
          rw [ih h8]
      · rfl
    · obtain ⟨b, off, vs, _, _, _, _, h⟩ := ha
      rw [ih h]
    · rename_i id es off n top
      rw [upd_ne _ _ hne]
      split
      · rename_i xs ho
        cases hc : (xs.length == top && Nat.ble (off + n * es) top) with
        | false => rfl
        | true =>
          simp only [Bool.and_eq_true, beq_iff_eq] at hc
          obtain ⟨b, o, c, _, _, h1, _⟩ := ha
          obtain ⟨_, _, _, _, vs, _, _, _, _, _, _, h8⟩ := s.cells ho hc.1 h1
          rw [ih ((h8.drop off).take _)]
      · rfl
    · rename_i id
      rw [upd_ne _ _ hne]
      split
      · rename_i g ks vs ho
        obtain ⟨_, _, _, es, _, _, _, _, h4, h5⟩ := s.mapAt ho ha
        rw [ih h4, ih h5]
      · rfl
    · obtain ⟨vs, _, h⟩ := ha
      rw [ih h]
    · obtain ⟨vs, _, h⟩ := ha
      rw [ih h]

section
variable {P : Program} {pf : FuncId → Bool} {call : CallF} {md b : Nat} {ops : Array Oper} {i : Nat} {o : Oper}

/-- The guard is settled by the slots alone. -/
theorem effI_cases (s : St) : (∀ m, effI P pf call md b ops i o (s.mem m) = effB P pf call md b i o (s.mem m)) ∨ (∀ m, effI P pf call md b ops i o (s.mem m) = some (.tup [], m)) ∨ (∀ m, effI P pf call md b ops i o (s.mem m) = none) := by
  have hget : ∀ m j, (s.mem m).get j = s.get j := fun _ _ => rfl
  have hnt : ∀ m, (s.mem m).nt = s.nt := fun _ => rfl
  unfold effI
  cases o.guard with
  | none => exact .inl fun m => rfl
  | some jw =>
    obtain ⟨j, want⟩ := jw
    simp only
    cases (ops[j]?).bind (·.dst) with
    | none => exact .inr (.inr fun m => rfl)
    | some d =>
      simp only [hget, hnt]
      cases s.get d with
      | bool b' =>
        simp only
        cases Nat.blt d s.nt with
        | false => exact .inr (.inr fun m => rfl)
        | true =>
          cases (b' == want) with
          | true => exact .inl fun m => rfl
          | false => exact .inr (.inl fun m => rfl)
      | tup vs =>
        cases vs with
        | nil => exact .inr (.inl fun m => rfl)
        | cons => exact .inr (.inr fun m => rfl)
      | _ => exact .inr (.inr fun m => rfl)

theorem mem_ev (s : St) (m : Mem) (x : Operand) : (s.mem m).ev x = s.ev x := by cases x <;> rfl

/-- It looks at no memory. -/
theorem kind0 (h : classOf md o.op = 0) (s : St) : ∃ ov : Option AV, ∀ m, effI P pf call md b ops i o (s.mem m) = ov.map fun v => (v, m) := by
  rcases effI_cases (P := P) (pf := pf) (call := call) (md := md) (b := b) (ops := ops) (i := i) (o := o) s with h1 | h1 | h1
  · refine ⟨pureA P md s o.op, fun m => ?_⟩
    rw [h1]
    unfold effB
    rw [h]
    show (pureA P md (s.mem m) o.op).map _ = _
    rw [pureA_congr (s := s.mem m) (t := s) fun x _ => mem_ev s m x]
    rfl
  · exact ⟨some (.tup []), fun m => h1 m⟩
  · exact ⟨none, fun m => h1 m⟩

theorem classD_1 (h : classD pf md o = 1) : classOf md o.op = 1 ∨ (classOf md o.op = 3 ∧ ∃ c g, o.op = .call c ∧ c.callee = .value (.func g) ∧ pf g = true ∧ (md == 2) = false) := by
  unfold classD at h
  split at h
  · rename_i h3
    right
    refine ⟨h3, ?_⟩
    split at h
    · rename_i c hop
      split at h
      · rename_i g hc
        cases hb : (pf g && !(md == 2)) with
        | false => rw [hb] at h; cases h
        | true =>
          simp only [Bool.and_eq_true, Bool.not_eq_true'] at hb
          exact ⟨c, g, hop, hc, hb.1, hb.2⟩
      · cases h
    · cases h
  · exact .inl h

theorem callA_pure_d {m m' : Mem} {g : FuncId} {first caps args : List AV} {v : AV} (hp : pf g = true) (hm : (md == 2) = false) (h : callA pf call md m (.fn g first caps) args = some (v, m')) : m' = m := by
  simp only [callA, hp, hm, cond_true, cond_false] at h
  cases hcl : closedL (first ++ args ++ caps) with
  | true =>
    simp only [hcl, cond_true, Option.bind_eq_some_iff] at h
    obtain ⟨q, _, h⟩ := h
    cases h; rfl
  | false =>
    simp only [hcl, cond_false, Option.bind_eq_some_iff] at h
    obtain ⟨as, _, q, _, h⟩ := h
    cases hf : q.1.flat with
    | false => simp [hf] at h
    | true => simp [hf] at h; exact h.2.symm

/-- It leaves the memory. -/
theorem kind1 (h : classD pf md o = 1) (s : St) : ∀ m r, effI P pf call md b ops i o (s.mem m) = some r → r.2 = m := by
  intro m r hr
  rcases effI_cases (P := P) (pf := pf) (call := call) (md := md) (b := b) (ops := ops) (i := i) (o := o) s with h1 | h1 | h1
  · rw [h1] at hr
    unfold effB at hr
    rcases classD_1 h with h2 | ⟨h2, c, g, hop, hc, hp, hm⟩
    · rw [h2] at hr
      simp only [Option.map_eq_some_iff] at hr
      obtain ⟨v, _, rfl⟩ := hr
      rfl
    · rw [h2] at hr
      simp only [hop, hc] at hr
      exact callA_pure_d (m' := r.2) (v := r.1) hp hm hr
  · rw [h1] at hr; cases hr; rfl
  · rw [h1] at hr; cases hr

/-- It makes an object, or leaves the memory. -/
theorem kind6 (h : classOf md o.op = 6) (s : St) : (∃ v X, ∀ m, m.nx = s.m.nx → effI P pf call md b ops i o (s.mem m) = some (v, m.fr (b + i) X)) ∨ (∃ ov : Option AV, ∀ m, m.nx = s.m.nx → effI P pf call md b ops i o (s.mem m) = ov.map fun v => (v, m)) := by
  rcases effI_cases (P := P) (pf := pf) (call := call) (md := md) (b := b) (ops := ops) (i := i) (o := o) s with h1 | h1 | h1
  · have hB : ∀ m, effB P pf call md b i o (s.mem m) = ((memA P ((s.mem m).nx (b + i)) o.op).bind fun r => bif md == 1 then frzV r.1 r.2 else some r).map fun r => (r.1, (⟨r.2.h, m.nx⟩ : Mem)) := fun m => by
      unfold effB
      rw [h]; rfl
    have hops : ∀ m m2 : Mem, ∀ x ∈ o.op.operands, ((s.mem m).nx (b + i)).ev x = ((s.mem m2).nx (b + i)).ev x := fun m m2 x _ => by cases x <;> rfl
    cases hmem : memA P ((s.mem s.m).nx (b + i)) o.op with
    | none =>
      right
      refine ⟨none, fun m _ => ?_⟩
      rw [h1, hB]
      cases hm2 : memA P ((s.mem m).nx (b + i)) o.op with
      | none => rfl
      | some r =>
        obtain ⟨v, m'⟩ := r
        obtain ⟨ob, _, _, h4⟩ := memA_new h hm2
        rw [h4 ((s.mem s.m).nx (b + i)) rfl (hops m s.m)] at hmem
        cases hmem
    | some r =>
      obtain ⟨v, m'⟩ := r
      obtain ⟨ob, h2, h3, h4⟩ := memA_new h hmem
      have hall : ∀ m, memA P ((s.mem m).nx (b + i)) o.op = some (v, (⟨m.h, b + i⟩ : Mem).new ob) := fun m => h4 ((s.mem m).nx (b + i)) rfl (hops s.m m)
      cases hmd : md == 1 with
      | false =>
        left
        refine ⟨v, some ob, fun m _ => ?_⟩
        rw [h1, hB, hall, hmd]
        rfl
      | true =>
        cases hfz : frzV v ((⟨s.m.h, b + i⟩ : Mem).new ob) with
        | none =>
          right
          refine ⟨none, fun m _ => ?_⟩
          rw [h1, hB, hall, hmd]
          simp only [Option.bind_some, cond_true]
          cases hf2 : frzV v ((⟨m.h, b + i⟩ : Mem).new ob) with
          | none => rfl
          | some q =>
            obtain ⟨v', m2⟩ := q
            obtain ⟨X, _, g2⟩ := frzV_new (m := ⟨m.h, b + i⟩) (n := b + i) h3 rfl hf2
            rw [g2 ⟨s.m.h, b + i⟩ rfl] at hfz
            cases hfz
        | some q =>
          obtain ⟨v', m2⟩ := q
          obtain ⟨X, g1, g2⟩ := frzV_new (m := ⟨s.m.h, b + i⟩) (n := b + i) h3 rfl hfz
          left
          refine ⟨v', X, fun m _ => ?_⟩
          rw [h1, hB, hall, hmd]
          simp only [Option.bind_some, cond_true]
          rw [g2 ⟨m.h, b + i⟩ rfl]
          rfl
  · exact .inr ⟨some (.tup []), fun m _ => h1 m⟩
  · exact .inr ⟨none, fun m _ => h1 m⟩

/-- What it does does not hang on an object that nobody knows. -/
theorem frame {s : St} {a : Act} {w : World} {N : Nat → Prop} {pl : Pl} (hs : Sim s.m w N pl) (ha : StSim w N pl s a) {k : Nat} {X : Option AObj} (hk : ∀ t, pl k t = none) (hki : k ≠ b + i)
    (hc : classOf md o.op = 0 ∨ classD pf md o = 1 ∨ (classOf md o.op = 2 ∧ (md == 1) = false)) :
    effI P pf call md b ops i o (s.mem (s.m.fr k X)) = (effI P pf call md b ops i o s).map fun r => (r.1, r.2.fr k X) := by
  have hself : effI P pf call md b ops i o s = effI P pf call md b ops i o (s.mem s.m) := rfl
  have hne : ∀ x, (s.ev x).ne k := fun x => Rep.ne hk (ha.ev x)
  rcases effI_cases (P := P) (pf := pf) (call := call) (md := md) (b := b) (ops := ops) (i := i) (o := o) s with h1 | h1 | h1
  · rw [hself, h1, h1]
    rcases hc with hc | hc | ⟨hc, hmd⟩
    · unfold effB
      rw [hc]
      show (pureA P md (s.mem (s.m.fr k X)) o.op).map _ = _
      rw [pureA_congr (s := s.mem (s.m.fr k X)) (t := s.mem s.m) fun x _ => by rw [mem_ev, mem_ev]]
      show _ = ((pureA P md (s.mem s.m) o.op).map _).map _
      cases pureA P md (s.mem s.m) o.op <;> rfl
    · unfold effB
      rcases classD_1 hc with h2 | ⟨h2, c, g, hop, hcal, hp, hm⟩
      · rw [h2]
        show (readA P (s.mem (s.m.fr k X)) o.op).map _ = ((readA P (s.mem s.m) o.op).map _).map _
        have : readA P (s.mem (s.m.fr k X)) o.op = readA P (s.mem s.m) o.op := by
          cases o.op <;> simp only [readA, mem_ev]
          · rename_i t x
            show (aggT P t).bind _ = (aggT P t).bind _
            congr 1; funext g; congr 1; funext n
            exact loadA_fr (hne x)
          · rename_i src dst x
            exact convA_fr (hne x)
          · exact lookupA_fr (hne _)
          · rename_i x
            have hx := hne x
            show curA (s.m.fr k X) (s.ev x) = curA s.m (s.ev x)
            unfold curA
            split
            · rename_i id he
              rw [he] at hx
              rw [fr_h hx]
              split
              · rename_i mp gg kk vv _ _ ho
                obtain ⟨_, _, _, _, _, hf⟩ := hs.live _ _ ho
                exact hf.elim
              · rfl
            · rfl
        rw [this]
        cases readA P (s.mem s.m) o.op <;> rfl
      · rw [h2]
        simp only [hop, hcal]
        have hargs : RepL w N pl (c.args.toList.map s.ev) (c.args.toList.map a.eval) := ha.evL c.args.toList
        have e1 : c.args.toList.map (s.mem (s.m.fr k X)).ev = c.args.toList.map s.ev := List.map_congr_left fun x _ => mem_ev s _ x
        have e2 : c.args.toList.map (s.mem s.m).ev = c.args.toList.map s.ev := List.map_congr_left fun x _ => mem_ev s _ x
        rw [e1, e2]
        show callA pf call md (s.m.fr k X) (.fn g [] []) (c.args.toList.map s.ev) = (callA pf call md s.m (.fn g [] []) (c.args.toList.map s.ev)).map _
        simp only [callA, hp, hm, cond_true, cond_false, List.nil_append, List.append_nil]
        cases closedL (c.args.toList.map s.ev) with
        | true =>
          simp only [cond_true]
          cases call g (c.args.toList.map s.ev) Mem.empty <;> rfl
        | false =>
          simp only [cond_false]
          have e3 : mapO (deep (s.m.fr k X).h deepNo) (c.args.toList.map s.ev) = mapO (deep s.m.h deepNo) (c.args.toList.map s.ev) := mapO_same (fun a u h => deep_fr hs hk deepNo h) hargs
          rw [e3]
          cases mapO (deep s.m.h deepNo) (c.args.toList.map s.ev) with
          | none => rfl
          | some as =>
            simp only [Option.bind_some]
            cases call g as Mem.empty with
            | none => rfl
            | some q => simp only [Option.bind_some]; cases q.1.flat <;> rfl
    · unfold effB
      rw [hc]
      simp only [hmd, cond_false]
      have hq := memA_fr (P := P) (md := md) (s := (s.mem s.m).nx (b + i)) (op := o.op) (k := k) (X := X) hc (fun x _ => by
        have : ((s.mem s.m).nx (b + i)).ev x = s.ev x := by cases x <;> rfl
        rw [this]; exact hne x) (fun e => hki e.symm)
      have e4 : ((s.mem s.m).nx (b + i)).mem (((s.mem s.m).nx (b + i)).m.fr k X) = (s.mem (s.m.fr k X)).nx (b + i) := rfl
      rw [e4] at hq
      rw [hq]
      cases memA P ((s.mem s.m).nx (b + i)) o.op <;> rfl
  · rw [hself, h1, h1]; rfl
  · rw [hself, h1, h1]; rfl
end
end Go.AM
