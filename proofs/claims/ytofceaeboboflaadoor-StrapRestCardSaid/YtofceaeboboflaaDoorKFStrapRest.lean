/-
  THE STATEMENT 'Rows.StrapRestCardSaid': the law returns true whatever its arguments hold, and they read behind the call as before. Conditions: none.
-/
import Derived.Test.YtofceaeboboflaaDoorRows
import Derived.Test.YtofceaeboboflaaDoorTie
import Derived.Test.YtofceaeboboflaaDoorCards
import Derived.WalkKit
import Derived.ProofKit
import Derived.OpenShut
import Derived.ShutString
import Derived.ChangeOld
import Derived.Below
import Derived.LaidLaws
import Derived.Handed
import Derived.SevenTiedAt
import Derived.Test.YtofceaeboboflaaDoorK00
import Derived.Test.YtofceaeboboflaaDoorKAmF
import Derived.Test.YtofceaeboboflaaDoorK02
import Derived.Test.YtofceaeboboflaaDoorK03
set_option linter.all false
namespace Go.Proofs.YtofceaeboboflaaDoor.StrapRestDone
open Go.ChangeShapes Go.WideShapes Go.ChangeAt Go.RowKit Go.AM
set_option linter.all false
set_option maxRecDepth 100000

theorem own : ownKnob Tryd.prog.godebug = none := by kernel_rfl
theorem laidOut : laidOutB Tryd.prog = true := by kernel_rfl
def noNumB (P : Program) : Bool := P.funcs.all fun fn => !(fn.body.isSome && fn.name == "runtime.NumGoroutine")
theorem noNum : NoNum Tryd.prog := by
  have h : noNumB Tryd.prog = true := by kernel_rfl
  intro g fn hf hb
  rw [noNumB, Array.all_eq_true] at h
  obtain ⟨hg, rfl⟩ := Array.getElem?_eq_some_iff.1 hf
  have := h g hg
  simp only [hb, Bool.true_and, Bool.not_eq_true'] at this
  exact this

/-- A world in which the variable holds what is listed. -/
noncomputable def evWorld (os : Os) : World :=
  let w0 := World.holding Tryd.prog os ⟨#[], #[], []⟩
  let n := w0.heap.size
  { w0 with heap := (w0.heap.modify 0 fun
      | .cells _ t frozen => .cells #[.slice (some ⟨n, 0, none⟩) 10 10] t frozen
      | o => o) ++ #[.cells #[.int .i64 7, .slice (some ⟨n + 1, 0, none⟩) 3 3, .int .i64 11, .slice (some ⟨n + 2, 0, none⟩) 5 5, .int .i64 13, .slice (some ⟨n + 3, 0, none⟩) 4 4, .int .i64 15, .slice (some ⟨n + 4, 0, none⟩) 7 7, .int .i64 21, .slice (some ⟨n + 5, 0, none⟩) 5 5, .int .i64 31, .slice (some ⟨n + 6, 0, none⟩) 6 6, .int .i64 19, .slice (some ⟨n + 7, 0, none⟩) 9 9, .int .i64 4, .slice (some ⟨n + 8, 0, none⟩) 3 3, .int .i64 6, .slice (some ⟨n + 9, 0, none⟩) 1 1, .int .i64 23, .slice (some ⟨n + 10, 0, none⟩) 11 11] 38 (0, 0), .cells #[.int .i64 0, .int .i64 1, .int .i64 3] 3 (0, 0), .cells #[.int .i64 1, .int .i64 3, .int .i64 4, .int .i64 5, .int .i64 9] 3 (0, 0), .cells #[.int .i64 0, .int .i64 1, .int .i64 3, .int .i64 9] 3 (0, 0), .cells #[.int .i64 0, .int .i64 1, .int .i64 2, .int .i64 4, .int .i64 5, .int .i64 8, .int .i64 10] 3 (0, 0), .cells #[.int .i64 3, .int .i64 6, .int .i64 7, .int .i64 12, .int .i64 14] 3 (0, 0), .cells #[.int .i64 1, .int .i64 5, .int .i64 11, .int .i64 24, .int .i64 25, .int .i64 27] 3 (0, 0), .cells #[.int .i64 1, .int .i64 4, .int .i64 5, .int .i64 6, .int .i64 7, .int .i64 9, .int .i64 11, .int .i64 16, .int .i64 17] 3 (0, 0), .cells #[.int .i64 0, .int .i64 1, .int .i64 2] 3 (0, 0), .cells #[.int .i64 2] 3 (0, 0), .cells #[.int .i64 1, .int .i64 2, .int .i64 3, .int .i64 4, .int .i64 6, .int .i64 8, .int .i64 9, .int .i64 12, .int .i64 13, .int .i64 16, .int .i64 18] 3 (0, 0)] }
theorem laid_met (os : Os) (args : Array Value) : laidMetH Tryd.prog Rows.strapRestRow.laid ((evWorld os).forCall (fun _ _ => 0) ⟨#[], args, []⟩).memory :=
  laidMet_of_run' 8 (by kernel_rfl) (by kernel_rfl)
theorem glob_ok {W : World} (h : laidMetH Tryd.prog Rows.strapRestRow.laid W) : GlobOk W (fun b => b < W.heap.size) := by
  intro g
  unfold globV
  cases hg : g == 0 with
  | false => exact trivial
  | true =>
    have : g = 0 := by simpa using hg
    subst this
    exact laid_glob (t := 39) (vals := [.fsl false 10 evenCs]) (show laidMet Tryd.prog Rows.strapRestRow.laid W from h) (by kernel_rfl) (by kernel_rfl) (by kernel_rfl) (by kernel_rfl)

theorem okIn (os : Os) : Input.okWideB Tryd.checked.prog ((evWorld os).forCall (fun _ _ => 0) ⟨#[], #[.agg #[.int .u8 0, .int .u8 0, .int .u8 0]], []⟩) 6 ⟨#[], #[.agg #[.int .u8 0, .int .u8 0, .int .u8 0]], []⟩ = true := by kernel_rfl

theorem lifted (os : Os) (started : os.Started) (H : Type) (enc : TypeId × Value → H) :
    ReturnsInHanded {} Tryd.checked os 6 .any (fun w args => (Rows.strapRestSpec.pre enc Tryd.prog Tryd.f6 Rows.strapRestRow.domain false w args ∧ laidMetH Tryd.prog Rows.strapRestRow.laid w) ∧ sizedMet enc Tryd.prog Tryd.f6 (OpenSpec.ofChange Rows.strapRestSpec) false w args) (Rows.strapRestSpec.post enc Tryd.prog Tryd.f6 false true false false) := by
  refine returnsInHanded_of_change_and (C := Tryd.checked) (X := fun w _ => laidMetH Tryd.prog Rows.strapRestRow.laid w) (fun _ _ _ hh h => h.of_heap hh) own started (by kernel_rfl) Tryd.func6
    ⟨evWorld os, fun _ _ => 0, ⟨#[], #[.agg #[.int .u8 0, .int .u8 0, .int .u8 0]], []⟩, rfl, World.shaped_of_RefB (by kernel_rfl) (by kernel_rfl), (Input.okWide_of_okWideB (base := 0) (okIn os)).1, (Input.okWide_of_okWideB (okIn os)).2,
      ⟨⟨ChangeSpec.pre_of_preB (fuel := 8) (by kernel_rfl), laid_met os _⟩, sizedMet_of_sizedB (fuel := 8) (by kernel_rfl)⟩, by
        simp only [Assume.holds]
        exact ⟨by simp, by simp, fun _ => Modest.zero, by simp, by simp⟩⟩ ?_
  intro W base args ds gs before hval0 hW hcnd _ hL _
  have hval : ∀ (j : Nat) t v, Tryd.f6.params[j]? = some t → args[j]? = some v → Value.okWide Tryd.prog W .any base t v := hval0
  have hW' := hW
  obtain ⟨p, q, hA0, hV, rfl, hfz, hnd⟩ := hW
  have hA : DataW.TrodAll enc Tryd.prog W 0 (fun _ => true) true Tryd.f6.params.toList args.toList ds p := hA0
  rw [Tryd.params6] at hA hval
  obtain ⟨v0, vs0, d0, ds0, p0, q0, hargs, rfl, rfl, h0, r0⟩ := trodAll_cons hA
  obtain ⟨rfl, rfl, rfl⟩ := trodAll_nil r0
  obtain rfl : args = #[v0] := by cases args; simp_all
  obtain ⟨rfl, rfl⟩ := trodVars_none hV
  have k0 := h0
  have lt0 : ∀ x ∈ p0, x.block < W.heap.size := by obtain ⟨m, hm⟩ := k0; exact DataW.trod_lt m _ _ _ hm
  obtain ⟨a0, ra0, da0⟩ := arg_rep (d := 8) (by kernel_rfl) (hval 0 23 v0 rfl rfl) h0
  clear hA0 hval0
  obtain ⟨m', hr⟩ := rst_runs a0 da0
  refine (law_calls noNum (by kernel_rfl) sortS hr (glob_ok hL) (RepL.cons ra0 (RepL.nil))).mono fun e W' ⟨he, bel⟩ => ?_
  subst he
  exact ⟨_, rfl, _, _, _, [], _, [], hW', trodAll_mk1 (shut_bool Tryd.underlying4 _), (trodAll_cons_mk (Below.trod laidOut (by kernel_rfl) (of_decide_eq_true (by kernel_rfl)) k0 bel lt0) (trodAll_mk0)), rfl, bel.frame _, fun h => by cases h⟩

theorem over : Rows.strapRestRow.holds Tryd.pinned (OpenSpec.ofChange Rows.strapRestSpec) :=
  OpenClaim.holds_of_wide 6 Tryd.f6 rfl rfl rfl rfl rfl rfl rfl ⟨rfl, rfl, rfl, rfl, rfl⟩ rfl rfl rfl rfl rfl (by kernel_rfl) Tryd.func6 (by kernel_rfl)
    (of_decide_eq_true (by kernel_rfl)) (by unfold Func.isWrapper; first | (rw [if_pos (by decide +kernel)]; kernel_rfl) | (rw [if_neg (by decide +kernel)]; exact ⟨rfl, rfl⟩))
    (fun os started H enc _ => lifted os started H enc)

/-- THE STATEMENT. -/
theorem proved : Rows.StrapRestCardSaid :=
  Claim7.holds_tied_plain_at .later [] [.widerDeep] true Rows.strapRestCard.stood.harness false
    over (fun _ h => by cases h) (by kernel_rfl) (fun _ h => by cases h) strapRest_row_tie rfl ⟨rfl, rfl⟩ (by kernel_rfl) rfl
    (fun f fn hf hfn => by
      obtain rfl : f = 6 := Option.some.inj ((show Tryd.prog.funcNamed Rows.strapRestRow.func = some 6 by kernel_rfl).symm.trans hf) |>.symm
      obtain rfl : fn = Tryd.f6 := (Option.some.inj (Tryd.func6.symm.trans hfn)).symm
      exact ⟨by kernel_rfl, fun j t ht => by
        have hall : (Tryd.f6.params.toList.all fun t => !(Tryd.prog.wantsStandIn t)) = true := by kernel_rfl
        have hm : t ∈ Tryd.f6.params.toList := List.mem_of_getElem? (by simpa using ht)
        have := List.all_eq_true.1 hall t hm
        rw [Bool.not_eq_true'] at this
        exact this⟩)
    (by kernel_rfl)
#print axioms proved
end Go.Proofs.YtofceaeboboflaaDoor.StrapRestDone


