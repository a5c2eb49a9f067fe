/-
  THE STATEMENT 'Rows.BrandCernySaid': the law returns true whatever its arguments hold, and they read behind the call as before. Conditions: none.
-/
import Derived.Test.YthnpflkpjimkfaaRows
import Derived.WalkKit
import Derived.ProofKit
import Derived.OpenShut
import Derived.ShutString
import Derived.ChangeOld
import Derived.Below
import Derived.Test.YthnpflkpjimkfaaKAmF
import Derived.Test.YthnpflkpjimkfaaK00
import Derived.Test.YthnpflkpjimkfaaK05
set_option linter.all false
namespace Go.Proofs.Ythnpflkpjimkfaa.BrandCernyDone
open Go.ChangeShapes Go.WideShapes Go.ChangeAt Go.RowKit Go.AM
set_option linter.all false
set_option maxRecDepth 100000
theorem own : ownKnob Try.prog.godebug = none := by kernel_rfl
theorem laidOut : laidOutB Try.prog = true := by kernel_rfl
def noNumB (P : Program) : Bool := P.funcs.all fun fn => !(fn.body.isSome && fn.name == "runtime.NumGoroutine")
theorem noNum : NoNum Try.prog := by
  have h : noNumB Try.prog = true := by kernel_rfl
  intro g fn hf hb
  rw [noNumB, Array.all_eq_true] at h
  obtain ⟨hg, rfl⟩ := Array.getElem?_eq_some_iff.1 hf
  have := h g hg
  simp only [hb, Bool.true_and, Bool.not_eq_true'] at this
  exact this
theorem globS {W : World} : GlobOk W (fun b => b < W.heap.size) := fun _ => trivial
theorem lifted (os : Os) (started : os.Started) (H : Type) (enc : TypeId × Value → H) :
    ReturnsInHanded {} Try.checked os 4 .any (Rows.brandCernySpec.pre6 enc Try.prog Try.f4 Rows.brandCernyRow.domain false) (Rows.brandCernySpec.post enc Try.prog Try.f4 false true false false) := by
  refine returnsInHanded_of_change (C := Try.checked) own started (by kernel_rfl) Try.func4
    (ChangeSpec.witness6 (enc := enc) (C := Try.checked) false ⟨#[], #[.agg #[.int .u8 0, .int .u8 0, .slice none 0 0, .int .u8 0]], []⟩ 8 (by kernel_rfl) (by kernel_rfl) (by kernel_rfl) (by kernel_rfl)) ?_
  intro W base args ds gs before hval0 hW hcnd _
  have hval : ∀ (j : Nat) t v, Try.f4.params[j]? = some t → args[j]? = some v → Value.okWide Try.prog W .any base t v := hval0
  have hW' := hW
  obtain ⟨p, q, hA0, hV, rfl, hfz, hnd⟩ := hW
  have hA : DataW.TrodAll enc Try.prog W 0 (fun _ => true) true Try.f4.params.toList args.toList ds p := hA0
  rw [Try.params4] at hA hval
  obtain ⟨v0, vs0, d0, ds0, p0, q0, hargs, rfl, rfl, h0, r0⟩ := trodAll_cons hA
  obtain ⟨rfl, rfl, rfl⟩ := trodAll_nil r0
  obtain rfl : args = #[v0] := by cases args; simp_all
  obtain ⟨rfl, rfl⟩ := trodVars_none hV
  have k0 := h0
  have lt0 : ∀ x ∈ p0, x.block < W.heap.size := by obtain ⟨m, hm⟩ := k0; exact DataW.trod_lt m _ _ _ hm
  obtain ⟨a0, ra0, da0⟩ := arg_rep (d := 8) (by kernel_rfl) (hval 0 37 v0 rfl rfl) h0
  clear hA0 hval0
  obtain ⟨m', hr⟩ := cer_runs a0 da0
  refine (law_calls noNum (by kernel_rfl) libS hr globS (RepL.cons ra0 (RepL.nil))).mono fun e W' ⟨he, bel⟩ => ?_
  subst he
  exact ⟨_, rfl, _, _, _, [], _, [], hW', trodAll_mk1 (shut_bool Try.underlying4 _), (trodAll_cons_mk (Below.trod laidOut (by kernel_rfl) (of_decide_eq_true (by kernel_rfl)) k0 bel lt0) (trodAll_mk0)), rfl, bel.frame _, fun h => by cases h⟩
theorem over : Rows.brandCernyRow.holds Try.pinned (OpenSpec.ofChange Rows.brandCernySpec) :=
  OpenClaim.holds_of_wide 4 Try.f4 rfl rfl rfl rfl rfl rfl rfl ⟨rfl, rfl, rfl, rfl, rfl⟩ rfl rfl rfl rfl rfl (by kernel_rfl) Try.func4 (by kernel_rfl)
    (of_decide_eq_true (by kernel_rfl)) (by unfold Func.isWrapper; first | (rw [if_pos (by decide +kernel)]; kernel_rfl) | (rw [if_neg (by decide +kernel)]; exact ⟨rfl, rfl⟩))
    (fun os started H enc _ => lifted os started H enc)
theorem proved : Rows.BrandCernySaid := over
#print axioms proved
end Go.Proofs.Ythnpflkpjimkfaa.BrandCernyDone
