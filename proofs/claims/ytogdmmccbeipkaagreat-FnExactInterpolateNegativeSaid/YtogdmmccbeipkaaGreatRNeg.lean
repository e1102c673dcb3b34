/- The program's InterpolateNegative is the reference's. -/
import Derived.Test.YtogdmmccbeipkaaGreatL4
set_option linter.all false
namespace Go.Proofs.YtogdmmccbeipkaaGreat
open Go Go.Abs
set_option maxRecDepth 100000

theorem negative_lifted (os : Os) (started : os.Started) (H : Type) (enc : TypeId × Value → H) :
    ReturnsInHanded {} Tryz.checked os 3 .any (Rows.fnExactInterpolateNegativeSpec.pre6 enc Tryz.prog Tryz.f3 Rows.fnExactInterpolateNegativeRow.domain false)
      (Rows.fnExactInterpolateNegativeSpec.post enc Tryz.prog Tryz.f3 false true false false) :=
  A.law3_lifted (s := Rows.fnExactInterpolateNegativeSpec) Tryz.func3 rfl rfl (by kernel_rfl) rfl (fun _ _ _ _ => rfl) (fun _ _ _ _ => rfl) (fun _ _ _ _ => rfl) (fun n cs k ss h1 h2 h3 => A.negLaw_a n cs k ss h1 h2 h3) started
      (ChangeSpec.witness6 (enc := enc) (C := Tryz.checked) false ⟨#[], #[.agg #[.int .i64 0, .slice none 0 0], .int .i64 0, .slice none 0 0], []⟩ 8 (by kernel_rfl) (by kernel_rfl) (by kernel_rfl) (by kernel_rfl))
theorem negative_holds : Rows.FnExactInterpolateNegativeSaid :=
  OpenClaim.holds_of_wide 3 Tryz.f3 rfl rfl rfl rfl rfl rfl rfl ⟨rfl, rfl, rfl, rfl, rfl⟩ rfl rfl rfl rfl rfl (by kernel_rfl) Tryz.func3 (by kernel_rfl)
    (of_decide_eq_true (by kernel_rfl)) (by unfold Func.isWrapper; rw [if_neg (by decide +kernel)]; exact ⟨rfl, rfl⟩)
    (fun os started H enc _ => negative_lifted os started H enc)
end Go.Proofs.YtogdmmccbeipkaaGreat
