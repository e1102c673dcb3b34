/- The program's InterpolatePositive is the reference's. -/
import Derived.Test.YtogdmmccbeipkaaGreatL5
set_option linter.all false
namespace Go.Proofs.YtogdmmccbeipkaaGreat
open Go Go.Abs
set_option maxRecDepth 100000

theorem positive_lifted (os : Os) (started : os.Started) (H : Type) (enc : TypeId × Value → H) :
    ReturnsInHanded {} Tryz.checked os 4 .any (Rows.fnExactInterpolatePositiveSpec.pre6 enc Tryz.prog Tryz.f4 Rows.fnExactInterpolatePositiveRow.domain false)
      (Rows.fnExactInterpolatePositiveSpec.post enc Tryz.prog Tryz.f4 false true false false) :=
  A.law3_lifted (s := Rows.fnExactInterpolatePositiveSpec) Tryz.func4 rfl rfl (by kernel_rfl) rfl (fun _ _ _ _ => rfl) (fun _ _ _ _ => rfl) (fun _ _ _ _ => rfl) (fun n cs k ss h1 h2 h3 => A.posLaw_a n cs k ss h1 h2 h3) started
      (ChangeSpec.witness6 (enc := enc) (C := Tryz.checked) false ⟨#[], #[.agg #[.int .i64 0, .slice none 0 0], .int .i64 0, .slice none 0 0], []⟩ 8 (by kernel_rfl) (by kernel_rfl) (by kernel_rfl) (by kernel_rfl))
theorem positive_holds : Rows.FnExactInterpolatePositiveSaid :=
  OpenClaim.holds_of_wide 4 Tryz.f4 rfl rfl rfl rfl rfl rfl rfl ⟨rfl, rfl, rfl, rfl, rfl⟩ rfl rfl rfl rfl rfl (by kernel_rfl) Tryz.func4 (by kernel_rfl)
    (of_decide_eq_true (by kernel_rfl)) (by unfold Func.isWrapper; rw [if_neg (by decide +kernel)]; exact ⟨rfl, rfl⟩)
    (fun os started H enc _ => positive_lifted os started H enc)
end Go.Proofs.YtogdmmccbeipkaaGreat
