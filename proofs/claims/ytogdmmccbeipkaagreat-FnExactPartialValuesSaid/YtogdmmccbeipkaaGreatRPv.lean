/- The program's PartialValues is the reference's. -/
import Derived.Test.YtogdmmccbeipkaaGreatL7
import Derived.Test.YtogdmmccbeipkaaGreatR2
set_option linter.all false
namespace Go.Proofs.YtogdmmccbeipkaaGreat
open Go Go.Abs
set_option maxRecDepth 100000

theorem partialValues_lifted (os : Os) (started : os.Started) (H : Type) (enc : TypeId × Value → H) :
    ReturnsInHanded {} Tryz.checked os 5 .any (Rows.fnExactPartialValuesSpec.pre6 enc Tryz.prog Tryz.f5 Rows.fnExactPartialValuesRow.domain false)
      (Rows.fnExactPartialValuesSpec.post enc Tryz.prog Tryz.f5 false true false false) :=
  A.law4_lifted (s := Rows.fnExactPartialValuesSpec) Tryz.func5 rfl rfl (by kernel_rfl) rfl (fun _ _ _ _ _ => rfl) (fun _ _ _ _ _ => rfl) (fun _ _ _ _ _ => rfl) (fun n cs k ss j h1 h2 h3 => A.pvLaw_a n cs k ss j h1 h2 h3) started
      (ChangeSpec.witness6 (enc := enc) (C := Tryz.checked) false ⟨#[], #[.agg #[.int .i64 0, .slice none 0 0], .int .i64 0, .slice none 0 0, .int .i64 0], []⟩ 8 (by kernel_rfl) (by kernel_rfl) (by kernel_rfl) (by kernel_rfl))
theorem partialValues_holds : Rows.FnExactPartialValuesSaid :=
  OpenClaim.holds_of_wide 5 Tryz.f5 rfl rfl rfl rfl rfl rfl rfl ⟨rfl, rfl, rfl, rfl, rfl⟩ rfl rfl rfl rfl rfl (by kernel_rfl) Tryz.func5 (by kernel_rfl)
    (of_decide_eq_true (by kernel_rfl)) (by unfold Func.isWrapper; rw [if_neg (by decide +kernel)]; exact ⟨rfl, rfl⟩)
    (fun os started H enc _ => partialValues_lifted os started H enc)
end Go.Proofs.YtogdmmccbeipkaaGreat
