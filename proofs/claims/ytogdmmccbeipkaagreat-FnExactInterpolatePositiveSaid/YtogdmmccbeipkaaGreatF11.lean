/- Contracts: what the library turns in place. -/
import Derived.Test.YtogdmmccbeipkaaGreatF10
set_option linter.all false
namespace Go.Proofs.YtogdmmccbeipkaaGreat.A
open Go Go.Abs
set_option pp.maxSteps 3000
set_option pp.deepTerms true
set_option linter.unusedSimpArgs false
set_option maxRecDepth 20000

theorem withoutVar1_q (x v : Int) (hx : InR x) (h : Heap) (nx : Nat) : CallsQ Tryz.prog 176 [.int x, .iptr [.int v]] h nx (.bool (decide (absI x = v))) := by
  refine CallsQ.of_pure 1 (by simp [go_sem]) (in176 ?_) h nx
  simp [go_sem, Tryz.f176]
  refine ⟨_, abs_q x hx _ _, ?_⟩
  simp [go_sem, view, vw]

theorem splitOf1_q (r : List Int) (v : Int) (hr : Len r) (h : Heap) (nx : Nat) : CallsQ Tryz.prog 107 [.int v, .iptr [ints r]] h nx (.bool (!hasB r v)) := by
  refine CallsQ.of_pure 1 (by simp [go_sem]) (in107 ?_) h nx
  simp [go_sem, Tryz.f107]
  refine (Contains_q r v hr _ _).call ?_
  simp [go_sem, view, vw]
end Go.Proofs.YtogdmmccbeipkaaGreat.A
