/- Contracts: steps, the program. -/
import Derived.Test.YtogdmmccbeipkaaGreatF9
set_option linter.all false
namespace Go.Proofs.YtogdmmccbeipkaaGreat.A
open Go Go.Abs
set_option pp.maxSteps 3000
set_option pp.deepTerms true
set_option linter.unusedSimpArgs false
set_option maxRecDepth 20000

theorem isAxiom_q (s : Step') (h : Heap) (nx : Nat) : CallsQ Tryz.prog 111 [.agg (stepC s)] h nx (.bool (decide (s.l < 0))) := by
  refine CallsQ.of_pure 1 (by simp [go_sem, stepC]) (in111 ?_) h nx
  simp [go_sem, Tryz.f111, stepC, view, vw]

theorem isWeakening_q (s : Step') (h : Heap) (nx : Nat) : CallsQ Tryz.prog 88 [.agg (stepC s)] h nx (.bool (decide (0 ≤ s.l) && decide (s.r < 0))) := by
  refine CallsQ.of_pure 1 (by simp [go_sem, stepC]) (in88 ?_) h nx
  simp [go_sem, Tryz.f88, stepC]
  by_cases h1 : 0 ≤ s.l <;> simp [go_sem, h1, view, vw]

theorem earlier_q (n : Int) (cs : List (List Int)) (ss : List Step') (k : Nat) (i : Int) (ok : OkC n cs) (oks : OkS ss) (hk : k ≤ ss.length) (h : Heap) (nx : Nat) :
    CallsQ Tryz.prog 169 [cnfA n cs, stepsA ss, .int k, .int i] h nx (if earlierB n ss k i then .tup [ints (clAt ss i), .bool true] else .tup [.nils, .bool false]) := by
  refine CallsQ.of_pure 1 (by simp [go_sem, cnfA]) (in169 ?_) h nx
  have hl := oks.len
  simp [go_sem, Tryz.f169, cnfA, intss, stepsA]
  refine ⟨inR_of (by omega) (by omega), _, within_q _ _ _ _ _, ?_⟩
  cases h1 : inB i 0 (k - 1)
  · simp [go_sem, view, vw, vwL, earlierB, h1]
  · have h2 : 0 ≤ i ∧ i ≤ k - 1 := by simpa [inB] using h1
    have h3 : i.toNat < ss.length := by omega
    simp [go_sem, h2.1, h3, stepC]
    have hm := (oks.cl _ (List.getElem_mem h3)).1
    refine ⟨_, IsClause_q n _ ok.n hm.1 (by have := hm.2; unfold Len at this; omega) _ _, ?_⟩
    cases h4 : clauseB n ss[i.toNat].cl
    · simp [go_sem, view, vw, vwL, earlierB, h1, clAt_eq h3, h4]
    · simp [go_sem, view, vw, vwL, earlierB, h1, clAt_eq h3, h4, h2.1, h3, stepC]
end Go.Proofs.YtogdmmccbeipkaaGreat.A
