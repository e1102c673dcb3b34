/- Contracts: the reference's InterpolatePositive. -/
import Derived.Test.YtogdmmccbeipkaaGreatF22
set_option linter.all false
namespace Go.Proofs.YtogdmmccbeipkaaGreat.A
open Go Go.Abs
set_option pp.maxSteps 3000
set_option pp.deepTerms true
set_option linter.unusedSimpArgs false
set_option maxRecDepth 20000

theorem l30Left_q (n : Int) (cs : List (List Int)) (k : Nat) (ok : OkC n cs) (hn : 0 ≤ n ∧ n ≤ 12) (hk : k ≤ cs.length) (h : Heap) (nx : Nat) :
    CallsQ Tryz.prog 49 [cnfA n cs, .int k] h nx (.bool (!signB (cs.take k) (bothM n cs k) false)) := by
  refine CallsQ.of_pure 1 (by simp [go_sem, cnfA]) (in49 ?_) h nx
  have hl := ok.len
  have h2 : ∀ c ∈ cs.take k, InRs c ∧ Len c := fun c hc => ok.cl c (List.mem_of_mem_take hc)
  have l2 : (cs.take k).length ≤ 140737488355328 := by rw [List.length_take]; omega
  have hb : Len (bothM n cs k) := by have := side_length (bothP cs k) n.toNat; unfold Len bothM; omega
  simp [go_sem, Tryz.f49, cnfA]
  refine (l29Sides_q n cs k ok hn hk _ _).call ?_
  simp [go_sem, intss, hk]
  rw [intss_take]
  refine (l30Sign_q (cs.take k) _ false l2 h2 hb _ _).call ?_
  simp [go_sem, view, vw]

theorem specPositive_q (n : Int) (cs : List (List Int)) (k : Int) (ss : List Step') (ok : OkC n cs) (oks : OkS ss) (h : Heap) (nx : Nat) :
    CallsQ Tryz.prog 21 [cnfA n cs, .int k, stepsA ss] h nx (giveA (posM n cs k ss)) := by
  refine CallsQ.of_pure 1 (by simp [go_sem, cnfA]) (in21 ?_) h nx
  simp [go_sem, Tryz.f21, cnfA]
  refine (l29Asked_q n cs k ok _ _).call ?_
  cases h1 : goodB n cs && inB k 0 cs.length
  · have hr : posM n cs k ss = none := by simp [posM, h1]
    simp [go_sem, view, vw, vwL, hr, giveA, gatesA]
  have h1' : goodB n cs = true ∧ inB k 0 cs.length = true := by simpa using h1
  have hk : 0 ≤ k ∧ k ≤ cs.length := by have := h1'.2; simpa [inB] using this
  obtain ⟨kn, rfl⟩ : ∃ m : Nat, k = m := ⟨k.toNat, by omega⟩
  have hkn : kn ≤ cs.length := by omega
  have hv : varsB n = true := by have := h1'.1; simp only [goodB, Bool.and_eq_true] at this; exact this.1.1
  have hn := varsB_iff.1 hv
  simp [go_sem]
  refine (l30Left_q n cs kn ok hn hkn _ _).call ?_
  cases h2 : signB (cs.take kn) (bothM n cs kn) false
  · simp [go_sem]
    refine (l7Refutes_q n cs ss ok oks _ _).call ?_
    cases h3 : refutB n cs ss
    · have hr : posM n cs kn ss = none := by simp [posM, h3]
      simp [go_sem, view, vw, vwL, hr, giveA, gatesA]
    have h3' : derivB n cs ss = true ∧ 0 < ss.length := by simp only [refutB, Bool.and_eq_true, decide_eq_true_eq] at h3; exact h3.1
    simp [go_sem]
    refine (l30Make_q n cs kn ss true ok oks hkn h3'.1 h3'.2 _ _).call ?_
    have hr : posM n cs kn ss = if (takeG (gatesM cs kn true ss ([], []))).length > 200 then none else some (takeG (gatesM cs kn true ss ([], []))) := by
      unfold posM
      rw [if_pos (by simp [h1, h2, h3])]; rfl
    have hle : ss.length ≤ 200 := by have := h3'.1; simp only [derivB, Bool.and_eq_true, decide_eq_true_eq] at this; exact this.1.1
    have hlen : (takeG (gatesM cs kn true ss ([], []))).length ≤ 100000 := by
      have h4 := gates_length cs kn true ss ([], [])
      have h5 := takeG_length (gatesM cs kn true ss ([], []))
      simp only [List.length_nil] at h4
      omega
    simp [go_sem]
    refine (l30Give_q (takeG (gatesM cs kn true ss ([], []))) hlen _ _).call ?_
    rw [hr]
    by_cases h6 : (takeG (gatesM cs kn true ss ([], []))).length > 200
    · simp [go_sem, h6, view, vw, vwL, giveA, gatesA]
    · simp [go_sem, h6, view, vw, vwL, giveA, gatesA]
  · have hr : posM n cs kn ss = none := by simp [posM, h2]
    simp [go_sem, view, vw, vwL, hr, giveA, gatesA]
end Go.Proofs.YtogdmmccbeipkaaGreat.A
