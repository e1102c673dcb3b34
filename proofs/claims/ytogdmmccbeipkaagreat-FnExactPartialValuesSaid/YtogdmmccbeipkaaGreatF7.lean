/- Contracts: the reference's interpolant. -/
import Derived.Test.YtogdmmccbeipkaaGreatF6
set_option linter.all false
namespace Go.Proofs.YtogdmmccbeipkaaGreat.A
open Go Go.Abs
set_option pp.maxSteps 3000
set_option pp.deepTerms true
set_option linter.unusedSimpArgs false
set_option maxRecDepth 20000

theorem l30Give_q (g : List G3) (hl : g.length ≤ 100000) (h : Heap) (nx : Nat) : CallsQ Tryz.prog 37 [gatesA g] h nx (giveA (if g.length > 200 then none else some g)) := by
  refine CallsQ.of_pure 1 (by simp [go_sem, pure_gates]) (in37 ?_) h nx
  simp [go_sem, Tryz.f37, gatesA]
  by_cases h1 : g.length > 200
  · have h2 : (200 : Int) < g.length := by omega
    simp [go_sem, h2, h1, view, vw, vwL, giveA, gatesA]
  · have h2 : ¬ (200 : Int) < g.length := by omega
    simp [go_sem, h2, h1, view, vw, vwL, giveA, gatesA]

theorem gate_length (cs : List (List Int)) (k : Int) (kn : Nat) (pos : Bool) (s : Step') (g : List G3) (a : List Int) : (gateM cs k kn pos s g a).1.length ≤ g.length + 3 := by
  unfold gateM
  (repeat' split) <;> simp
theorem gates_length (cs : List (List Int)) (kn : Nat) (pos : Bool) : ∀ (l : List Step') (st : List G3 × List Int), (gatesM cs kn pos l st).1.length ≤ st.1.length + 3 * l.length
  | [], st => by simp [gatesM]
  | s :: r, st => by
    simp only [gatesM]
    split
    · omega
    · have h1 := gates_length cs kn pos r (gateM cs kn kn pos s st.1 st.2)
      have h2 := gate_length cs kn kn pos s st.1 st.2
      simp only [List.length_cons]; omega
theorem takeG_length (st : List G3 × List Int) : (takeG st).length ≤ st.1.length := by
  unfold takeG
  split
  · exact Nat.le_refl _
  · rw [List.length_take]; omega

theorem specNegative_q (n : Int) (cs : List (List Int)) (k : Int) (ss : List Step') (ok : OkC n cs) (oks : OkS ss) (h : Heap) (nx : Nat) :
    CallsQ Tryz.prog 10 [cnfA n cs, .int k, stepsA ss] h nx (giveA (negM n cs k ss)) := by
  refine CallsQ.of_pure 1 (by simp [go_sem, cnfA]) (in10 ?_) h nx
  simp [go_sem, Tryz.f10, cnfA]
  refine (l29Asked_q n cs k ok _ _).call ?_
  cases h1 : goodB n cs && inB k 0 cs.length
  · have hr : negM n cs k ss = none := by simp [negM, h1]
    simp [go_sem, view, vw, vwL, hr, giveA, gatesA]
  have h1' : goodB n cs = true ∧ inB k 0 cs.length = true := by simpa using h1
  have hk : 0 ≤ k ∧ k ≤ cs.length := by have := h1'.2; simpa [inB] using this
  obtain ⟨kn, rfl⟩ : ∃ m : Nat, k = m := ⟨k.toNat, by omega⟩
  have hkn : kn ≤ cs.length := by omega
  have hv : varsB n = true := by have := h1'.1; simp only [goodB, Bool.and_eq_true] at this; exact this.1.1
  have hn := varsB_iff.1 hv
  simp [go_sem]
  refine (l30Right_q n cs kn ok hn hkn _ _).call ?_
  cases h2 : signB (cs.drop kn) (bothM n cs kn) true
  · simp [go_sem]
    refine (l7Refutes_q n cs ss ok oks _ _).call ?_
    cases h3 : refutB n cs ss
    · have hr : negM n cs kn ss = none := by simp [negM, h3]
      simp [go_sem, view, vw, vwL, hr, giveA, gatesA]
    have h3' : derivB n cs ss = true ∧ 0 < ss.length := by simp only [refutB, Bool.and_eq_true, decide_eq_true_eq] at h3; exact h3.1
    simp [go_sem]
    refine (l30Make_q n cs kn ss false ok oks hkn h3'.1 h3'.2 _ _).call ?_
    have hr : negM n cs kn ss = if (takeG (gatesM cs kn false ss ([], []))).length > 200 then none else some (takeG (gatesM cs kn false ss ([], []))) := by
      unfold negM
      rw [if_pos (by simp [h1, h2, h3])]; rfl
    have hle : ss.length ≤ 200 := by have := h3'.1; simp only [derivB, Bool.and_eq_true, decide_eq_true_eq] at this; exact this.1.1
    have hlen : (takeG (gatesM cs kn false ss ([], []))).length ≤ 100000 := by
      have h4 := gates_length cs kn false ss ([], [])
      have h5 := takeG_length (gatesM cs kn false ss ([], []))
      simp only [List.length_nil] at h4
      omega
    simp [go_sem]
    refine (l30Give_q (takeG (gatesM cs kn false ss ([], []))) hlen _ _).call ?_
    rw [hr]
    by_cases h6 : (takeG (gatesM cs kn false ss ([], []))).length > 200
    · simp [go_sem, h6, view, vw, vwL, giveA, gatesA]
    · simp [go_sem, h6, view, vw, vwL, giveA, gatesA]
  · have hr : negM n cs kn ss = none := by simp [negM, h2]
    simp [go_sem, view, vw, vwL, hr, giveA, gatesA]
end Go.Proofs.YtogdmmccbeipkaaGreat.A
