/- Contracts: derivations, the program. -/
import Derived.Test.YtogdmmccbeipkaaGreatP1
set_option linter.all false
namespace Go.Proofs.YtogdmmccbeipkaaGreat.A
open Go Go.Abs Go.Shelf
set_option pp.maxSteps 3000
set_option pp.deepTerms true
set_option linter.unusedSimpArgs false
set_option maxRecDepth 20000

theorem earlier_clause {n : Int} {ss : List Step'} {k : Nat} {i : Int} (h : earlierB n ss k i = true) : clauseB n (clAt ss i) = true := by
  simp only [earlierB, Bool.and_eq_true] at h; exact h.2

theorem correct_q (n : Int) (cs : List (List Int)) (ss : List Step') (k : Nat) (ok : OkC n cs) (oks : OkS ss) (hk : k < ss.length) (h : Heap) (nx : Nat) :
    CallsQ Tryz.prog 151 [cnfA n cs, stepsA ss, .int k] h nx (.bool (correctB n cs ss k)) := by
  refine CallsQ.of_pure 1 (by simp [go_sem, cnfA]) (in151 ?_) h nx
  have hl := oks.len
  have hlc := ok.len
  have hs : ss.getD k default = ss[k] := by rw [List.getD_eq_getElem?_getD, List.getElem?_eq_getElem hk]; rfl
  obtain ⟨hcl, hL, hR, hP⟩ := oks.cl _ (List.getElem_mem hk)
  unfold correctB
  rw [hs]
  generalize hst : ss[k] = s at *
  simp [go_sem, Tryz.f151, cnfA, intss, stepsA, hk, hst, stepC]
  refine (IsClause_q n _ ok.n hcl.1 (by have := hcl.2; unfold Len at this; omega) _ _).call ?_
  cases h1 : clauseB n s.cl
  · simp [go_sem, view, vw, stepB, h1]
  simp [go_sem]
  by_cases h2 : s.l = -1
  · simp [go_sem, h2]
    by_cases h3 : s.p = 0
    · simp [go_sem, h3]
      refine ⟨inR_of (by omega) (by omega), _, within_q _ _ _ _ _, ?_⟩
      cases h4 : inB s.r 0 (cs.length - 1)
      · simp [go_sem, view, vw, stepB, h1, h2, h3, h4]
      · have h5 : 0 ≤ s.r ∧ s.r ≤ cs.length - 1 := by simpa [inB] using h4
        have h6 : s.r.toNat < cs.length := by omega
        simp [go_sem, h5.1, h6]
        refine ⟨_, Equal_q _ _ (ok.cl _ (List.getElem_mem h6)).2 _ _, ?_⟩
        simp [go_sem, view, vw, stepB, h1, h2, h3, h4, h6]
    · simp [go_sem, h3, view, vw, stepB, h1, h2]
  · simp [go_sem, h2]
    refine (earlier_q n cs ss k s.l ok oks (by omega) _ _).call ?_
    cases h3 : earlierB n ss k s.l
    · simp [go_sem, view, vw, stepB, h1, h2, h3]
    have hl3 := earlier_lt (by omega) h3
    have hmL := (oks.cl _ (List.getElem_mem hl3.2)).1
    rw [← clAt_eq hl3.2] at hmL
    by_cases h4 : s.r = -1
    · simp [go_sem, h4]
      by_cases h5 : s.p = 0
      · simp [go_sem, h5]
        refine (part_q _ _ hmL.2 hcl.2 _ _).call ?_
        simp [go_sem, view, vw, stepB, h1, h2, h3, h4, h5]
      · simp [go_sem, h5, view, vw, stepB, h1, h2, h3, h4]
    · simp [go_sem, h4]
      refine (earlier_q n cs ss k s.r ok oks (by omega) _ _).call ?_
      cases h5 : earlierB n ss k s.r
      · simp [go_sem, view, vw, stepB, h1, h2, h3, h4, h5]
      have hl5 := earlier_lt (by omega) h5
      have hmR := (oks.cl _ (List.getElem_mem hl5.2)).1
      rw [← clAt_eq hl5.2] at hmR
      simp [go_sem]
      refine (isVar_q _ _ _ _).call ?_
      cases h6 : inB s.p 1 n
      · simp [go_sem, view, vw, stepB, h1, h2, h3, h4, h5, h6]
      have hcL := earlier_len h3
      have hcR := earlier_len h5
      simp [go_sem]
      refine (resolve_q _ _ _ (by omega) hmL.1 hmR.1 hP _ _).call ?_
      rw [resolve_same (earlier_clause h3) (earlier_clause h5)]
      have hrr : stepB n cs ss k s = resB (resolveM (clAt ss s.l) (clAt ss s.r) s.p) s.cl := by simp [stepB, h1, h2, h3, h4, h5, h6]
      cases h7 : resolveM (clAt ss s.l) (clAt ss s.r) s.p with
      | none => rw [h7] at hrr; simp [go_sem, joinN, view, vw, hrr, resB]
      | some c =>
        rw [h7] at hrr
        have hlc := resolve_length h7
        simp [go_sem, joinN]
        refine (Equal_q _ _ (by unfold Len; omega) _ _).call ?_
        simp [go_sem, view, vw, hrr, resB]

theorem firstWrong_q (n : Int) (cs : List (List Int)) (ss : List Step') (ok : OkC n cs) (oks : OkS ss) (h : Heap) (nx : Nat) : CallsQ Tryz.prog 136 [cnfA n cs, stepsA ss] h nx (.int (wrongI n cs ss)) := by
  refine CallsQ.of_pure 1 (by simp [go_sem, cnfA]) (in136 ?_) h nx
  simp [go_sem, Tryz.f136, cnfA, intss, stepsA]
  refine ⟨{i : Nat // i ≤ ss.length ∧ ∀ j, j < i → correctB n cs ss j = true}, fun i => ⟨E [(0, cnfA n cs), (1, stepsA ss), (2, .ptr 0 1 0 0), (4, .int 0), (7, .int ss.length), (8, .int i.1)], Hp [(0, ⟨2, [[.int n, intss cs]]⟩)], 1, 18⟩, fun i => ss.length - i.1, ⟨0, by simp⟩, Leads.E (by simp [E_cons, E_nil, cnfA, intss, stepsA]) rfl rfl, ?_⟩
  rintro ⟨i, hi, hok⟩
  have hl := oks.len
  by_cases hlt : i < ss.length
  · simp [go_sem, cnfA, intss, stepsA, hlt]
    refine (correct_q n cs ss i ok oks hlt _ _).call ?_
    cases h1 : correctB n cs ss i
    · have hr : wrongI n cs ss = i := wrongI_found hok hlt h1
      simp [go_sem, view, vw, hr]
    · simp [go_sem]
      refine ⟨inR_of (by omega) (by omega), ⟨i + 1, by omega, fun j hj => ?_⟩, by simp; omega, Leads.E (by simp [E_cons, E_nil, cnfA, intss, stepsA]) rfl rfl⟩
      rcases Nat.lt_succ_iff_lt_or_eq.1 hj with h2 | h2
      · exact hok j h2
      · rw [h2]; exact h1
  · have hr : wrongI n cs ss = -1 := wrongI_none fun j hj => hok j (by omega)
    simp [go_sem, cnfA, intss, stepsA, hlt, view, vw, hr]

theorem IsDerivation_q (n : Int) (cs : List (List Int)) (ss : List Step') (ok : OkC n cs) (oks : OkS ss) (h : Heap) (nx : Nat) : CallsQ Tryz.prog 109 [cnfA n cs, stepsA ss] h nx (.bool (derivB n cs ss)) := by
  refine CallsQ.of_pure 1 (by simp [go_sem, cnfA]) (in109 ?_) h nx
  simp [go_sem, Tryz.f109, cnfA]
  refine (IsCnf_q n cs ok _ _).call ?_
  cases h1 : goodB n cs
  · simp [go_sem, view, vw, derivB, h1]
  · simp [go_sem, stepsA]
    by_cases h2 : ss.length ≤ 200
    · have h2' : (ss.length : Int) ≤ 200 := by omega
      simp [go_sem, h2']
      refine (firstWrong_q n cs ss ok oks _ _).call ?_
      simp [go_sem, view, vw, derivB, h1, h2]
    · have h2' : ¬ (ss.length : Int) ≤ 200 := by omega
      simp [go_sem, h2', view, vw, derivB, h1, h2]

theorem last_q (ss : List Step') (hs : 0 < ss.length) (hl : ss.length ≤ 1000) (h : Heap) (nx : Nat) : CallsQ Tryz.prog 110 [stepsA ss] h nx (.agg (stepC (ss[ss.length - 1]'(by omega)))) := by
  refine CallsQ.of_pure 1 (by simp [go_sem]) (in110 ?_) h nx
  have h1 : ((ss.length : Int) - 1).toNat = ss.length - 1 := by omega
  have h2 : ss.length - 1 < ss.length := by omega
  have h3 : ((ss.length : Int) - 1).toNat < ss.length := by omega
  simp [go_sem, Tryz.f110, stepsA]
  refine ⟨inR_of (by omega) (by omega), by omega, ?_⟩
  rw [List.getElem?_eq_getElem h2]
  simp [go_sem, stepC, view, vw, vwL]

theorem IsRefutation_q (n : Int) (cs : List (List Int)) (ss : List Step') (ok : OkC n cs) (oks : OkS ss) (h : Heap) (nx : Nat) : CallsQ Tryz.prog 77 [cnfA n cs, stepsA ss] h nx (.bool (refutB n cs ss)) := by
  refine CallsQ.of_pure 1 (by simp [go_sem, cnfA]) (in77 ?_) h nx
  simp [go_sem, Tryz.f77, cnfA]
  refine (IsDerivation_q n cs ss ok oks _ _).call ?_
  cases h1 : derivB n cs ss
  · simp [go_sem, view, vw, refutB, h1]
  · have hle : ss.length ≤ 200 := by simp only [derivB, Bool.and_eq_true, decide_eq_true_eq] at h1; exact h1.1.1
    simp [go_sem, stepsA]
    by_cases h2 : 0 < ss.length
    · have h2' : ss ≠ [] := by intro e; rw [e] at h2; cases h2
      simp [go_sem, h2]
      refine (last_q ss h2 (by omega) _ _).call ?_
      have h3 : ((ss.length : Int) - 1).toNat < ss.length := by omega
      have h4 : clAt ss (ss.length - 1) = ss[ss.length - 1].cl := by
        rw [clAt_eq h3]; congr 1; simp only [show ((ss.length : Int) - 1).toNat = ss.length - 1 by omega]
      have hr : refutB n cs ss = decide ((clAt ss (ss.length - 1)).length = 0) := by simp [refutB, h1, h2]
      simp [go_sem, view, vw, ints, hr, h4, stepC]
    · have h2' : ss = [] := by cases ss with
        | nil => rfl
        | cons _ _ => simp at h2
      simp [go_sem, h2', view, vw, refutB]
end Go.Proofs.YtogdmmccbeipkaaGreat.A
