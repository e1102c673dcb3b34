/- Contracts: Cnfs and derivations, the reference. -/
import Derived.Test.YtogdmmccbeipkaaGreatF3
set_option linter.all false
namespace Go.Proofs.YtogdmmccbeipkaaGreat.A
open Go Go.Abs
set_option pp.maxSteps 3000
set_option pp.deepTerms true
set_option linter.unusedSimpArgs false
set_option maxRecDepth 20000

theorem l2Good_q (n : Int) (cs : List (List Int)) (ok : OkC n cs) (h : Heap) (nx : Nat) : CallsQ Tryz.prog 63 [cnfA n cs] h nx (.bool (goodB n cs)) := by
  refine CallsQ.of_pure 1 (by simp [go_sem, cnfA]) (in63 ?_) h nx
  simp [go_sem, Tryz.f63, cnfA, intss]
  refine (l2Vars_q _ _ _).call ?_
  cases hv : varsB n
  · simp [go_sem, view, vw, goodB, hv]
  simp [go_sem]
  by_cases h60 : 60 < cs.length
  · have h60' : (60 : Int) < (cs.length : Int) := by omega
    have hr : goodB n cs = false := by simp [goodB]; omega
    simp [go_sem, h60', view, vw, hr]
  · have h60' : ¬ (60 : Int) < (cs.length : Int) := by omega
    simp [go_sem, h60']
    refine ⟨{i : Nat // i ≤ cs.length ∧ (cs.take i).all (clauseB n) = true}, fun i => ⟨E [(0, cnfA n cs), (1, .ptr 0 1 0 0), (2, .bool false), (3, .int i.1)], Hp [(0, ⟨2, [[.int n, intss cs]]⟩)], 1, 30⟩, fun i => cs.length - i.1, ⟨0, by simp⟩, Leads.E (by simp [E_cons, E_nil, cnfA, intss, ints]) rfl rfl, ?_⟩
    rintro ⟨i, hi, hok⟩
    have hl := ok.len
    by_cases hlt : i < cs.length
    · simp [go_sem, cnfA, intss, hlt]
      have hm := ok.cl _ (List.getElem_mem hlt)
      refine ⟨_, l2Clause_q n _ ok.n hm.1 hm.2 _ _, ?_⟩
      cases h1 : clauseB n cs[i]
      · have hr : goodB n cs = false := by
          have := all_bad (p := clauseB n) hlt h1
          rw [goodB_all]; simp [this]
        simp [go_sem, view, vw, hr]
      · simp [go_sem]
        exact ⟨inR_of (by omega) (by omega), ⟨i + 1, by omega, all_next hok hlt h1⟩, by simp; omega, Leads.E (by simp [E_cons, E_nil, cnfA, intss]) rfl rfl⟩
    · have hr : goodB n cs = true := by
        rw [goodB_all, hv, all_done hok hlt]; simp; omega
      simp [go_sem, cnfA, intss, hlt, view, vw, hr]

theorem IsCnf_q (n : Int) (cs : List (List Int)) (ok : OkC n cs) (h : Heap) (nx : Nat) : CallsQ Tryz.prog 104 [cnfA n cs] h nx (.bool (goodB n cs)) := by
  refine CallsQ.of_pure 1 (by simp [go_sem, cnfA]) (in104 ?_) h nx
  simp [go_sem, Tryz.f104, cnfA, intss]
  refine ⟨{i : Nat // i ≤ cs.length ∧ (cs.take i).all (clauseB n) = true}, fun i => ⟨E [(0, cnfA n cs), (1, .ptr 0 1 0 0), (2, .bool false), (6, intss cs), (7, .int cs.length), (8, .int i.1)], Hp [(0, ⟨2, [[.int n, intss cs]]⟩)], 1, 27⟩, fun i => cs.length - i.1, ⟨0, by simp⟩, Leads.E (by simp [E_cons, E_nil, cnfA, intss, ints]) rfl rfl, ?_⟩
  rintro ⟨i, hi, hok⟩
  have hl := ok.len
  by_cases hlt : i < cs.length
  · simp [go_sem, cnfA, intss, hlt]
    have hm := ok.cl _ (List.getElem_mem hlt)
    refine (IsClause_q n _ ok.n hm.1 (by have := hm.2; unfold Len at this; omega) _ _).call ?_
    cases h1 : clauseB n cs[i]
    · have hr : goodB n cs = false := by
        have := all_bad (p := clauseB n) hlt h1
        rw [goodB_all]; simp [this]
      simp [go_sem, view, vw, hr]
    · simp [go_sem]
      exact ⟨inR_of (by omega) (by omega), ⟨i + 1, by omega, all_next hok hlt h1⟩, by simp; omega, Leads.E (by simp [E_cons, E_nil, cnfA, intss]) rfl rfl⟩
  · simp [go_sem, cnfA, intss, hlt]
    refine (varsOk_q _ _ _).call ?_
    cases h1 : varsB n
    · have hr : goodB n cs = false := by rw [goodB_all, h1]; rfl
      simp [go_sem, view, vw, hr]
    · have hr := good_le h1 (all_done hok hlt)
      simp [go_sem, view, vw, hr]

theorem clAt_ok {ss : List Step'} (ok : OkS ss) (i : Int) : InRs (clAt ss i) ∧ Len (clAt ss i) := by
  unfold clAt
  by_cases h : i.toNat < ss.length
  · rw [List.getD_eq_getElem?_getD, List.getElem?_eq_getElem h]
    exact (ok.cl _ (List.getElem_mem h)).1
  · rw [List.getD_eq_getElem?_getD, List.getElem?_eq_none (by omega)]
    exact (show InRs ([] : List Int) ∧ Len ([] : List Int) from ⟨fun x hx => (nomatch hx), Nat.zero_le _⟩)
theorem clAt_eq {ss : List Step'} {i : Int} (h : i.toNat < ss.length) : clAt ss i = ss[i.toNat].cl := by
  unfold clAt; rw [List.getD_eq_getElem?_getD, List.getElem?_eq_getElem h]; rfl

theorem earlier_lt {n : Int} {ss : List Step'} {k : Nat} {i : Int} (hk : k ≤ ss.length) (h : earlierB n ss k i = true) : 0 ≤ i ∧ i.toNat < ss.length := by
  simp only [earlierB, inB, Bool.and_eq_true, decide_eq_true_eq] at h
  omega

theorem earlier_len {n : Int} {ss : List Step'} {k : Nat} {i : Int} (h : earlierB n ss k i = true) : (clAt ss i).length ≤ 12 := by
  simp only [earlierB, Bool.and_eq_true] at h
  exact clause_length h.2

theorem l7Clause_q (n : Int) (cs : List (List Int)) (ss : List Step') (k : Nat) (i : Int) (ok : OkC n cs) (oks : OkS ss) (hk : k ≤ ss.length) (h : Heap) (nx : Nat) : CallsQ Tryz.prog 145 [cnfA n cs, stepsA ss, .int k, .int i] h nx (.bool (earlierB n ss k i)) := by
  refine CallsQ.of_pure 1 (by simp [go_sem, cnfA]) (in145 ?_) h nx
  have hl := oks.len
  simp [go_sem, Tryz.f145, cnfA, intss, stepsA]
  refine ⟨inR_of (by omega) (by omega), _, l1In_q _ _ _ _ _, ?_⟩
  cases h1 : inB i 0 (k - 1)
  · simp [go_sem, view, vw, earlierB, h1]
  · have h2 : 0 ≤ i ∧ i ≤ k - 1 := by simpa [inB] using h1
    have h3 : i.toNat < ss.length := by omega
    simp [go_sem, h2.1, h3, stepC]
    have hm := (oks.cl _ (List.getElem_mem h3)).1
    refine ⟨_, l2Clause_q n _ ok.n hm.1 hm.2 _ _, ?_⟩
    simp [go_sem, view, vw, earlierB, h1, clAt_eq h3]

theorem l7Correct_q (n : Int) (cs : List (List Int)) (ss : List Step') (k : Nat) (ok : OkC n cs) (oks : OkS ss) (hk : k < ss.length) (h : Heap) (nx : Nat) : CallsQ Tryz.prog 127 [cnfA n cs, stepsA ss, .int k] h nx (.bool (correctB n cs ss k)) := by
  refine CallsQ.of_pure 1 (by simp [go_sem, cnfA]) (in127 ?_) h nx
  have hl := oks.len
  have hlc := ok.len
  have hs : ss.getD k default = ss[k] := by rw [List.getD_eq_getElem?_getD, List.getElem?_eq_getElem hk]; rfl
  obtain ⟨hcl, hL, hR, hP⟩ := oks.cl _ (List.getElem_mem hk)
  unfold correctB
  rw [hs]
  generalize hst : ss[k] = s at *
  simp [go_sem, Tryz.f127, cnfA, intss, stepsA, hk, hst, stepC]
  refine (l2Clause_q n _ ok.n hcl.1 hcl.2 _ _).call ?_
  cases h1 : clauseB n s.cl
  · simp [go_sem, view, vw, stepB, h1]
  simp [go_sem]
  by_cases h2 : s.l = -1
  · simp [go_sem, h2]
    by_cases h3 : s.p = 0
    · simp [go_sem, h3]
      refine ⟨inR_of (by omega) (by omega), _, l1In_q _ _ _ _ _, ?_⟩
      cases h4 : inB s.r 0 (cs.length - 1)
      · simp [go_sem, view, vw, stepB, h1, h2, h3, h4]
      · have h5 : 0 ≤ s.r ∧ s.r ≤ cs.length - 1 := by simpa [inB] using h4
        have h6 : s.r.toNat < cs.length := by omega
        simp [go_sem, h5.1, h6]
        refine ⟨_, l1Same_q _ _ (ok.cl _ (List.getElem_mem h6)).2 _ _, ?_⟩
        simp [go_sem, view, vw, stepB, h1, h2, h3, h4, h6]
    · simp [go_sem, h3, view, vw, stepB, h1, h2]
  · simp [go_sem, h2]
    refine (l7Clause_q n cs ss k s.l ok oks (by omega) _ _).call ?_
    cases h3 : earlierB n ss k s.l
    · simp [go_sem, view, vw, stepB, h1, h2, h3]
    have hl3 := earlier_lt (by omega) h3
    by_cases h4 : s.r = -1
    · simp [go_sem, h4]
      by_cases h5 : s.p = 0
      · simp [go_sem, h5, hl3.1, hl3.2, stepC]
        refine ⟨_, l2Sub_q _ _ (oks.cl _ (List.getElem_mem hl3.2)).1.2 hcl.2 _ _, ?_⟩
        simp [go_sem, view, vw, stepB, h1, h2, h3, h4, h5, clAt_eq hl3.2]
      · simp [go_sem, h5, view, vw, stepB, h1, h2, h3, h4]
    · simp [go_sem, h4]
      refine (l7Clause_q n cs ss k s.r ok oks (by omega) _ _).call ?_
      cases h5 : earlierB n ss k s.r
      · simp [go_sem, view, vw, stepB, h1, h2, h3, h4, h5]
      have hl5 := earlier_lt (by omega) h5
      simp [go_sem]
      refine (l1In_q _ _ _ _ _).call ?_
      cases h6 : inB s.p 1 n
      · simp [go_sem, view, vw, stepB, h1, h2, h3, h4, h5, h6]
      simp [go_sem, hl3.1, hl3.2, hl5.1, hl5.2, stepC]
      have hmL := (oks.cl _ (List.getElem_mem hl3.2)).1
      have hmR := (oks.cl _ (List.getElem_mem hl5.2)).1
      have hcL := earlier_len h3
      have hcR := earlier_len h5
      rw [clAt_eq hl3.2] at hcL
      rw [clAt_eq hl5.2] at hcR
      refine ⟨_, l2Resolve_q _ _ _ (by omega) hmL.1 hmR.1 hP _ _, ?_⟩
      have hrr : stepB n cs ss k s = resB (resolveM ss[s.l.toNat].cl ss[s.r.toNat].cl s.p) s.cl := by simp [stepB, h1, h2, h3, h4, h5, h6, clAt_eq hl3.2, clAt_eq hl5.2]
      cases h7 : resolveM ss[s.l.toNat].cl ss[s.r.toNat].cl s.p with
      | none => rw [h7] at hrr; simp [go_sem, joinR, view, vw, hrr, resB]
      | some c =>
        rw [h7] at hrr
        have hlc := resolve_length h7
        simp [go_sem, joinR]
        refine (l1Same_q _ _ (by unfold Len; omega) _ _).call ?_
        simp [go_sem, view, vw, hrr, resB]

theorem l7Wrong_q (n : Int) (cs : List (List Int)) (ss : List Step') (ok : OkC n cs) (oks : OkS ss) (h : Heap) (nx : Nat) : CallsQ Tryz.prog 102 [cnfA n cs, stepsA ss] h nx (.int (wrongI n cs ss)) := by
  refine CallsQ.of_pure 1 (by simp [go_sem, cnfA]) (in102 ?_) h nx
  simp [go_sem, Tryz.f102, cnfA, intss, stepsA]
  refine ⟨{i : Nat // i ≤ ss.length ∧ ∀ j, j < i → correctB n cs ss j = true}, fun i => ⟨E [(0, cnfA n cs), (1, stepsA ss), (2, .ptr 0 1 0 0), (4, .int 0), (5, .int i.1)], Hp [(0, ⟨2, [[.int n, intss cs]]⟩)], 1, 18⟩, fun i => ss.length - i.1, ⟨0, by simp⟩, Leads.E (by simp [E_cons, E_nil, cnfA, intss, stepsA]) rfl rfl, ?_⟩
  rintro ⟨i, hi, hok⟩
  have hl := oks.len
  by_cases hlt : i < ss.length
  · simp [go_sem, cnfA, intss, stepsA, hlt]
    refine (l7Correct_q n cs ss i ok oks hlt _ _).call ?_
    cases h1 : correctB n cs ss i
    · have hr : wrongI n cs ss = i := wrongI_found hok hlt h1
      simp [go_sem, view, vw, hr]
    · simp [go_sem]
      refine ⟨inR_of (by omega) (by omega), ⟨i + 1, by omega, fun j hj => ?_⟩, by simp; omega, Leads.E (by simp [E_cons, E_nil, cnfA, intss, stepsA]) rfl rfl⟩
      rcases Nat.lt_succ_iff_lt_or_eq.1 hj with h2 | h2
      · exact hok j h2
      · rw [h2]; exact h1
  · have hr : wrongI n cs ss = -1 := wrongI_none fun j hj => hok j (by omega)
    simp [go_sem, cnfA, intss, stepsA, hlt, view, vw, hr]

theorem l7Asked_q (n : Int) (cs : List (List Int)) (ss : List Step') (ok : OkC n cs) (h : Heap) (nx : Nat) : CallsQ Tryz.prog 101 [cnfA n cs, stepsA ss] h nx (.bool (decide (ss.length ≤ 200) && goodB n cs)) := by
  refine CallsQ.of_pure 1 (by simp [go_sem, cnfA]) (in101 ?_) h nx
  simp [go_sem, Tryz.f101, cnfA, intss, stepsA]
  by_cases h1 : ss.length ≤ 200
  · have h1' : (ss.length : Int) ≤ 200 := by omega
    simp [go_sem, h1']
    refine (l2Good_q n cs ok _ _).call ?_
    simp [go_sem, view, vw, h1]
  · have h1' : ¬ (ss.length : Int) ≤ 200 := by omega
    simp [go_sem, h1', view, vw, h1]

theorem l7Good_q (n : Int) (cs : List (List Int)) (ss : List Step') (ok : OkC n cs) (oks : OkS ss) (h : Heap) (nx : Nat) : CallsQ Tryz.prog 67 [cnfA n cs, stepsA ss] h nx (.bool (derivB n cs ss)) := by
  refine CallsQ.of_pure 1 (by simp [go_sem, cnfA]) (in67 ?_) h nx
  simp [go_sem, Tryz.f67, cnfA]
  refine (l7Asked_q n cs ss ok _ _).call ?_
  cases h1 : decide (ss.length ≤ 200) && goodB n cs
  · simp [go_sem, view, vw, derivB, h1]
  · simp [go_sem]
    refine (l7Wrong_q n cs ss ok oks _ _).call ?_
    simp [go_sem, view, vw, derivB, h1]

theorem l7Last_q (ss : List Step') (hs : 0 < ss.length) (hl : ss.length ≤ 1000) (h : Heap) (nx : Nat) : CallsQ Tryz.prog 68 [stepsA ss] h nx (ints (clAt ss (ss.length - 1))) := by
  refine CallsQ.of_pure 1 (by simp [go_sem]) (in68 ?_) h nx
  have h1 : ((ss.length : Int) - 1).toNat = ss.length - 1 := by omega
  have h2 : ss.length - 1 < ss.length := by omega
  have h3 : ((ss.length : Int) - 1).toNat < ss.length := by omega
  simp [go_sem, Tryz.f68, stepsA]
  refine ⟨inR_of (by omega) (by omega), by omega, ?_⟩
  have h4 : clAt ss (ss.length - 1) = ss[ss.length - 1].cl := by
    rw [clAt_eq h3]; congr 1; simp only [h1]
  rw [List.getElem?_eq_getElem h2]
  simp [go_sem, stepC, view, h4]

theorem l7Refutes_q (n : Int) (cs : List (List Int)) (ss : List Step') (ok : OkC n cs) (oks : OkS ss) (h : Heap) (nx : Nat) : CallsQ Tryz.prog 36 [cnfA n cs, stepsA ss] h nx (.bool (refutB n cs ss)) := by
  refine CallsQ.of_pure 1 (by simp [go_sem, cnfA]) (in36 ?_) h nx
  simp [go_sem, Tryz.f36, cnfA]
  refine (l7Good_q n cs ss ok oks _ _).call ?_
  cases h1 : derivB n cs ss
  · simp [go_sem, view, vw, refutB, h1]
  · have hle : ss.length ≤ 200 := by simp only [derivB, Bool.and_eq_true, decide_eq_true_eq] at h1; exact h1.1.1
    simp [go_sem, stepsA]
    by_cases h2 : 0 < ss.length
    · have h2' : ss ≠ [] := by intro e; rw [e] at h2; cases h2
      simp [go_sem, h2]
      refine (l7Last_q ss h2 (by omega) _ _).call ?_
      have hr : refutB n cs ss = decide ((clAt ss (ss.length - 1)).length = 0) := by simp [refutB, h1, h2]
      simp [go_sem, view, vw, ints, hr]
    · have h2' : ss = [] := by cases ss with
        | nil => rfl
        | cons _ _ => simp at h2
      simp [go_sem, h2', view, vw, refutB]
end Go.Proofs.YtogdmmccbeipkaaGreat.A
