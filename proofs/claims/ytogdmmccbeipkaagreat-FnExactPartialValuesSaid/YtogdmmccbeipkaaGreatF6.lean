/- Contracts: monotone interpolants, the reference. -/
import Derived.Test.YtogdmmccbeipkaaGreatF5
set_option linter.all false
namespace Go.Proofs.YtogdmmccbeipkaaGreat.A
open Go Go.Abs
set_option pp.maxSteps 3000
set_option pp.deepTerms true
set_option linter.unusedSimpArgs false
set_option maxRecDepth 20000
set_option maxHeartbeats 2000000

theorem l30Make_q (n : Int) (cs : List (List Int)) (k : Nat) (ss : List Step') (pos : Bool) (ok : OkC n cs) (oks : OkS ss) (hk : k ≤ cs.length) (hd : derivB n cs ss = true) (hne : 0 < ss.length) (h : Heap) (nx : Nat) :
    CallsQ Tryz.prog 38 [cnfA n cs, .int k, stepsA ss, .bool pos] h nx (gatesA (if (gatesM cs k pos ss ([], [])).1.length > 200 then (gatesM cs k pos ss ([], [])).1 else (gatesM cs k pos ss ([], [])).1.take (atI (gatesM cs k pos ss ([], [])).2 ((gatesM cs k pos ss ([], [])).2.length - 1) + 1).toNat)) := by
  refine CallsQ.of_pure 1 (by simp [go_sem, cnfA]) (in38 ?_) h nx
  generalize hres : gatesA _ = R
  have hle : ss.length ≤ 200 := by simp only [derivB, Bool.and_eq_true, decide_eq_true_eq] at hd; exact hd.1.1
  simp [go_sem, Tryz.f38, cnfA, stepsA]
  refine ⟨{p : Nat × List G3 × List Int // (p.1 ≤ ss.length ∧ p.2.2.length = p.1 ∧ p.2.1.length ≤ 203) ∧ (∀ x ∈ p.2.2, 0 ≤ x ∧ x < p.2.1.length) ∧ gatesM cs k pos ss ([], []) = gatesM cs k pos (ss.drop p.1) p.2},
    fun p => ⟨E [(0, cnfA n cs), (1, .int k), (2, stepsA ss), (3, .bool pos), (4, .ptr 0 1 0 0), (8, .nils), (9, .sl 1 p.1.2.1.length 0 p.1.2.1.length), (10, .sl 2 p.1.2.2.length 0 p.1.2.2.length), (11, .int p.1.1)],
      Hp [(0, ⟨2, [[.int n, intss cs]]⟩), (1, ⟨3, p.1.2.1.map gcell⟩), (2, ⟨1, p.1.2.2.map fun x => [.int x]⟩)], p.1.1 + 3, 167⟩,
    fun p => ss.length - p.1.1, ⟨(0, [], []), by simp⟩, Leads.E (by simp [E_cons, E_nil, cnfA, stepsA]) rfl rfl, ?_⟩
  rintro ⟨⟨i, g, a⟩, ⟨hi, ha, hg⟩, hat, hrun⟩
  simp only at hi ha hg hat hrun
  by_cases hlt : i < ss.length
  · by_cases hg2 : g.length ≤ 200
    · have hg2' : (g.length : Int) ≤ 200 := by omega
      obtain ⟨hcl, hL, hR, hP⟩ := oks.cl _ (List.getElem_mem hlt)
      have hds : ss.drop i = ss[i] :: ss.drop (i + 1) := List.drop_eq_getElem_cons hlt
      have hstep : gatesM cs k pos ss ([], []) = gatesM cs k pos (ss.drop (i + 1)) (gateM cs k k pos ss[i] g a) := by
        rw [hrun, hds]; simp only [gatesM]; rw [if_neg (by omega)]
      generalize hst : ss[i] = s at *
      have next : ∀ (g' : List G3) (a' : List Int), gateM cs k k pos s g a = (g', a') → g'.length ≤ 203 → a'.length = i + 1 → (∀ x ∈ a', 0 ≤ x ∧ x < g'.length) →
          (i + 1 ≤ ss.length ∧ a'.length = i + 1 ∧ g'.length ≤ 203) ∧ (∀ x ∈ a', 0 ≤ x ∧ x < g'.length) ∧ gatesM cs k pos ss ([], []) = gatesM cs k pos (ss.drop (i + 1)) (g', a') :=
        fun g' a' e h1 h2 h3 => ⟨⟨by omega, h2, h1⟩, h3, by rw [hstep, e]⟩
      have atNew : ∀ {g' : List G3} (d : Nat) (x : Int), 0 ≤ x → x < g.length + d → g'.length = g.length + d → ∀ y ∈ a ++ [x], 0 ≤ y ∧ y < g'.length := fun d x h1 h2 h3 y hy => by
        rcases List.mem_append.1 hy with hy | hy
        · have := hat y hy; omega
        · simp at hy; omega
      simp [go_sem, cnfA, stepsA, hlt, hg2', hst, stepC]
      refine (l29Left_q n cs k _ ok hk hP _ _).call ?_
      simp [go_sem]
      have hidx := correct_idx hlt hst (deriv_all hd i hlt)
      refine (l8Axiom_q s _ _).call ?_
      by_cases c1 : s.l < 0
      · simp [go_sem, c1]
        by_cases c2 : s.r < k
        · simp [go_sem, c2]
          refine l30Put_a 1 g.length (g.map gcell) 3 0 0 _ _ _ (by simp [go_sem]) (by simp) (by omega) ?_
          simp [go_sem]
          exact ⟨inR_of (by omega) (by omega), by unfold roomy; omega, inR_of (by omega) (by omega), ⟨(i + 1, g ++ [(3, 0, 0)], a ++ [(g.length : Int)]), next _ _ (by simp [gateM, c1, c2]) (by simp; omega) (by simp [ha]) (atNew 1 _ (by omega) (by omega) (by simp))⟩, by simp; omega, Leads.EH (by simp [E_cons, E_nil, cnfA, stepsA]) (by simp [Hp_cons, gcell]) (by simp only)⟩
        · simp [go_sem, c2]
          refine (l8Axiom_q s _ _).call ?_
          simp [go_sem, c1]
          refine l30Put_a 1 g.length (g.map gcell) 2 0 0 _ _ _ (by simp [go_sem]) (by simp) (by omega) ?_
          simp [go_sem]
          exact ⟨inR_of (by omega) (by omega), by unfold roomy; omega, inR_of (by omega) (by omega), ⟨(i + 1, g ++ [(2, 0, 0)], a ++ [(g.length : Int)]), next _ _ (by simp [gateM, c1, c2]) (by simp; omega) (by simp [ha]) (atNew 1 _ (by omega) (by omega) (by simp))⟩, by simp; omega, Leads.EH (by simp [E_cons, E_nil, cnfA, stepsA]) (by simp [Hp_cons, gcell]) (by simp only)⟩
      · have hL0 : 0 ≤ s.l ∧ s.l < i := by omega
        have hLa : s.l.toNat < a.length := by omega
        have eL : atI a s.l = a[s.l.toNat] := by unfold atI; rw [List.getD_eq_getElem?_getD, List.getElem?_eq_getElem hLa]; rfl
        have mL := hat _ (List.getElem_mem hLa)
        simp [go_sem, c1]
        refine (l8Axiom_q s _ _).call ?_
        simp [go_sem, c1]
        refine (l8Resolvent_q s _ _).call ?_
        have c1' : 0 ≤ s.l := hL0.1
        by_cases c3 : 0 ≤ s.r
        · have hR1 : s.r < i := by omega
          have hRa : s.r.toNat < a.length := by omega
          have eR : atI a s.r = a[s.r.toNat] := by unfold atI; rw [List.getD_eq_getElem?_getD, List.getElem?_eq_getElem hRa]; rfl
          have mR := hat _ (List.getElem_mem hRa)
          simp [go_sem, c1', c3]
          have c3n : ¬ s.r < 0 := by omega
          cases eRt : rightB cs k s.p
          · simp [go_sem, c1', c3, hRa, hLa]
            refine ⟨by omega, by omega, ?_⟩
            refine l30Put_a 1 g.length (g.map gcell) 6 _ _ _ _ _ (by simp [go_sem]) (by simp) (by omega) ?_
            simp [go_sem]
            exact ⟨inR_of (by omega) (by omega), by unfold roomy; omega, inR_of (by omega) (by omega), ⟨(i + 1, g ++ [(6, a[s.l.toNat], a[s.r.toNat])], a ++ [(g.length : Int)]), next _ _ (by simp [gateM, c1, c3n, eRt, eL, eR]) (by simp; omega) (by simp [ha]) (atNew 1 _ (by omega) (by omega) (by simp))⟩, by simp; omega, Leads.EH (by simp [E_cons, E_nil, cnfA, stepsA]) (by simp [Hp_cons, gcell]) (by simp only)⟩
          cases eLt : leftB cs k s.p
          · simp [go_sem, c1', c3, hRa, hLa]
            refine ⟨by omega, by omega, ?_⟩
            refine l30Put_a 1 g.length (g.map gcell) 5 _ _ _ _ _ (by simp [go_sem]) (by simp) (by omega) ?_
            simp [go_sem]
            exact ⟨inR_of (by omega) (by omega), by unfold roomy; omega, inR_of (by omega) (by omega), ⟨(i + 1, g ++ [(5, a[s.l.toNat], a[s.r.toNat])], a ++ [(g.length : Int)]), next _ _ (by simp [gateM, c1, c3n, eRt, eLt, eL, eR]) (by simp; omega) (by simp [ha]) (atNew 1 _ (by omega) (by omega) (by simp))⟩, by simp; omega, Leads.EH (by simp [E_cons, E_nil, cnfA, stepsA]) (by simp [Hp_cons, gcell]) (by simp only)⟩
          cases pos
          · simp [go_sem, c1', c3, hRa, hLa]
            refine l30Put_a 1 g.length (g.map gcell) 1 _ _ _ _ _ (by simp [go_sem]) (by simp) (by omega) ?_
            simp [go_sem, hRa, hLa, c1', c3]
            refine ⟨inR_of (by omega) (by omega), by omega, ?_⟩
            refine l30Put_a 1 (g.length + 1) (g.map gcell ++ [[.int 1, .int s.p, .int 0]]) 5 _ _ _ _ _ (by simp [go_sem]) (by simp) (by omega) ?_
            simp [go_sem, hRa, hLa, c1', c3]
            refine ⟨inR_of (by omega) (by omega), by omega, ?_⟩
            refine l30Put_a 1 (g.length + 1 + 1) (g.map gcell ++ [[.int 1, .int s.p, .int 0], [.int 5, .int g.length, .int a[s.r.toNat]]]) 6 _ _ _ _ _ (by simp [go_sem]) (by simp) (by omega) ?_
            simp [go_sem, hRa, hLa, c1', c3]
            exact ⟨inR_of (by omega) (by omega), by unfold roomy; omega, inR_of (by omega) (by omega), ⟨(i + 1, g ++ [(1, s.p, 0), (5, (g.length : Int), a[s.r.toNat]), (6, (g.length : Int) + 1, a[s.l.toNat])], a ++ [(g.length : Int) + 1 + 1]), next _ _ (by simp [gateM, c1, c3n, eRt, eLt, eL, eR]) (by simp; omega) (by simp [ha]) (atNew 3 _ (by omega) (by omega) (by simp))⟩, by simp; omega, Leads.EH (by simp [E_cons, E_nil, cnfA, stepsA]) (by simp [Hp_cons, gcell]) (by simp only)⟩
          · simp [go_sem, c1', c3, hRa, hLa]
            refine l30Put_a 1 g.length (g.map gcell) 1 _ _ _ _ _ (by simp [go_sem]) (by simp) (by omega) ?_
            simp [go_sem, hRa, hLa, c1', c3]
            refine ⟨inR_of (by omega) (by omega), by omega, ?_⟩
            refine l30Put_a 1 (g.length + 1) (g.map gcell ++ [[.int 1, .int s.p, .int 0]]) 6 _ _ _ _ _ (by simp [go_sem]) (by simp) (by omega) ?_
            simp [go_sem, hRa, hLa, c1', c3]
            refine ⟨inR_of (by omega) (by omega), by omega, ?_⟩
            refine l30Put_a 1 (g.length + 1 + 1) (g.map gcell ++ [[.int 1, .int s.p, .int 0], [.int 6, .int g.length, .int a[s.l.toNat]]]) 5 _ _ _ _ _ (by simp [go_sem]) (by simp) (by omega) ?_
            simp [go_sem, hRa, hLa, c1', c3]
            exact ⟨inR_of (by omega) (by omega), by unfold roomy; omega, inR_of (by omega) (by omega), ⟨(i + 1, g ++ [(1, s.p, 0), (6, (g.length : Int), a[s.l.toNat]), (5, (g.length : Int) + 1, a[s.r.toNat])], a ++ [(g.length : Int) + 1 + 1]), next _ _ (by simp [gateM, c1, c3n, eRt, eLt, eL, eR]) (by simp; omega) (by simp [ha]) (atNew 3 _ (by omega) (by omega) (by simp))⟩, by simp; omega, Leads.EH (by simp [E_cons, E_nil, cnfA, stepsA]) (by simp [Hp_cons, gcell]) (by simp only)⟩
        · have c3' : s.r < 0 := by omega
          simp [go_sem, c1', c3, ha, hL0.2, hLa]
          exact ⟨by unfold roomy; omega, inR_of (by omega) (by omega), ⟨(i + 1, g, a ++ [a[s.l.toNat]]), next _ _ (by simp [gateM, c1, c3', eL]) (by omega) (by simp [ha]) (atNew 0 _ (by omega) (by omega) rfl)⟩, by simp; omega, Leads.EH (by simp [E_cons, E_nil, cnfA, stepsA, ha]) (by simp [Hp_cons, gcell]) (by simp only)⟩
    · have hg2' : ¬ (g.length : Int) ≤ 200 := by omega
      have hend := gates_end (cs := cs) (kn := k) (pos := pos) (l := ss.drop i) (st := (g, a)) (by simp only; omega)
      rw [hrun, hend] at hres
      have hg3 : (200 : Int) < g.length := by omega
      have hg4 : g.length > 200 := by omega
      simp only [if_pos hg4] at hres
      simp [go_sem, cnfA, stepsA, hlt, hg2', hg3]
      rw [← hres]
      exact view_gates 0 (k := 3) (by simp [go_sem]) rfl
  · have hdn : ss.drop i = [] := List.drop_of_length_le (by omega)
    have hend : gatesM cs k pos ss ([], []) = (g, a) := by rw [hrun, hdn]; rfl
    rw [hend] at hres
    by_cases hg3 : g.length > 200
    · have hg3' : (200 : Int) < g.length := by omega
      simp only [if_pos hg3] at hres
      simp [go_sem, cnfA, stepsA, hlt, hg3']
      rw [← hres]
      exact view_gates 0 (k := 3) (by simp [go_sem]) rfl
    · simp only [if_neg hg3] at hres
      have hg3' : ¬ (200 : Int) < g.length := by omega
      have hia : a.length = ss.length := by omega
      have hal : a.length - 1 < a.length := by omega
      have hnz : (a.length : Int) - 1 < a.length := by omega
      have hlast : atI a ((a.length : Int) - 1) = a[a.length - 1] := by
        unfold atI
        rw [show ((a.length : Int) - 1).toNat = a.length - 1 by omega, List.getD_eq_getElem?_getD, List.getElem?_eq_getElem hal]; rfl
      have mlast := hat _ (List.getElem_mem hal)
      simp [go_sem, cnfA, stepsA, hlt, hg3']
      refine ⟨inR_of (by omega) (by omega), ⟨by omega, by omega⟩, ?_⟩
      rw [List.getElem?_eq_getElem hal]
      simp [go_sem]
      refine ⟨inR_of (by omega) (by omega), ⟨by omega, by omega⟩, ?_⟩
      rw [← hres]
      simp only [hlast]
      exact view_gates_take 0 (k := 3) (by simp [go_sem]) rfl
end Go.Proofs.YtogdmmccbeipkaaGreat.A
