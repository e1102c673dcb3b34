/- Contracts: sides and signs, the reference. -/
import Derived.Test.YtogdmmccbeipkaaGreatF4
set_option linter.all false
namespace Go.Proofs.YtogdmmccbeipkaaGreat.A
open Go Go.Abs
set_option pp.maxSteps 3000
set_option pp.deepTerms true
set_option linter.unusedSimpArgs false
set_option maxRecDepth 20000

theorem l8Axiom_q (s : Step') (h : Heap) (nx : Nat) : CallsQ Tryz.prog 70 [.agg (stepC s)] h nx (.bool (decide (s.l < 0))) := by
  refine CallsQ.of_pure 1 (by simp [go_sem, stepC]) (in70 ?_) h nx
  simp [go_sem, Tryz.f70, stepC, view, vw]

theorem l8Resolvent_q (s : Step') (h : Heap) (nx : Nat) : CallsQ Tryz.prog 72 [.agg (stepC s)] h nx (.bool (decide (0 ≤ s.l) && decide (0 ≤ s.r))) := by
  refine CallsQ.of_pure 1 (by simp [go_sem, stepC]) (in72 ?_) h nx
  simp [go_sem, Tryz.f72, stepC]
  by_cases h1 : 0 ≤ s.l <;> simp [go_sem, h1, view, vw]

theorem l29Asked_q (n : Int) (cs : List (List Int)) (k : Int) (ok : OkC n cs) (h : Heap) (nx : Nat) : CallsQ Tryz.prog 34 [cnfA n cs, .int k] h nx (.bool (goodB n cs && inB k 0 cs.length)) := by
  refine CallsQ.of_pure 1 (by simp [go_sem, cnfA]) (in34 ?_) h nx
  simp [go_sem, Tryz.f34, cnfA]
  refine (l2Good_q n cs ok _ _).call ?_
  cases h1 : goodB n cs
  · simp [go_sem, view, vw, h1]
  · simp [go_sem, intss]
    refine (l1In_q _ _ _ _ _).call ?_
    simp [go_sem, view, vw, h1]

theorem l29Left_q (n : Int) (cs : List (List Int)) (k : Nat) (v : Int) (ok : OkC n cs) (hk : k ≤ cs.length) (hv : InR v) (h : Heap) (nx : Nat) :
    CallsQ Tryz.prog 69 [cnfA n cs, .int k, .int v] h nx (.tup [.bool (leftB cs k v), .bool (rightB cs k v)]) := by
  refine CallsQ.of_pure 1 (by simp [go_sem, cnfA]) (in69 ?_) h nx
  have hl := ok.len
  have h1 : ∀ c ∈ cs.take k, Len c := fun c hc => (ok.cl c (List.mem_of_mem_take hc)).2
  have h2 : ∀ c ∈ cs.drop k, Len c := fun c hc => (ok.cl c (List.mem_of_mem_drop hc)).2
  have l1 : (cs.take k).length ≤ 140737488355328 := by rw [List.length_take]; omega
  have l2 : (cs.drop k).length ≤ 140737488355328 := by rw [List.length_drop]; omega
  simp [go_sem, Tryz.f69, cnfA, intss, hk]
  rw [intss_take, intss_drop]
  refine (l2Occurs_q _ v l1 h1 _ _).call ?_
  cases e1 : occursB (cs.take k) v
  · simp [go_sem, hv]
    refine (l2Occurs_q _ _ l1 h1 _ _).call ?_
    cases e2 : occursB (cs.take k) (wneg v)
    · have hL : leftB cs k v = false := by simp [leftB, e1, e2]
      simp [go_sem]
      refine (l2Occurs_q _ v l2 h2 _ _).call ?_
      cases e3 : occursB (cs.drop k) v
      · simp [go_sem, hv]
        refine (l2Occurs_q _ _ l2 h2 _ _).call ?_
        simp [go_sem, view, vw, vwL, hL, rightB, e3]
      · simp [go_sem, view, vw, vwL, hL, rightB, e3]
    · have hL : leftB cs k v = true := by simp [leftB, e1, e2]
      simp [go_sem]
      refine (l2Occurs_q _ v l2 h2 _ _).call ?_
      cases e3 : occursB (cs.drop k) v
      · simp [go_sem, hv]
        refine (l2Occurs_q _ _ l2 h2 _ _).call ?_
        simp [go_sem, view, vw, vwL, hL, rightB, e3]
      · simp [go_sem, view, vw, vwL, hL, rightB, e3]
  · have hL : leftB cs k v = true := by simp [leftB, e1]
    simp [go_sem]
    refine (l2Occurs_q _ v l2 h2 _ _).call ?_
    cases e3 : occursB (cs.drop k) v
    · simp [go_sem, hv]
      refine (l2Occurs_q _ _ l2 h2 _ _).call ?_
      simp [go_sem, view, vw, vwL, hL, rightB, e3]
    · simp [go_sem, view, vw, vwL, hL, rightB, e3]

theorem l29Sides_q (n : Int) (cs : List (List Int)) (k : Nat) (ok : OkC n cs) (hn : 0 ≤ n ∧ n ≤ 12) (hk : k ≤ cs.length) (h : Heap) (nx : Nat) :
    CallsQ Tryz.prog 65 [cnfA n cs, .int k] h nx (.tup [ints (sideM (leftP cs k) n.toNat), ints (sideM (rightP cs k) n.toNat), ints (bothM n cs k)]) := by
  refine CallsQ.of_pure 1 (by simp [go_sem, cnfA]) (in65 ?_) h nx
  simp [go_sem, Tryz.f65, cnfA]
  refine ⟨{p : Nat × List Int × List Int × List Int // p.1 ≤ n.toNat ∧ p.2.1 = sideM (leftP cs k) p.1 ∧ p.2.2.1 = sideM (rightP cs k) p.1 ∧ p.2.2.2 = sideM (bothP cs k) p.1},
    fun p => ⟨E [(0, cnfA n cs), (1, .int k), (2, .ptr 0 1 0 0), (4, .nils), (5, .nils), (6, .nils), (7, .sl 1 p.1.2.1.length 0 p.1.2.1.length), (8, .sl 2 p.1.2.2.1.length 0 p.1.2.2.1.length), (9, .sl 3 p.1.2.2.2.length 0 p.1.2.2.2.length), (10, .int (p.1.1 + 1))],
      Hp [(0, ⟨2, [[.int n, intss cs]]⟩), (1, ⟨1, p.1.2.1.map fun x => [.int x]⟩), (2, ⟨1, p.1.2.2.1.map fun x => [.int x]⟩), (3, ⟨1, p.1.2.2.2.map fun x => [.int x]⟩)], 4, 53⟩,
    fun p => n.toNat - p.1.1, ⟨(0, [], [], []), by simp [sideM, upTo]⟩, Leads.E (by simp [E_cons, E_nil, cnfA]) rfl rfl, ?_⟩
  rintro ⟨⟨i, a, b, c⟩, hi, ha, hb, hc⟩
  simp only at hi ha hb hc
  have la : a.length ≤ i := by rw [ha]; exact side_length _ _
  have lb : b.length ≤ i := by rw [hb]; exact side_length _ _
  have lc : c.length ≤ i := by rw [hc]; exact side_length _ _
  by_cases hlt : i < n.toNat
  · have hlt' : (i : Int) + 1 ≤ n := by omega
    have sL := side_next (leftP cs k) i
    have sR := side_next (rightP cs k) i
    have sB := side_next (bothP cs k) i
    simp [go_sem, cnfA, hlt']
    refine (l29Left_q n cs k _ ok hk (inR_of (by omega) (by omega)) _ _).call ?_
    cases e1 : leftB cs k ((i : Int) + 1) <;> cases e2 : rightB cs k ((i : Int) + 1) <;> simp [leftP, rightP, bothP, e1, e2] at sL sR sB <;> simp [go_sem]
    · exact ⟨inR_of (by omega) (by omega), ⟨(i + 1, a, b, c), by omega, by simp only [ha, sL], by simp only [hb, sR], by simp only [hc, sB]⟩, by simp; omega, Leads.E (by simp [E_cons, E_nil, cnfA]) rfl rfl⟩
    · exact ⟨by unfold roomy; omega, inR_of (by omega) (by omega), ⟨(i + 1, a, b ++ [(i : Int) + 1], c), by omega, by simp only [ha, sL], by simp only [hb, sR], by simp only [hc, sB]⟩, by simp; omega, Leads.E (by simp [E_cons, E_nil, cnfA]) (by simp) rfl⟩
    · exact ⟨by unfold roomy; omega, inR_of (by omega) (by omega), ⟨(i + 1, a ++ [(i : Int) + 1], b, c), by omega, by simp only [ha, sL], by simp only [hb, sR], by simp only [hc, sB]⟩, by simp; omega, Leads.E (by simp [E_cons, E_nil, cnfA]) (by simp) rfl⟩
    · exact ⟨by unfold roomy; omega, inR_of (by omega) (by omega), ⟨(i + 1, a, b, c ++ [(i : Int) + 1]), by omega, by simp only [ha, sL], by simp only [hb, sR], by simp only [hc, sB]⟩, by simp; omega, Leads.E (by simp [E_cons, E_nil, cnfA]) (by simp) rfl⟩
  · have hi' : i = n.toNat := by omega
    have hlt' : ¬ (i : Int) + 1 ≤ n := by omega
    simp [go_sem, cnfA, hlt']
    subst hi'
    have v1 := view_ints 0 (h := Hp [(0, ⟨2, [[.int n, intss cs]]⟩), (1, ⟨1, a.map fun x => [.int x]⟩), (2, ⟨1, b.map fun x => [.int x]⟩), (3, ⟨1, c.map fun x => [.int x]⟩)]) (n := 1) (k := 1) (L := a.length) (xs := a) (by simp [go_sem]) rfl
    have v2 := view_ints 0 (h := Hp [(0, ⟨2, [[.int n, intss cs]]⟩), (1, ⟨1, a.map fun x => [.int x]⟩), (2, ⟨1, b.map fun x => [.int x]⟩), (3, ⟨1, c.map fun x => [.int x]⟩)]) (n := 2) (k := 1) (L := b.length) (xs := b) (by simp [go_sem]) rfl
    have v3 := view_ints 0 (h := Hp [(0, ⟨2, [[.int n, intss cs]]⟩), (1, ⟨1, a.map fun x => [.int x]⟩), (2, ⟨1, b.map fun x => [.int x]⟩), (3, ⟨1, c.map fun x => [.int x]⟩)]) (n := 3) (k := 1) (L := c.length) (xs := c) (by simp [go_sem]) rfl
    show AV.tup [view 1 _ _, view 1 _ _, view 1 _ _] = _
    rw [v1, v2, v3, ha, hb, hc]
    rfl

theorem l30Sign_q (cs : List (List Int)) (both : List Int) (pos : Bool) (hl : cs.length ≤ 140737488355328) (hc : ∀ c ∈ cs, InRs c ∧ Len c) (hb : Len both) (h : Heap) (nx : Nat) :
    CallsQ Tryz.prog 66 [intss cs, ints both, .bool pos] h nx (.bool (signB cs both pos)) := by
  refine CallsQ.of_pure 1 (by simp [go_sem]) (in66 ?_) h nx
  simp [go_sem, Tryz.f66]
  refine ⟨{i : Nat // i ≤ cs.length ∧ (cs.take i).any (signC both pos) = false}, fun i => ⟨E [(0, intss cs), (1, ints both), (2, .bool pos), (6, .bool false), (7, .int i.1)], Hp [], 0, 42⟩, fun i => cs.length - i.1, ⟨0, by simp⟩, Leads.E (by simp [E_cons, E_nil]) rfl rfl, ?_⟩
  rintro ⟨i, hi, hok⟩
  by_cases hlt : i < cs.length
  · simp [go_sem, intss, hlt]
    have hm := hc _ (List.getElem_mem hlt)
    refine ⟨{m : Nat // m ≤ cs[i].length ∧ (cs[i].take m).any (signP both pos) = false}, fun m => ⟨E [(0, intss cs), (1, ints both), (2, .bool pos), (6, .bool false), (7, .int i), (8, .int m.1)], Hp [], 0, 42⟩, fun m => cs[i].length - m.1, ⟨0, by simp⟩, Leads.E (by simp [E_cons, E_nil, intss]) rfl rfl, ?_⟩
    rintro ⟨m, hmi, hmok⟩
    by_cases hmlt : m < cs[i].length
    · have hx := hm.1 _ (List.getElem_mem hmlt)
      simp [go_sem, intss, hlt, ints, hmlt]
      have next : signP both pos cs[i][m] = false → (cs[i].take (m + 1)).any (signP both pos) = false := any_next hmok hmlt
      cases hp : (decide (0 < cs[i][m]) == pos)
      · have hf : signP both pos cs[i][m] = false := by simp [signP, hp]
        simp [go_sem]
        exact ⟨inR_of (by omega) (by have := hm.2; unfold Len at this; omega), ⟨m + 1, by omega, next hf⟩, by simp; omega, Leads.E (by simp [E_cons, E_nil, intss, ints]) rfl rfl⟩
      · simp [go_sem]
        refine (l2Var_q _ hx _ _).call ?_
        simp [go_sem]
        refine (l1Has_q both _ hb _ _).call ?_
        cases hh : hasB both (absI cs[i][m])
        · have hf : signP both pos cs[i][m] = false := by simp [signP, hh]
          simp [go_sem]
          exact ⟨inR_of (by omega) (by have := hm.2; unfold Len at this; omega), ⟨m + 1, by omega, next hf⟩, by simp; omega, Leads.E (by simp [E_cons, E_nil, intss, ints]) rfl rfl⟩
        · have hr : signB cs both pos = true := any_found hlt (any_found (c := cs[i]) hmlt (by simp [signP, hp, hh]))
          simp [go_sem, view, vw, hr]
    · have hr : signC both pos cs[i] = false := any_done hmok hmlt
      simp [go_sem, intss, hlt, ints, hmlt]
      exact ⟨inR_of (by omega) (by omega), ⟨i + 1, by omega, any_next hok hlt hr⟩, by simp; omega, Leads.E (by simp [E_cons, E_nil, intss, ints]) rfl rfl⟩
  · have hr : signB cs both pos = false := any_done hok hlt
    simp [go_sem, intss, hlt, view, vw, hr]

theorem l30Right_q (n : Int) (cs : List (List Int)) (k : Nat) (ok : OkC n cs) (hn : 0 ≤ n ∧ n ≤ 12) (hk : k ≤ cs.length) (h : Heap) (nx : Nat) :
    CallsQ Tryz.prog 35 [cnfA n cs, .int k] h nx (.bool (!signB (cs.drop k) (bothM n cs k) true)) := by
  refine CallsQ.of_pure 1 (by simp [go_sem, cnfA]) (in35 ?_) h nx
  have hl := ok.len
  have h2 : ∀ c ∈ cs.drop k, InRs c ∧ Len c := fun c hc => ok.cl c (List.mem_of_mem_drop hc)
  have l2 : (cs.drop k).length ≤ 140737488355328 := by rw [List.length_drop]; omega
  have hb : Len (bothM n cs k) := by have := side_length (bothP cs k) n.toNat; unfold Len bothM; omega
  simp [go_sem, Tryz.f35, cnfA]
  refine (l29Sides_q n cs k ok hn hk _ _).call ?_
  simp [go_sem, intss, hk]
  rw [intss_drop]
  refine (l30Sign_q (cs.drop k) _ true l2 h2 hb _ _).call ?_
  simp [go_sem, view, vw]

theorem l30Put_a (n t : Nat) (es : List Cells) (kd a b : Int) (h : Heap) (nx : Nat) (K : AV → Heap → Nat → Prop) (hn : h n = some ⟨3, es⟩) (ht : es.length = t) (hr : t < 1000000)
    (hk : K (.sl n (t + 1) 0 (t + 1)) (upd h n (some ⟨3, es ++ [[.int kd, .int a, .int b]]⟩)) nx) : CallsA Tryz.prog 71 [.sl n t 0 t, .int kd, .int a, .int b] h nx K := by
  refine in71 ?_
  simp [go_sem, Tryz.f71, hn, ht, AS.hput]
  exact ⟨by unfold roomy; omega, hk⟩
end Go.Proofs.YtogdmmccbeipkaaGreat.A
