/- Contracts: parts and occurrences, the program. -/
import Derived.Test.YtogdmmccbeipkaaGreatF8
set_option linter.all false
namespace Go.Proofs.YtogdmmccbeipkaaGreat.A
open Go Go.Abs
set_option pp.maxSteps 3000
set_option pp.deepTerms true
set_option linter.unusedSimpArgs false
set_option maxRecDepth 20000

theorem part1_q (b : List Int) (x : Int) (hb : Len b) (h : Heap) (nx : Nat) : CallsQ Tryz.prog 184 [.int x, .iptr [ints b]] h nx (.bool (!hasB b x)) := by
  refine CallsQ.of_pure 1 (by simp [go_sem]) (in184 ?_) h nx
  simp [go_sem, Tryz.f184]
  refine (Contains_q b x hb _ _).call ?_
  simp [go_sem, view, vw]

theorem part_q (a b : List Int) (ha : Len a) (hb : Len b) (h : Heap) (nx : Nat) : CallsQ Tryz.prog 170 [ints a, ints b] h nx (.bool (subB a b)) := by
  refine CallsQ.of_pure 1 (by simp [go_sem]) (in170 ?_) h nx
  simp [go_sem, Tryz.f170]
  have hc := ContainsFunc_q a 184 [.iptr [ints b]] (fun x => !hasB b x) (by simp [go_sem]) ha (fun x _ => part1_q b x hb _ _) (Hp []) 0
  refine (CallsQ.of_view 0 rfl (r := .bool (a.any fun x => !hasB b x)) ?_).call ?_
  · simp [go_sem, view, vw, vwL]
    exact hc.call rfl
  · have e : (!a.any fun x => !hasB b x) = subB a b := by
      unfold subB; rw [← List.all_eq_not_any_not]
    simp [go_sem, view, vw, e]

theorem IndexFuncC_q (cs : List (List Int)) (g : FuncId) (cap : List AV) (p : List Int → Bool) (hcap : AV.pureL cap = true) (hl : cs.length ≤ 1099511627776) (hp : ∀ c ∈ cs, CallsQ Tryz.prog g (ints c :: cap) (Hp []) 0 (.bool (p c))) (h : Heap) (nx : Nat) :
    CallsQ Tryz.prog 150 [intss cs, .fn (.func g) [] cap] h nx (.int (indexP cs p)) := by
  refine CallsQ.of_pure 1 (by simp [go_sem, hcap]) (in150 ?_) h nx
  simp [go_sem, Tryz.f150, intss]
  refine ⟨{i : Nat // i ≤ cs.length ∧ (cs.take i).any p = false}, fun i => ⟨E [(0, intss cs), (1, .fn (.func g) [] cap), (4, .int 0), (7, .int cs.length), (8, .int i.1)], Hp [], 0, 19⟩, fun i => cs.length - i.1, ⟨0, by simp⟩, Leads.E (by simp [E_cons, E_nil, intss]) rfl rfl, ?_⟩
  rintro ⟨i, hi, hok⟩
  by_cases hlt : i < cs.length
  · simp [go_sem, intss, hlt]
    refine (hp _ (List.getElem_mem hlt)).call ?_
    cases h1 : p cs[i]
    · simp [go_sem]
      exact ⟨inR_of (by omega) (by omega), ⟨i + 1, by omega, any_next hok hlt h1⟩, by simp; omega, Leads.E (by simp [E_cons, E_nil, intss]) rfl rfl⟩
    · have hr : indexP cs p = i := indexP_found hok hlt h1
      simp [go_sem, view, vw, hr]
  · have hr : indexP cs p = -1 := indexP_none (any_done hok hlt)
    simp [go_sem, intss, hlt, view, vw, hr]

theorem ContainsFuncC_q (cs : List (List Int)) (g : FuncId) (cap : List AV) (p : List Int → Bool) (hcap : AV.pureL cap = true) (hl : cs.length ≤ 1099511627776) (hp : ∀ c ∈ cs, CallsQ Tryz.prog g (ints c :: cap) (Hp []) 0 (.bool (p c))) (h : Heap) (nx : Nat) :
    CallsQ Tryz.prog 134 [intss cs, .fn (.func g) [] cap] h nx (.bool (cs.any p)) := by
  refine CallsQ.of_pure 1 (by simp [go_sem, hcap]) (in134 ?_) h nx
  simp [go_sem, Tryz.f134]
  refine (IndexFuncC_q cs g cap p hcap hl hp _ _).call ?_
  simp [go_sem, view, vw, any_indexP]

theorem occurs1_q (c : List Int) (l : Int) (hc : Len c) (h : Heap) (nx : Nat) : CallsQ Tryz.prog 135 [ints c, .iptr [.int l]] h nx (.bool (hasB c l)) := by
  refine CallsQ.of_pure 1 (by simp [go_sem]) (in135 ?_) h nx
  simp [go_sem, Tryz.f135]
  refine (Contains_q c l hc _ _).call ?_
  simp [go_sem, view, vw]

theorem occurs_q (cs : List (List Int)) (l : Int) (hl : cs.length ≤ 1099511627776) (hc : ∀ c ∈ cs, Len c) (h : Heap) (nx : Nat) : CallsQ Tryz.prog 108 [intss cs, .int l] h nx (.bool (occursB cs l)) := by
  refine CallsQ.of_pure 1 (by simp [go_sem]) (in108 ?_) h nx
  simp [go_sem, Tryz.f108]
  have hq := ContainsFuncC_q cs 135 [.iptr [.int l]] (fun c => hasB c l) (by simp [go_sem]) hl (fun c hm => occurs1_q c l (hc c hm) _ _) (Hp []) 0
  refine (CallsQ.of_view 0 rfl (r := .bool (cs.any fun c => hasB c l)) ?_).call ?_
  · simp [go_sem, view, vw, vwL]
    exact hq.call rfl
  · simp [go_sem, view, vw, occursB]
end Go.Proofs.YtogdmmccbeipkaaGreat.A
