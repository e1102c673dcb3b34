/- Contracts: the library's searches with a function. -/
import Derived.Test.YtogdmmccbeipkaaGreatF7
set_option linter.all false
namespace Go.Proofs.YtogdmmccbeipkaaGreat.A
open Go Go.Abs
set_option pp.maxSteps 3000
set_option pp.deepTerms true
set_option linter.unusedSimpArgs false
set_option maxRecDepth 20000

theorem IndexFunc_q (c : List Int) (g : FuncId) (cap : List AV) (p : Int → Bool) (hcap : AV.pureL cap = true) (hl : Len c) (hp : ∀ x ∈ c, CallsQ Tryz.prog g (.int x :: cap) (Hp []) 0 (.bool (p x))) (h : Heap) (nx : Nat) :
    CallsQ Tryz.prog 133 [ints c, .fn (.func g) [] cap] h nx (.int (indexP c p)) := by
  refine CallsQ.of_pure 1 (by simp [go_sem, hcap]) (in133 ?_) h nx
  simp [go_sem, Tryz.f133, ints]
  refine ⟨{i : Nat // i ≤ c.length ∧ (c.take i).any p = false}, fun i => ⟨E [(0, ints c), (1, .fn (.func g) [] cap), (4, .int 0), (7, .int c.length), (8, .int i.1)], Hp [], 0, 19⟩, fun i => c.length - i.1, ⟨0, by simp⟩, Leads.E (by simp [E_cons, E_nil, ints]) rfl rfl, ?_⟩
  rintro ⟨i, hi, hok⟩
  unfold Len at hl
  by_cases hlt : i < c.length
  · simp [go_sem, ints, hlt]
    refine (hp _ (List.getElem_mem hlt)).call ?_
    cases h1 : p c[i]
    · simp [go_sem]
      exact ⟨inR_of (by omega) (by omega), ⟨i + 1, by omega, any_next hok hlt h1⟩, by simp; omega, Leads.E (by simp [E_cons, E_nil, ints]) rfl rfl⟩
    · have hr : indexP c p = i := indexP_found hok hlt h1
      simp [go_sem, view, vw, hr]
  · have hr : indexP c p = -1 := indexP_none (any_done hok hlt)
    simp [go_sem, ints, hlt, view, vw, hr]

theorem ContainsFunc_q (c : List Int) (g : FuncId) (cap : List AV) (p : Int → Bool) (hcap : AV.pureL cap = true) (hl : Len c) (hp : ∀ x ∈ c, CallsQ Tryz.prog g (.int x :: cap) (Hp []) 0 (.bool (p x))) (h : Heap) (nx : Nat) :
    CallsQ Tryz.prog 183 [ints c, .fn (.func g) [] cap] h nx (.bool (c.any p)) := by
  refine CallsQ.of_pure 1 (by simp [go_sem, hcap]) (in183 ?_) h nx
  simp [go_sem, Tryz.f183]
  refine (IndexFunc_q c g cap p hcap hl hp _ _).call ?_
  simp [go_sem, view, vw, any_indexP]
end Go.Proofs.YtogdmmccbeipkaaGreat.A
