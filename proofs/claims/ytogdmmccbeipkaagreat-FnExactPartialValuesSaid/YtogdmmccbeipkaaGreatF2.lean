/- Contracts: literals and clauses, program and reference. -/
import Derived.Test.YtogdmmccbeipkaaGreatM
import Derived.Test.YtogdmmccbeipkaaGreatSeatT
set_option linter.all false
namespace Go.Proofs.YtogdmmccbeipkaaGreat.A
open Go Go.Abs
set_option pp.maxSteps 3000
set_option pp.deepTerms true

theorem within_q (a b c : Int) (h : Heap) (nx : Nat) : CallsQ Tryz.prog 89 [.int a, .int b, .int c] h nx (.bool (inB a b c)) := by
  refine CallsQ.of_pure 1 rfl (in89 ?_) h nx
  by_cases h1 : b ≤ a <;> simp [go_sem, Tryz.f89, h1, view, vw, inB]

theorem l1In_q (a b c : Int) (h : Heap) (nx : Nat) : CallsQ Tryz.prog 64 [.int a, .int b, .int c] h nx (.bool (inB a b c)) := by
  refine CallsQ.of_pure 1 rfl (in64 ?_) h nx
  by_cases h1 : b ≤ a <;> simp [go_sem, Tryz.f64, h1, view, vw, inB]

theorem varsOk_q (a : Int) (h : Heap) (nx : Nat) : CallsQ Tryz.prog 130 [.int a] h nx (.bool (varsB a)) := by
  refine CallsQ.of_pure 1 rfl (in130 ?_) h nx
  simp [go_sem, Tryz.f130]
  refine (within_q _ _ _ _ _).call ?_
  simp [go_sem, view, vw, varsB, inB]

theorem l2Vars_q (a : Int) (h : Heap) (nx : Nat) : CallsQ Tryz.prog 97 [.int a] h nx (.bool (varsB a)) := by
  refine CallsQ.of_pure 1 rfl (in97 ?_) h nx
  simp [go_sem, Tryz.f97]
  refine (l1In_q _ _ _ _ _).call ?_
  simp [go_sem, view, vw, varsB, inB]

theorem abs_q (a : Int) (ha : InR a) (h : Heap) (nx : Nat) : CallsQ Tryz.prog 95 [.int a] h nx (.int (absI a)) := by
  refine CallsQ.of_pure 1 rfl (in95 ?_) h nx
  simp [go_sem, Tryz.f95, ha, view, vw]
  obtain ⟨h1, h2⟩ := ha
  simp only [absI, wneg]
  (repeat' split) <;> omega

theorem l2Var_q (a : Int) (ha : InR a) (h : Heap) (nx : Nat) : CallsQ Tryz.prog 100 [.int a] h nx (.int (absI a)) := by
  refine CallsQ.of_pure 1 rfl (in100 ?_) h nx
  by_cases h1 : a < 0 <;> simp [go_sem, Tryz.f100, ha, view, vw, h1, absI]

theorem isLiteral_q (n l : Int) (hn : InR n) (h : Heap) (nx : Nat) : CallsQ Tryz.prog 147 [.int n, .int l] h nx (.bool (litB n l)) := by
  refine CallsQ.of_pure 1 rfl (in147 ?_) h nx
  by_cases h1 : l = 0 <;> simp [go_sem, Tryz.f147, h1, view, vw, litB, hn]
  refine (within_q _ _ _ _ _).call ?_
  simp [go_sem, vw]

theorem l2Lit_q (n l : Int) (hn : InR n) (h : Heap) (nx : Nat) : CallsQ Tryz.prog 126 [.int n, .int l] h nx (.bool (litB n l)) := by
  refine CallsQ.of_pure 1 rfl (in126 ?_) h nx
  simp [go_sem, Tryz.f126, view, hn]
  refine (l1In_q _ _ _ _ _).call ?_
  cases h1 : inB l (wneg n) n <;> simp [go_sem, vw, litB, h1]

theorem isVar_q (n l : Int) (h : Heap) (nx : Nat) : CallsQ Tryz.prog 171 [.int n, .int l] h nx (.bool (inB l 1 n)) := by
  refine CallsQ.of_pure 1 rfl (in171 ?_) h nx
  simp [go_sem, Tryz.f171, view]
  refine (within_q _ _ _ _ _).call ?_
  simp [go_sem, vw]

theorem IsClause_q (n : Int) (c : List Int) (hn : InR n) (hc : ∀ x ∈ c, InR x) (hl : c.length ≤ 140737488355328) (h : Heap) (nx : Nat) : CallsQ Tryz.prog 129 [.int n, ints c] h nx (.bool (clauseB n c)) := by
  refine CallsQ.of_pure 1 (by simp [go_sem]) (in129 ?_) h nx
  simp [go_sem, Tryz.f129, ints]
  refine ⟨{i : Nat // i ≤ c.length ∧ ∀ j, j < i → clOkAt n c j = true}, fun i => ⟨E [(0, .int n), (1, ints c), (4, .bool false), (7, ints c), (8, .int c.length), (9, .int i.1)], Hp [], 0, 36⟩, fun i => c.length - i.1, ⟨0, by simp⟩, Leads.E (by simp [E_cons, E_nil, ints]) rfl rfl, ?_⟩
  rintro ⟨i, hi, hok⟩
  by_cases hlt : i < c.length
  · have hm : c[i] ∈ c := List.getElem_mem hlt
    have next : clOkAt n c i = true → ∀ j, j < i + 1 → clOkAt n c j = true := fun h1 j hj => by
      rcases Nat.lt_succ_iff_lt_or_eq.1 hj with h2 | h2
      · exact hok j h2
      · rw [h2]; exact h1
    simp [go_sem, ints, hlt]
    refine ⟨_, isLiteral_q _ _ hn _ _, ?_⟩
    cases h1 : litB n c[i]
    · have hbad := clausesB_bad (n := n) hlt (by simp [clOkAt, hlt, h1])
      simp [go_sem, view, vw, clauseB, hbad]
    · by_cases h2 : i = 0
      · subst h2
        simp [go_sem]
        exact ⟨inR_of (by omega) (by omega), ⟨1, by omega, next (by simp [clOkAt, hlt, h1])⟩, by simp; omega, Leads.E (by simp [E_cons, E_nil, ints]) rfl rfl⟩
      · have hlt' : i - 1 < c.length := by omega
        have hm' : c[i - 1] ∈ c := List.getElem_mem hlt'
        simp [go_sem, Nat.pos_of_ne_zero h2]
        refine ⟨_, abs_q _ (hc _ hm) _ _, inR_of (by omega) (by omega), by omega, ?_⟩
        simp [go_sem, hlt']
        refine ⟨_, abs_q _ (hc _ hm') _ _, ?_⟩
        by_cases h3 : absI c[i] ≤ absI c[i - 1]
        · have hbad := clausesB_bad (n := n) hlt (by simp [clOkAt, hlt, hlt', h1, h2, h3])
          simp [go_sem, h3, view, vw, clauseB, hbad]
        · simp [go_sem, h3]
          refine ⟨inR_of (by omega) (by omega), ⟨i + 1, by omega, next (by simp [clOkAt, hlt, hlt', h1, h2]; omega)⟩, by simp; omega, Leads.E (by simp [E_cons, E_nil, ints]) rfl rfl⟩
  · simp [go_sem, ints, hlt]
    refine (varsOk_q _ _ _).call ?_
    simp [go_sem, view, vw, clauseB, clausesB_good (fun j hj => hok j (by omega))]
end Go.Proofs.YtogdmmccbeipkaaGreat.A
namespace Go.Proofs.YtogdmmccbeipkaaGreat.A
open Go Go.Abs
set_option pp.maxSteps 3000
set_option pp.deepTerms true
set_option linter.unusedSimpArgs false

theorem l1Has_q (c : List Int) (v : Int) (hl : Len c) (h : Heap) (nx : Nat) : CallsQ Tryz.prog 99 [ints c, .int v] h nx (.bool (hasB c v)) := by
  refine CallsQ.of_pure 1 (by simp [go_sem]) (in99 ?_) h nx
  simp [go_sem, Tryz.f99, ints]
  refine ⟨{i : Nat // i ≤ c.length ∧ (c.take i).any (fun x => decide (x = v)) = false}, fun i => ⟨E [(0, ints c), (1, .int v), (4, .bool false), (5, .int i.1)], Hp [], 0, 18⟩, fun i => c.length - i.1, ⟨0, by simp⟩, Leads.E (by simp [E_cons, E_nil, ints]) rfl rfl, ?_⟩
  rintro ⟨i, hi, hok⟩
  unfold Len at hl
  by_cases hlt : i < c.length
  · simp [go_sem, ints, hlt]
    by_cases h1 : c[i] = v
    · have hr : hasB c v = true := any_found hlt (by simp [h1])
      simp [go_sem, h1, view, vw, hr]
    · simp [go_sem, h1]
      exact ⟨inR_of (by omega) (by omega), ⟨i + 1, by omega, any_next hok hlt (by simp [h1])⟩, by simp; omega, Leads.E (by simp [E_cons, E_nil, ints]) rfl rfl⟩
  · have hr : hasB c v = false := any_done hok hlt
    simp [go_sem, ints, hlt, view, vw, hr]

theorem l2Has_q (c : List Int) (v : Int) (hl : Len c) (h : Heap) (nx : Nat) : CallsQ Tryz.prog 128 [ints c, .int v] h nx (.bool (hasB c v)) := by
  refine CallsQ.of_pure 1 (by simp [go_sem]) (in128 ?_) h nx
  simp [go_sem, Tryz.f128]
  refine (l1Has_q _ _ hl _ _).call ?_
  simp [go_sem, view, vw]

theorem l2Sub_q (a b : List Int) (ha : Len a) (hb : Len b) (h : Heap) (nx : Nat) : CallsQ Tryz.prog 146 [ints a, ints b] h nx (.bool (subB a b)) := by
  refine CallsQ.of_pure 1 (by simp [go_sem]) (in146 ?_) h nx
  simp [go_sem, Tryz.f146, ints]
  refine ⟨{i : Nat // i ≤ a.length ∧ (a.take i).all (fun x => hasB b x) = true}, fun i => ⟨E [(0, ints a), (1, ints b), (4, .bool false), (5, .int i.1)], Hp [], 0, 19⟩, fun i => a.length - i.1, ⟨0, by simp⟩, Leads.E (by simp [E_cons, E_nil, ints]) rfl rfl, ?_⟩
  rintro ⟨i, hi, hok⟩
  unfold Len at ha
  by_cases hlt : i < a.length
  · simp [go_sem, ints, hlt]
    refine (l2Has_q b _ hb _ _).call ?_
    cases h1 : hasB b a[i]
    · have hr : subB a b = false := all_bad hlt h1
      simp [go_sem, view, vw, hr]
    · simp [go_sem]
      exact ⟨inR_of (by omega) (by omega), ⟨i + 1, by omega, all_next hok hlt h1⟩, by simp; omega, Leads.E (by simp [E_cons, E_nil, ints]) rfl rfl⟩
  · have hr : subB a b = true := all_done hok hlt
    simp [go_sem, ints, hlt, view, vw, hr]

theorem l2Occurs_q (cs : List (List Int)) (v : Int) (hl : cs.length ≤ 140737488355328) (hc : ∀ c ∈ cs, Len c) (h : Heap) (nx : Nat) : CallsQ Tryz.prog 103 [intss cs, .int v] h nx (.bool (occursB cs v)) := by
  refine CallsQ.of_pure 1 (by simp [go_sem]) (in103 ?_) h nx
  simp [go_sem, Tryz.f103, intss]
  refine ⟨{i : Nat // i ≤ cs.length ∧ (cs.take i).any (fun c => hasB c v) = false}, fun i => ⟨E [(0, intss cs), (1, .int v), (4, .bool false), (5, .int i.1)], Hp [], 0, 18⟩, fun i => cs.length - i.1, ⟨0, by simp⟩, Leads.E (by simp [E_cons, E_nil, intss]) rfl rfl, ?_⟩
  rintro ⟨i, hi, hok⟩
  by_cases hlt : i < cs.length
  · simp [go_sem, intss, hlt]
    refine (l2Has_q _ _ (hc _ (List.getElem_mem hlt)) _ _).call ?_
    cases h1 : hasB cs[i] v
    · simp [go_sem]
      exact ⟨inR_of (by omega) (by omega), ⟨i + 1, by omega, any_next hok hlt h1⟩, by simp; omega, Leads.E (by simp [E_cons, E_nil, intss]) rfl rfl⟩
    · have hr : occursB cs v = true := any_found hlt h1
      simp [go_sem, view, vw, hr]
  · have hr : occursB cs v = false := any_done hok hlt
    simp [go_sem, intss, hlt, view, vw, hr]

theorem l1Same_q (a b : List Int) (ha : Len a) (h : Heap) (nx : Nat) : CallsQ Tryz.prog 144 [ints a, ints b] h nx (.bool (sameB a b)) := by
  refine CallsQ.of_pure 1 (by simp [go_sem]) (in144 ?_) h nx
  simp [go_sem, Tryz.f144, ints]
  unfold Len at ha
  by_cases hab : a.length = b.length
  · simp [go_sem, hab]
    refine ⟨{i : Nat // i ≤ a.length ∧ a.take i = b.take i}, fun i => ⟨E [(0, ints a), (1, ints b), (4, .bool false), (5, .int i.1)], Hp [], 0, 26⟩, fun i => a.length - i.1, ⟨0, by simp⟩, Leads.E (by simp [E_cons, E_nil, ints]) rfl rfl, ?_⟩
    rintro ⟨i, hi, hok⟩
    by_cases hlt : i < a.length
    · have hlt2 : i < b.length := by omega
      simp [go_sem, ints, hlt, hlt2]
      by_cases h1 : a[i] = b[i]
      · simp [go_sem, h1]
        exact ⟨inR_of (by omega) (by omega), ⟨i + 1, by omega, by rw [List.take_succ_eq_append_getElem hlt, List.take_succ_eq_append_getElem hlt2, hok, h1]⟩, by simp; omega, Leads.E (by simp [E_cons, E_nil, ints]) rfl rfl⟩
      · have hr : sameB a b = false := by simp only [sameB, decide_eq_false_iff_not]; intro e; subst e; exact h1 rfl
        simp [go_sem, h1, view, vw, hr]
    · have hr : sameB a b = true := by
        rw [List.take_of_length_le (by omega), List.take_of_length_le (by omega)] at hok
        simp [sameB, hok]
      simp [go_sem, ints, hlt, view, vw, hr]
  · have hr : sameB a b = false := by simp only [sameB, decide_eq_false_iff_not]; intro e; subst e; exact hab rfl
    have hab' : ¬ ((a.length : Int) = b.length) := by omega
    simp [go_sem, hab', view, vw, hr]

theorem Equal_q (a b : List Int) (ha : Len a) (h : Heap) (nx : Nat) : CallsQ Tryz.prog 168 [ints a, ints b] h nx (.bool (sameB a b)) := by
  refine CallsQ.of_pure 1 (by simp [go_sem]) (in168 ?_) h nx
  simp [go_sem, Tryz.f168, ints]
  unfold Len at ha
  by_cases hab : a.length = b.length
  · simp [go_sem, hab]
    refine ⟨{i : Nat // i ≤ a.length ∧ a.take i = b.take i}, fun i => ⟨E [(0, ints a), (1, ints b), (4, .bool false), (12, .int b.length), (13, .int i.1)], Hp [], 0, 26⟩, fun i => a.length - i.1, ⟨0, by simp⟩, Leads.E (by simp [E_cons, E_nil, ints]) rfl rfl, ?_⟩
    rintro ⟨i, hi, hok⟩
    by_cases hlt : i < a.length
    · have hlt2 : i < b.length := by omega
      simp [go_sem, ints, hlt, hlt2]
      by_cases h1 : a[i] = b[i]
      · simp [go_sem, h1]
        exact ⟨inR_of (by omega) (by omega), ⟨i + 1, by omega, by rw [List.take_succ_eq_append_getElem hlt, List.take_succ_eq_append_getElem hlt2, hok, h1]⟩, by simp; omega, Leads.E (by simp [E_cons, E_nil, ints]) rfl rfl⟩
      · have hr : sameB a b = false := by simp only [sameB, decide_eq_false_iff_not]; intro e; subst e; exact h1 rfl
        simp [go_sem, h1, view, vw, hr]
    · have hr : sameB a b = true := by
        rw [List.take_of_length_le (by omega), List.take_of_length_le (by omega)] at hok
        simp [sameB, hok]
      have hlt2 : ¬ i < b.length := by omega
      simp [go_sem, ints, hlt2, view, vw, hr]
  · have hr : sameB a b = false := by simp only [sameB, decide_eq_false_iff_not]; intro e; subst e; exact hab rfl
    have hab' : ¬ ((a.length : Int) = b.length) := by omega
    simp [go_sem, hab', view, vw, hr]

theorem Index_q (c : List Int) (v : Int) (hl : Len c) (h : Heap) (nx : Nat) : CallsQ Tryz.prog 125 [ints c, .int v] h nx (.int (indexI c v)) := by
  refine CallsQ.of_pure 1 (by simp [go_sem]) (in125 ?_) h nx
  simp [go_sem, Tryz.f125, ints]
  refine ⟨{i : Nat // i ≤ c.length ∧ (c.take i).any (fun x => decide (x = v)) = false}, fun i => ⟨E [(0, ints c), (1, .int v), (4, .int 0), (7, .int c.length), (8, .int i.1)], Hp [], 0, 19⟩, fun i => c.length - i.1, ⟨0, by simp⟩, Leads.E (by simp [E_cons, E_nil, ints]) rfl rfl, ?_⟩
  rintro ⟨i, hi, hok⟩
  unfold Len at hl
  by_cases hlt : i < c.length
  · simp [go_sem, ints, hlt]
    by_cases h1 : v = c[i]
    · have hr : indexI c c[i] = i := indexI_found (by rw [← h1]; exact hok) hlt rfl
      simp [go_sem, h1, view, vw, hr]
    · simp [go_sem, h1]
      exact ⟨inR_of (by omega) (by omega), ⟨i + 1, by omega, any_next hok hlt (by simp [Ne.symm h1])⟩, by simp; omega, Leads.E (by simp [E_cons, E_nil, ints]) rfl rfl⟩
  · have hr : indexI c v = -1 := indexI_none (any_done hok hlt)
    simp [go_sem, ints, hlt, view, vw, hr]

theorem Contains_q (c : List Int) (v : Int) (hl : Len c) (h : Heap) (nx : Nat) : CallsQ Tryz.prog 94 [ints c, .int v] h nx (.bool (hasB c v)) := by
  refine CallsQ.of_pure 1 (by simp [go_sem]) (in94 ?_) h nx
  simp [go_sem, Tryz.f94]
  refine (Index_q _ _ hl _ _).call ?_
  simp [go_sem, view, vw, hasB_index]

theorem l2Clause_q (n : Int) (c : List Int) (hn : InR n) (hc : InRs c) (hl : Len c) (h : Heap) (nx : Nat) : CallsQ Tryz.prog 98 [.int n, ints c] h nx (.bool (clauseB n c)) := by
  refine CallsQ.of_pure 1 (by simp [go_sem]) (in98 ?_) h nx
  simp [go_sem, Tryz.f98, ints]
  refine (l2Vars_q _ _ _).call ?_
  cases hv : varsB n
  · simp [go_sem, view, vw, clauseB, hv]
  simp [go_sem]
  refine ⟨{i : Nat // i ≤ c.length ∧ ∀ j, j < i → clOkAt n c j = true}, fun i => ⟨E [(0, .int n), (1, ints c), (4, .bool false), (5, .int i.1)], Hp [], 0, 40⟩, fun i => c.length - i.1, ⟨0, by simp⟩, Leads.E (by simp [E_cons, E_nil, ints]) rfl rfl, ?_⟩
  rintro ⟨i, hi, hok⟩
  unfold Len at hl
  by_cases hlt : i < c.length
  · have hm : c[i] ∈ c := List.getElem_mem hlt
    have next : clOkAt n c i = true → ∀ j, j < i + 1 → clOkAt n c j = true := fun h1 j hj => by
      rcases Nat.lt_succ_iff_lt_or_eq.1 hj with h2 | h2
      · exact hok j h2
      · rw [h2]; exact h1
    simp [go_sem, ints, hlt]
    refine ⟨_, l2Lit_q _ _ hn _ _, ?_⟩
    cases h1 : litB n c[i]
    · have hbad := clausesB_bad (n := n) hlt (by simp [clOkAt, hlt, h1])
      simp [go_sem, view, vw, clauseB, hbad]
    · by_cases h2 : i = 0
      · subst h2
        simp [go_sem]
        exact ⟨inR_of (by omega) (by omega), ⟨1, by omega, next (by simp [clOkAt, hlt, h1])⟩, by simp; omega, Leads.E (by simp [E_cons, E_nil, ints]) rfl rfl⟩
      · have hlt' : i - 1 < c.length := by omega
        have hm' : c[i - 1] ∈ c := List.getElem_mem hlt'
        simp [go_sem, Nat.pos_of_ne_zero h2, hlt']
        refine ⟨inR_of (by omega) (by omega), by omega, _, l2Var_q _ (hc _ hm') _ _, ?_⟩
        simp [go_sem, hlt]
        refine ⟨_, l2Var_q _ (hc _ hm) _ _, ?_⟩
        by_cases h3 : absI c[i] ≤ absI c[i - 1]
        · have hbad := clausesB_bad (n := n) hlt (by simp [clOkAt, hlt, hlt', h1, h2, h3])
          simp [go_sem, h3, view, vw, clauseB, hbad]
        · simp [go_sem, h3]
          refine ⟨inR_of (by omega) (by omega), ⟨i + 1, by omega, next (by simp [clOkAt, hlt, hlt', h1, h2]; omega)⟩, by simp; omega, Leads.E (by simp [E_cons, E_nil, ints]) rfl rfl⟩
  · simp [go_sem, ints, hlt]
    simp [go_sem, view, vw, clauseB, hv, clausesB_good (fun j hj => hok j (by omega))]
end Go.Proofs.YtogdmmccbeipkaaGreat.A
