/- Contracts: the library's searches with a function. -/
import Derived.Test.YtogdmmccbeipkaaGreatF7
set_option linter.all false
namespace Go.Proofs.YtogdmmccbeipkaaGreat.A
open Go Go.Abs
set_option pp.maxSteps 3000
set_option pp.deepTerms true
set_option linter.unusedSimpArgs false
set_option maxRecDepth 20000

theorem IndexFunc_q (c : List Int) (g : FuncId) (cap : List AV) (p : Int → Bool) (hcap : AV.pureL cap = true) (hl : Len c) (hp : ∀ x ∈ c, CallsQ Tryz.prog g (.int x :: cap) (Hp []) 0 (.bool (p x))) (h : Heap) (nx : Nat) :
    CallsQ Tryz.prog 133 [ints c, .fn (.func g) [] cap] h nx (.int (indexP c p)) := by
  refine CallsQ.of_pure 1 (by simp [go_sem, hcap]) (in133 ?_) h nx
  simp [go_sem, Tryz.f133, ints]
  refine ⟨{i : Nat // i ≤ c.length ∧ (c.take i).any p = false}, fun i => ⟨E [(0, ints c), (1, .fn (.func g) [] cap), (4, .int 0), (7, .int c.length), (8, .int i.1)], Hp [], 0, 19⟩, fun i => c.length - i.1, ⟨0, by simp⟩, Leads.E (by simp [E_cons, E_nil, ints]) rfl rfl, ?_⟩
  rintro ⟨i, hi, hok⟩
  unfold Len at hl
  by_cases hlt : i < c.length
  · simp [go_sem, ints, hlt]
    refine (hp _ (List.getElem_mem hlt)).call ?_
    cases h1 : p c[i]
    · simp [go_sem]
      exact ⟨inR_of (by omega) (by omega), ⟨i + 1, by omega, any_next hok hlt h1⟩, by simp; omega, Leads.E (by simp [E_cons, E_nil, ints]) rfl rfl⟩
    · have hr : indexP c p = i := indexP_found hok hlt h1
      simp [go_sem, view, vw, hr]
  · have hr : indexP c p = -1 := indexP_none (any_done hok hlt)
    simp [go_sem, ints, hlt, view, vw, hr]

theorem ContainsFunc_q (c : List Int) (g : FuncId) (cap : List AV) (p : Int → Bool) (hcap : AV.pureL cap = true) (hl : Len c) (hp : ∀ x ∈ c, CallsQ Tryz.prog g (.int x :: cap) (Hp []) 0 (.bool (p x))) (h : Heap) (nx : Nat) :
    CallsQ Tryz.prog 183 [ints c, .fn (.func g) [] cap] h nx (.bool (c.any p)) := by
  refine CallsQ.of_pure 1 (by simp [go_sem, hcap]) (in183 ?_) h nx
  simp [go_sem, Tryz.f183]
  refine (IndexFunc_q c g cap p hcap hl hp _ _).call ?_
  simp [go_sem, view, vw, any_indexP]
end Go.Proofs.YtogdmmccbeipkaaGreat.A
namespace Go.Proofs.YtogdmmccbeipkaaGreat.A
open Go Go.Abs
set_option pp.maxSteps 3000
set_option pp.deepTerms true
set_option linter.unusedSimpArgs false
set_option maxRecDepth 20000

theorem part1_q (b : List Int) (x : Int) (hb : Len b) (h : Heap) (nx : Nat) : CallsQ Tryz.prog 184 [.int x, .iptr [ints b]] h nx (.bool (!hasB b x)) := by
  refine CallsQ.of_pure 1 (by simp [go_sem]) (in184 ?_) h nx
  simp [go_sem, Tryz.f184]
  refine (Contains_q b x hb _ _).call ?_
  simp [go_sem, view, vw]

theorem part_q (a b : List Int) (ha : Len a) (hb : Len b) (h : Heap) (nx : Nat) : CallsQ Tryz.prog 170 [ints a, ints b] h nx (.bool (subB a b)) := by
  refine CallsQ.of_pure 1 (by simp [go_sem]) (in170 ?_) h nx
  simp [go_sem, Tryz.f170]
  have hc := ContainsFunc_q a 184 [.iptr [ints b]] (fun x => !hasB b x) (by simp [go_sem]) ha (fun x _ => part1_q b x hb _ _) (Hp []) 0
  refine (CallsQ.of_view 0 rfl (r := .bool (a.any fun x => !hasB b x)) ?_).call ?_
  · simp [go_sem, view, vw, vwL]
    exact hc.call rfl
  · have e : (!a.any fun x => !hasB b x) = subB a b := by
      unfold subB; rw [← List.all_eq_not_any_not]
    simp [go_sem, view, vw, e]

theorem IndexFuncC_q (cs : List (List Int)) (g : FuncId) (cap : List AV) (p : List Int → Bool) (hcap : AV.pureL cap = true) (hl : cs.length ≤ 1099511627776) (hp : ∀ c ∈ cs, CallsQ Tryz.prog g (ints c :: cap) (Hp []) 0 (.bool (p c))) (h : Heap) (nx : Nat) :
    CallsQ Tryz.prog 150 [intss cs, .fn (.func g) [] cap] h nx (.int (indexP cs p)) := by
  refine CallsQ.of_pure 1 (by simp [go_sem, hcap]) (in150 ?_) h nx
  simp [go_sem, Tryz.f150, intss]
  refine ⟨{i : Nat // i ≤ cs.length ∧ (cs.take i).any p = false}, fun i => ⟨E [(0, intss cs), (1, .fn (.func g) [] cap), (4, .int 0), (7, .int cs.length), (8, .int i.1)], Hp [], 0, 19⟩, fun i => cs.length - i.1, ⟨0, by simp⟩, Leads.E (by simp [E_cons, E_nil, intss]) rfl rfl, ?_⟩
  rintro ⟨i, hi, hok⟩
  by_cases hlt : i < cs.length
  · simp [go_sem, intss, hlt]
    refine (hp _ (List.getElem_mem hlt)).call ?_
    cases h1 : p cs[i]
    · simp [go_sem]
      exact ⟨inR_of (by omega) (by omega), ⟨i + 1, by omega, any_next hok hlt h1⟩, by simp; omega, Leads.E (by simp [E_cons, E_nil, intss]) rfl rfl⟩
    · have hr : indexP cs p = i := indexP_found hok hlt h1
      simp [go_sem, view, vw, hr]
  · have hr : indexP cs p = -1 := indexP_none (any_done hok hlt)
    simp [go_sem, intss, hlt, view, vw, hr]

theorem ContainsFuncC_q (cs : List (List Int)) (g : FuncId) (cap : List AV) (p : List Int → Bool) (hcap : AV.pureL cap = true) (hl : cs.length ≤ 1099511627776) (hp : ∀ c ∈ cs, CallsQ Tryz.prog g (ints c :: cap) (Hp []) 0 (.bool (p c))) (h : Heap) (nx : Nat) :
    CallsQ Tryz.prog 134 [intss cs, .fn (.func g) [] cap] h nx (.bool (cs.any p)) := by
  refine CallsQ.of_pure 1 (by simp [go_sem, hcap]) (in134 ?_) h nx
  simp [go_sem, Tryz.f134]
  refine (IndexFuncC_q cs g cap p hcap hl hp _ _).call ?_
  simp [go_sem, view, vw, any_indexP]

theorem occurs1_q (c : List Int) (l : Int) (hc : Len c) (h : Heap) (nx : Nat) : CallsQ Tryz.prog 135 [ints c, .iptr [.int l]] h nx (.bool (hasB c l)) := by
  refine CallsQ.of_pure 1 (by simp [go_sem]) (in135 ?_) h nx
  simp [go_sem, Tryz.f135]
  refine (Contains_q c l hc _ _).call ?_
  simp [go_sem, view, vw]

theorem occurs_q (cs : List (List Int)) (l : Int) (hl : cs.length ≤ 1099511627776) (hc : ∀ c ∈ cs, Len c) (h : Heap) (nx : Nat) : CallsQ Tryz.prog 108 [intss cs, .int l] h nx (.bool (occursB cs l)) := by
  refine CallsQ.of_pure 1 (by simp [go_sem]) (in108 ?_) h nx
  simp [go_sem, Tryz.f108]
  have hq := ContainsFuncC_q cs 135 [.iptr [.int l]] (fun c => hasB c l) (by simp [go_sem]) hl (fun c hm => occurs1_q c l (hc c hm) _ _) (Hp []) 0
  refine (CallsQ.of_view 0 rfl (r := .bool (cs.any fun c => hasB c l)) ?_).call ?_
  · simp [go_sem, view, vw, vwL]
    exact hq.call rfl
  · simp [go_sem, view, vw, occursB]
end Go.Proofs.YtogdmmccbeipkaaGreat.A
namespace Go.Proofs.YtogdmmccbeipkaaGreat.A
open Go Go.Abs
set_option pp.maxSteps 3000
set_option pp.deepTerms true
set_option linter.unusedSimpArgs false
set_option maxRecDepth 20000

theorem isAxiom_q (s : Step') (h : Heap) (nx : Nat) : CallsQ Tryz.prog 111 [.agg (stepC s)] h nx (.bool (decide (s.l < 0))) := by
  refine CallsQ.of_pure 1 (by simp [go_sem, stepC]) (in111 ?_) h nx
  simp [go_sem, Tryz.f111, stepC, view, vw]

theorem isWeakening_q (s : Step') (h : Heap) (nx : Nat) : CallsQ Tryz.prog 88 [.agg (stepC s)] h nx (.bool (decide (0 ≤ s.l) && decide (s.r < 0))) := by
  refine CallsQ.of_pure 1 (by simp [go_sem, stepC]) (in88 ?_) h nx
  simp [go_sem, Tryz.f88, stepC]
  by_cases h1 : 0 ≤ s.l <;> simp [go_sem, h1, view, vw]

theorem earlier_q (n : Int) (cs : List (List Int)) (ss : List Step') (k : Nat) (i : Int) (ok : OkC n cs) (oks : OkS ss) (hk : k ≤ ss.length) (h : Heap) (nx : Nat) :
    CallsQ Tryz.prog 169 [cnfA n cs, stepsA ss, .int k, .int i] h nx (if earlierB n ss k i then .tup [ints (clAt ss i), .bool true] else .tup [.nils, .bool false]) := by
  refine CallsQ.of_pure 1 (by simp [go_sem, cnfA]) (in169 ?_) h nx
  have hl := oks.len
  simp [go_sem, Tryz.f169, cnfA, intss, stepsA]
  refine ⟨inR_of (by omega) (by omega), _, within_q _ _ _ _ _, ?_⟩
  cases h1 : inB i 0 (k - 1)
  · simp [go_sem, view, vw, vwL, earlierB, h1]
  · have h2 : 0 ≤ i ∧ i ≤ k - 1 := by simpa [inB] using h1
    have h3 : i.toNat < ss.length := by omega
    simp [go_sem, h2.1, h3, stepC]
    have hm := (oks.cl _ (List.getElem_mem h3)).1
    refine ⟨_, IsClause_q n _ ok.n hm.1 (by have := hm.2; unfold Len at this; omega) _ _, ?_⟩
    cases h4 : clauseB n ss[i.toNat].cl
    · simp [go_sem, view, vw, vwL, earlierB, h1, clAt_eq h3, h4]
    · simp [go_sem, view, vw, vwL, earlierB, h1, clAt_eq h3, h4, h2.1, h3, stepC]
end Go.Proofs.YtogdmmccbeipkaaGreat.A
namespace Go.Proofs.YtogdmmccbeipkaaGreat.A
open Go Go.Abs
set_option pp.maxSteps 3000
set_option pp.deepTerms true
set_option linter.unusedSimpArgs false
set_option maxRecDepth 20000

theorem withoutVar1_q (x v : Int) (hx : InR x) (h : Heap) (nx : Nat) : CallsQ Tryz.prog 176 [.int x, .iptr [.int v]] h nx (.bool (decide (absI x = v))) := by
  refine CallsQ.of_pure 1 (by simp [go_sem]) (in176 ?_) h nx
  simp [go_sem, Tryz.f176]
  refine ⟨_, abs_q x hx _ _, ?_⟩
  simp [go_sem, view, vw]

theorem splitOf1_q (r : List Int) (v : Int) (hr : Len r) (h : Heap) (nx : Nat) : CallsQ Tryz.prog 107 [.int v, .iptr [ints r]] h nx (.bool (!hasB r v)) := by
  refine CallsQ.of_pure 1 (by simp [go_sem]) (in107 ?_) h nx
  simp [go_sem, Tryz.f107]
  refine (Contains_q r v hr _ _).call ?_
  simp [go_sem, view, vw]
end Go.Proofs.YtogdmmccbeipkaaGreat.A
namespace Go.Proofs.YtogdmmccbeipkaaGreat.A
open Go Go.Abs
set_option pp.maxSteps 3000
set_option pp.deepTerms true
set_option linter.unusedSimpArgs false
set_option maxRecDepth 20000

theorem upd_same (h : Heap) (n : Nat) (b : Option Blk) : upd h n b n = b := by simp [upd]
theorem upd_upd (h : Heap) (n : Nat) (a b : Option Blk) : upd (upd h n a) n b = upd h n b := by funext m; simp only [upd]; split <;> rfl
theorem upd_of_eq {h : Heap} {n : Nat} {b : Option Blk} (e : h n = b) : upd h n b = h := by
  funext m; simp only [upd]; split
  · rename_i e2; rw [e2, e]
  · rfl

theorem DeleteFunc_a (xs : List Int) (g : FuncId) (cap capv : List AV) (p : Int → Bool) (hl : Len xs) (n : Nat) (h : Heap) (nx : Nat) (hcapv : AV.pureL capv = true)
    (hv : ∀ es : List Cells, (cap.map fun a => view 1 (upd h n (some ⟨1, es⟩)) a) = capv) (hp : ∀ x ∈ xs, CallsQ Tryz.prog g (.int x :: capv) (Hp []) 0 (.bool (p x)))
    (hn : h n = some ⟨1, xs.map fun x => [.int x]⟩) (K : AV → Heap → Nat → Prop)
    (hk : ∀ ys : List Int, ys.length = xs.length → ys.take (xs.filter fun x => !p x).length = (xs.filter fun x => !p x) → K (.sl n xs.length 0 (xs.filter fun x => !p x).length) (upd h n (some ⟨1, ys.map fun x => [.int x]⟩)) nx) :
    CallsA Tryz.prog 106 [.sl n xs.length 0 xs.length, .fn (.func g) [] cap] h nx K := by
  have hp' : ∀ x ∈ xs, ∀ es : List Cells, CallsQ Tryz.prog g (.int x :: cap) (upd h n (some ⟨1, es⟩)) nx (.bool (p x)) := fun x hx es => by
    refine CallsQ.of_view 0 rfl ?_
    have e : ((AV.int x :: cap).map fun a => view (0 + 1) (upd h n (some ⟨1, es⟩)) a) = .int x :: capv := by
      simp only [List.map_cons]
      rw [show (0 + 1 : Nat) = 1 from _root_.rfl, hv es]; rfl
    rw [e]
    exact (hp x hx).call rfl
  have hvl : vwL h (view 0 h) cap = capv := by
    have h1 := hv (xs.map fun x => [.int x])
    rw [upd_of_eq hn, show (1 : Nat) = 0 + 1 from _root_.rfl, vwL_eq 0 cap] at h1
    exact h1
  refine in106 ?_
  simp [go_sem, Tryz.f106]
  refine (CallsQ.of_view 0 rfl (r := .int (indexP xs p)) ?_).call ?_
  · have e : (([.sl n xs.length 0 xs.length, .fn (.func g) [] cap] : List AV).map fun a => view (0 + 1) h a) = [ints xs, .fn (.func g) [] capv] := by
      simp only [List.map_cons, List.map_nil]
      rw [view_ints 0 hn rfl]
      show [ints xs, AV.fn (.func g) [] (vwL h (view 0 h) cap)] = _
      rw [hvl]
    rw [e]
    exact (IndexFunc_q xs g capv p hcapv hl hp _ _).call rfl
  · simp [go_sem]
    by_cases h1 : indexP xs p = -1
    · simp [go_sem, h1]
      have hany : xs.any p = false := by rw [← any_indexP, h1]; rfl
      have hf : (xs.filter fun x => !p x) = xs := by
        rw [List.filter_eq_self]; intro x hx; rw [List.any_eq_false] at hany; simpa using hany x hx
      have hk' := hk xs rfl (by rw [hf, List.take_length])
      rw [hf, upd_of_eq hn] at hk'
      exact hk'
    · obtain ⟨i0, hi0, hpi, hbefore⟩ := indexP_some h1
      simp [go_sem, h1]
      have hlen := hl
      unfold Len at hlen
      have hb : indexP xs p = i0 := hpi.1
      refine ⟨inR_of (by omega) (by omega), ?_⟩
      refine ⟨{q : Nat × Nat × List Int // (q.1 ≤ q.2.1 ∧ q.2.1 ≤ xs.length ∧ q.2.2.length = xs.length) ∧ q.2.2.take q.1 = (xs.take q.2.1).filter (fun x => !p x) ∧ q.2.2.drop q.2.1 = xs.drop q.2.1},
        fun q => ⟨E [(0, .sl n xs.length 0 xs.length), (1, .fn (.func g) [] cap), (4, .nils), (5, .int q.1.1), (6, .int q.1.2.1)], upd h n (some ⟨1, q.1.2.2.map fun x => [.int x]⟩), nx, 42⟩,
        fun q => xs.length - q.1.2.1, ⟨(i0, i0 + 1, xs), ?_⟩, ?_, ?_⟩
      · refine ⟨⟨by simp, by simp only; omega, rfl⟩, ?_, rfl⟩
        simp only
        rw [filter_next hi0]
        have h3 : (xs.take i0).filter (fun x => !p x) = xs.take i0 := by
          rw [List.filter_eq_self]; intro x hx; rw [List.any_eq_false] at hbefore; simpa using hbefore x hx
        rw [h3, hpi.2]; simp
      · refine Leads.E (by simp [E_cons, E_nil, hb]) ?_ rfl
        rw [upd_of_eq hn]
      · rintro ⟨⟨i, j, ys⟩, ⟨hij, hj, hyl⟩, ht, hd⟩
        simp only at hij hj hyl ht hd
        by_cases hlt : j < xs.length
        · have hjl : j < ys.length := by omega
          have hyj : ys[j] = xs[j] := by
            have e1 : ys[j]? = xs[j]? := by
              have := congrArg (fun l => l[0]?) hd
              simpa using this
            rw [List.getElem?_eq_getElem hjl, List.getElem?_eq_getElem hlt] at e1
            exact Option.some.inj e1
          simp [go_sem, hlt, upd_same, AS.hput, upd_upd, hjl, hyl, hyj]
          refine (hp' _ (List.getElem_mem hlt) _).call ?_
          cases h2 : p xs[j]
          · have hil : i < ys.length := by omega
            have hil' : i < xs.length := by omega
            simp [go_sem, upd_same, AS.hput, upd_upd, hyl, hil', List.getElem?_eq_getElem hil]
            have hms : (ys.map fun x => [AV.int x]).set i [AV.int xs[j]] = (ys.set i xs[j]).map fun x => [AV.int x] := by rw [List.map_set]
            rw [hms]
            refine ⟨inR_of (by omega) (by omega), inR_of (by omega) (by omega), ⟨(i + 1, j + 1, ys.set i xs[j]), ⟨by simp only; omega, by simp only; omega, by simp only [List.length_set]; exact hyl⟩, ?_, ?_⟩, by simp; omega, Leads.E (by simp [E_cons, E_nil]) rfl rfl⟩
            · simp only
              rw [filter_next hlt, ← ht, List.take_succ_eq_append_getElem (by simpa using hil)]
              simp [h2, List.take_set_of_le]
            · simp only
              rw [List.drop_set_of_lt (by omega), ← List.drop_drop, hd, List.drop_drop]
          · simp [go_sem, upd_same, AS.hput, upd_upd]
            refine ⟨inR_of (by omega) (by omega), ⟨(i, j + 1, ys), ⟨by simp only; omega, by simp only; omega, hyl⟩, ?_, ?_⟩, by simp; omega, Leads.E (by simp [E_cons, E_nil]) rfl rfl⟩
            · simp only; rw [ht, filter_next hlt]; simp [h2]
            · simp only; rw [← List.drop_drop, hd, List.drop_drop]
        · simp [go_sem, hlt, upd_same, AS.hput, upd_upd]
          rw [List.take_of_length_le (l := xs) (by omega)] at ht
          have hi : i = (xs.filter fun x => !p x).length := by
            have := congrArg List.length ht
            rw [List.length_take] at this
            omega
          refine ⟨by omega, hyl, by omega, by omega, ?_⟩
          have hk' := hk (ys.take i ++ (List.replicate (xs.length - i) 0 ++ ys.drop (i + (xs.length - i)))) (by simp; omega) (by rw [← hi, List.take_append_of_le_length (by simp; omega), List.take_take, Nat.min_self]; exact ht)
          rw [← hi] at hk'
          simpa [List.map_take, List.map_drop] using hk'
end Go.Proofs.YtogdmmccbeipkaaGreat.A
