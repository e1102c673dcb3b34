/- Contracts: splits, the program. -/
import Derived.Test.YtogdmmccbeipkaaGreatF17
set_option linter.all false
namespace Go.Proofs.YtogdmmccbeipkaaGreat.A
open Go Go.Abs Go.Shelf
set_option pp.maxSteps 3000
set_option pp.deepTerms true
set_option linter.unusedSimpArgs false
set_option maxRecDepth 20000

theorem ofConst_nilp : ofConst (.pointer none) = .sc (.pointer none) := _root_.id rfl
theorem cells_nilp : AV.cells (.sc (.pointer none)) = [.sc (.pointer none)] := _root_.id rfl
theorem isCell_nilp : AV.isCell (.sc (.pointer none)) = true := _root_.id rfl
attribute [go_sem] ofConst_nilp cells_nilp isCell_nilp

theorem left_p (n : Int) (cs : List (List Int)) (k : Nat) (hk : k ≤ cs.length) (s : AV) (m : Nat) (h : Heap) (nx : Nat) (hm : h m = some ⟨4, [[.int n, intss cs, .int k, s]]⟩) :
    CallsQ Tryz.prog 84 [.ptr m 1 0 0] h nx (intss (cs.take k)) := by
  refine in84 ?_
  simp [go_sem, Tryz.f84, hm, intss, hk]
theorem right_p (n : Int) (cs : List (List Int)) (k : Nat) (hk : k ≤ cs.length) (s : AV) (m : Nat) (h : Heap) (nx : Nat) (hm : h m = some ⟨4, [[.int n, intss cs, .int k, s]]⟩) :
    CallsQ Tryz.prog 76 [.ptr m 1 0 0] h nx (intss (cs.drop k)) := by
  refine in76 ?_
  simp [go_sem, Tryz.f76, hm, intss, hk]
theorem left_i (n : Int) (cs : List (List Int)) (k : Nat) (hk : k ≤ cs.length) (s : AV) (h : Heap) (nx : Nat) :
    CallsQ Tryz.prog 84 [.iptr [.int n, intss cs, .int k, s]] h nx (intss (cs.take k)) := by
  refine in84 ?_
  simp [go_sem, Tryz.f84, intss, hk]
theorem right_i (n : Int) (cs : List (List Int)) (k : Nat) (hk : k ≤ cs.length) (s : AV) (h : Heap) (nx : Nat) :
    CallsQ Tryz.prog 76 [.iptr [.int n, intss cs, .int k, s]] h nx (intss (cs.drop k)) := by
  refine in76 ?_
  simp [go_sem, Tryz.f76, intss, hk]

def sharedM (cs : List (List Int)) (k : Nat) : List Int := (varsM (cs.take k)).filter fun v => hasB (varsM (cs.drop k)) v
theorem good_clauses {n : Int} {cs : List (List Int)} (h : goodB n cs = true) : cs.length ≤ 60 ∧ ∀ c ∈ cs, clauseB n c = true := by
  rw [goodB_all] at h
  simp only [Bool.and_eq_true, decide_eq_true_eq, List.all_eq_true] at h
  exact ⟨h.1.2, h.2⟩
theorem absAll_good {n : Int} : ∀ {cs : List (List Int)}, (∀ c ∈ cs, clauseB n c = true) → (absAll cs).length ≤ 12 * cs.length
  | [], _ => by simp [absAll]
  | c :: cs, h => by
    have h1 := clause_length (h c (List.mem_cons_self ..))
    have h2 := absAll_good (cs := cs) fun d hd => h d (List.mem_cons_of_mem _ hd)
    simp only [absAll, List.flatMap_cons, List.length_append, List.length_map, List.length_cons] at h2 ⊢
    omega
theorem varsM_length (cs : List (List Int)) : (varsM cs).length ≤ (absAll cs).length := by
  have := compactI_length (sortI (absAll cs)) (sortI (absAll cs)).length
  simpa [varsM, sortI] using this
theorem OkC.take {n : Int} {cs : List (List Int)} (ok : OkC n cs) (k : Nat) : ∀ c ∈ cs.take k, InRs c ∧ Len c := fun c hc => ok.cl c (List.mem_of_mem_take hc)
theorem OkC.drop {n : Int} {cs : List (List Int)} (ok : OkC n cs) (k : Nat) : ∀ c ∈ cs.drop k, InRs c ∧ Len c := fun c hc => ok.cl c (List.mem_of_mem_drop hc)

def splitA (n : Int) (cs : List (List Int)) (k : Nat) : AV := .iptr [.int n, intss cs, .int k, ints (sharedM cs k)]
theorem view_split {h : Heap} {m : Nat} {n : Int} {cs : List (List Int)} {k : Nat} {s : AV} (hm : h m = some ⟨4, [[.int n, intss cs, .int k, s]]⟩) (hs : view 1 h s = ints (sharedM cs k)) :
    view 2 h (.tup [.ptr m 1 0 0, .bool true]) = .tup [splitA n cs k, .bool true] := by
  have h1 : ∀ x : Int, view 1 h (.int x) = .int x := fun _ => rfl
  have h2 : view 1 h (intss cs) = intss cs := rfl
  show AV.tup [vw h (view 1 h) (.ptr m 1 0 0), vw h (view 1 h) (.bool true)] = _
  simp only [vw, hm, List.length_cons, List.length_nil, Nat.zero_add, if_true, List.getElem?_cons_zero, List.drop_zero, List.map_cons, List.map_nil, h1, h2, hs]
  rfl
theorem splitOf_q (n : Int) (cs : List (List Int)) (k : Int) (ok : OkC n cs) (h : Heap) (nx : Nat) :
    CallsQ Tryz.prog 74 [cnfA n cs, .int k] h nx (if goodB n cs && inB k 0 cs.length then .tup [splitA n cs k.toNat, .bool true] else .tup [.sc (.pointer none), .bool false]) := by
  refine CallsQ.of_pure 2 (by simp [go_sem, cnfA]) (in74 ?_) h nx
  simp [go_sem, Tryz.f74, cnfA]
  refine (IsCnf_q n cs ok _ _).call ?_
  cases h1 : goodB n cs
  · simp [go_sem, view, vw, vwL]
  simp [go_sem, intss]
  refine (within_q _ _ _ _ _).call ?_
  cases h2 : inB k 0 cs.length
  · simp [go_sem, view, vw, vwL]
  have hk : 0 ≤ k ∧ k ≤ cs.length := by simpa [inB] using h2
  obtain ⟨kn, rfl⟩ : ∃ m : Nat, k = m := ⟨k.toNat, by omega⟩
  have hkn : kn ≤ cs.length := by omega
  have hgc := good_clauses h1
  have hbt : (absAll (cs.take kn)).length ≤ 12 * (cs.take kn).length := absAll_good fun c hc => hgc.2 c (List.mem_of_mem_take hc)
  have hbd : (absAll (cs.drop kn)).length ≤ 12 * (cs.drop kn).length := absAll_good fun c hc => hgc.2 c (List.mem_of_mem_drop hc)
  rw [List.length_take] at hbt
  rw [List.length_drop] at hbd
  have hvt := varsM_length (cs.take kn)
  have hvd := varsM_length (cs.drop kn)
  simp [go_sem]
  refine (right_p n cs kn hkn .nils 1 _ _ (by simp [go_sem, intss])).call ?_
  simp [go_sem]
  refine (varsOf_q (cs.drop kn) (by rw [List.length_drop]; omega) (by omega) (OkC.drop ok kn) _ _).call ?_
  simp [go_sem]
  refine (left_p n cs kn hkn .nils 1 _ _ (by simp [go_sem, intss])).call ?_
  simp [go_sem]
  refine (varsOf_f (cs.take kn) (by rw [List.length_take]; omega) (by omega) (OkC.take ok kn) _ _).call ?_
  simp [go_sem]
  refine DeleteFunc_a (varsM (cs.take kn)) _ [.ptr 2 1 0 0] [.iptr [ints (varsM (cs.drop kn))]] (fun v => !hasB (varsM (cs.drop kn)) v) (by unfold Len; omega) 3 _ _ (by simp [go_sem]) (fun es => by simp [upd, Hp_cons, view, vw, pure_ints]) (fun x hx => splitOf1_q _ x (by unfold Len; omega) _ _) (by simp [go_sem]) _ fun ys hy1 hy2 => ?_
  have hf : ((varsM (cs.take kn)).filter fun x => !(fun v => !hasB (varsM (cs.drop kn)) v) x) = sharedM cs kn := by simp [sharedM]
  rw [hf] at hy2 ⊢
  simp [go_sem]
  refine view_split (m := 1) (n := n) (cs := cs) (k := kn) (s := .sl 3 (varsM (cs.take kn)).length 0 (sharedM cs kn).length) (by simp [go_sem, intss]) ?_
  rw [view_ints_take 0 (k := 1) (xs := ys) (by simp [go_sem]) (by omega), hy2]
end Go.Proofs.YtogdmmccbeipkaaGreat.A
