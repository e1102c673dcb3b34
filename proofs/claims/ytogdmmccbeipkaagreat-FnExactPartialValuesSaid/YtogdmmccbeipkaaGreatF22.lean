/- Contracts: the program's InterpolateNegative and InterpolatePositive. -/
import Derived.Test.YtogdmmccbeipkaaGreatP2
set_option linter.all false
namespace Go.Proofs.YtogdmmccbeipkaaGreat.A
open Go Go.Abs Go.Shelf
set_option pp.maxSteps 3000
set_option pp.deepTerms true
set_option linter.unusedSimpArgs false
set_option maxRecDepth 20000

theorem shared_length {n : Int} {cs : List (List Int)} (h : goodB n cs = true) (k : Nat) : (sharedM cs k).length ≤ 1000 := by
  have h1 := absAll_good (good_take h k)
  have h2 := varsM_length (cs.take k)
  have h3 : (sharedM cs k).length ≤ (varsM (cs.take k)).length := List.length_filter_le _ _
  have h4 := (good_clauses h).1
  rw [List.length_take] at h1
  omega
theorem IsRightNegative_q (n : Int) (cs : List (List Int)) (k : Int) (ok : OkC n cs) (h : Heap) (nx : Nat) :
    CallsQ Tryz.prog 41 [cnfA n cs, .int k] h nx (if goodB n cs && inB k 0 cs.length then .tup [.bool (freeM cs k.toNat (cs.drop k.toNat) 1), .bool true] else .tup [.bool false, .bool false]) := by
  refine CallsQ.of_pure 1 (by simp [go_sem, cnfA]) (in41 ?_) h nx
  simp [go_sem, Tryz.f41, cnfA]
  refine (splitOf_q n cs k ok _ _).call ?_
  cases h1 : goodB n cs && inB k 0 cs.length
  · simp [go_sem, view, vw, vwL]
    simpa using h1
  have hg1 : goodB n cs = true ∧ inB k 0 cs.length = true := by simpa using h1
  have hk : 0 ≤ k ∧ k ≤ cs.length := by have := hg1.2; simpa [inB] using this
  obtain ⟨kn, rfl⟩ : ∃ m : Nat, k = m := ⟨k.toNat, by omega⟩
  have hb := shared_bound hg1.1 kn
  have hn := good_n hg1.1
  have hl := ok.len
  simp [go_sem]
  refine (right_i n cs kn (by omega) _ _ _).call ?_
  simp [go_sem]
  refine (signFree_q n cs kn (cs.drop kn) 1 (fun v hv => by have := hb v hv; exact inR_of (by omega) (by omega)) (shared_length hg1.1 kn) (by rw [List.length_drop]; omega) (fun c hc => (OkC.drop ok kn c hc).2) _ _).call ?_
  simp [go_sem, view, vw, vwL, freeM]
  exact hg1
theorem IsLeftPositive_q (n : Int) (cs : List (List Int)) (k : Int) (ok : OkC n cs) (h : Heap) (nx : Nat) :
    CallsQ Tryz.prog 50 [cnfA n cs, .int k] h nx (if goodB n cs && inB k 0 cs.length then .tup [.bool (freeM cs k.toNat (cs.take k.toNat) (-1)), .bool true] else .tup [.bool false, .bool false]) := by
  refine CallsQ.of_pure 1 (by simp [go_sem, cnfA]) (in50 ?_) h nx
  simp [go_sem, Tryz.f50, cnfA]
  refine (splitOf_q n cs k ok _ _).call ?_
  cases h1 : goodB n cs && inB k 0 cs.length
  · simp [go_sem, view, vw, vwL]
    simpa using h1
  have hg1 : goodB n cs = true ∧ inB k 0 cs.length = true := by simpa using h1
  have hk : 0 ≤ k ∧ k ≤ cs.length := by have := hg1.2; simpa [inB] using this
  obtain ⟨kn, rfl⟩ : ∃ m : Nat, k = m := ⟨k.toNat, by omega⟩
  have hb := shared_bound hg1.1 kn
  have hn := good_n hg1.1
  have hl := ok.len
  simp [go_sem]
  refine (left_i n cs kn (by omega) _ _ _).call ?_
  simp [go_sem]
  refine (signFree_q n cs kn (cs.take kn) (-1) (fun v hv => by have := hb v hv; exact inR_of (by omega) (by omega)) (shared_length hg1.1 kn) (by rw [List.length_take]; omega) (fun c hc => (OkC.take ok kn c hc).2) _ _).call ?_
  simp [go_sem, view, vw, vwL, freeM]
  exact hg1

theorem negativeRules_q (h : Heap) (nx : Nat) : CallsQ Tryz.prog 43 [] h nx (rulesA 80 81) := by
  refine CallsQ.of_pure 1 rfl (in43 ?_) h nx
  simp [go_sem, Tryz.f43, view, vw, vwL, rulesA]
theorem positiveRules_q (h : Heap) (nx : Nat) : CallsQ Tryz.prog 51 [] h nx (rulesA 80 85) := by
  refine CallsQ.of_pure 1 rfl (in51 ?_) h nx
  simp [go_sem, Tryz.f51, view, vw, vwL, rulesA]

theorem noIL_gates (gs : List G3) : ∀ e ∈ gs.map gcell, AV.noIL e = true := fun e he => by
  obtain ⟨g, _, rfl⟩ := List.mem_map.1 he
  rfl
theorem view_args {args : List AV} (hp : AV.pureL args = true) (d : Nat) (h : Heap) : (args.map fun a => view (d + 1) h a) = args := by rw [vwL_eq, vwL_pure h (view d h) args hp]
section
variable (n : Int) (cs : List (List Int)) (k : Int) (ss : List Step') (fa fs : FuncId) (ax : Nat → Step' → List G3) (B : Nat) (sh : Nat → Int → Int → Int → List G3)
    (hax : 0 ≤ k → AxOk fa n cs k.toNat ax B (fun _ => True)) (hsh : ShOk fs sh) (hB : B ≤ 64) (ok : OkC n cs) (oks : OkS ss) (h : Heap) (nx : Nat)
include hax hsh hB ok oks
theorem wired_T {gs : List G3} (hw : wiredM n cs k ss ax sh = some gs) : CallsT Tryz.prog 42 [cnfA n cs, .int k, stepsA ss, rulesA fa fs] h nx 3 (gs.map gcell) := by
  refine CallsT.of_view 0 (by omega) (pureE_gates gs) (noIL_gates gs) ?_
  rw [view_args (by simp [go_sem, cnfA, rulesA])]
  refine (wired_a n cs k ss fa fs ax B sh hax hsh hB ok oks).mono fun r h0 n0 hO => ?_
  rw [hw] at hO
  obtain ⟨m, ys, ⟨hr, hm⟩, ht, _⟩ := hO
  exact ⟨m, ys, ⟨by rw [List.length_map]; exact hr, hm⟩, by rw [List.length_map]; exact ht⟩
theorem wired_N (hw : wiredM n cs k ss ax sh = none) : CallsQ Tryz.prog 42 [cnfA n cs, .int k, stepsA ss, rulesA fa fs] h nx (.tup [.nils, .bool false]) := by
  refine CallsQ.of_view 0 rfl ?_
  rw [view_args (by simp [go_sem, cnfA, rulesA])]
  refine (wired_a n cs k ss fa fs ax B sh hax hsh hB ok oks).mono fun r h0 n0 hO => ?_
  rw [hw] at hO
  exact hO
end

theorem negative_a (n : Int) (cs : List (List Int)) (k : Int) (ss : List Step') (ok : OkC n cs) (oks : OkS ss) :
    CallsA Tryz.prog 13 [cnfA n cs, .int k, stepsA ss] (Hp []) 0 (fun r h0 _ => OutG (negM n cs k ss) r h0) := by
  rw [← neg_same]
  refine in13 ?_
  simp [go_sem, Tryz.f13, cnfA]
  refine (IsRightNegative_q n cs k ok _ _).call ?_
  cases h1 : goodB n cs && inB k 0 cs.length
  · simp [go_sem, negB, h1, OutG]
  cases h2 : freeM cs k.toNat (cs.drop k.toNat) 1
  · simp [go_sem, negB, h2, OutG]
  have hr : negB n cs k ss = wiredM n cs k ss (axM k.toNat) negSh := by unfold negB; rw [if_pos (by simp [h1, h2])]
  rw [hr]
  simp [go_sem]
  refine ⟨_, _, _, negativeRules_q _ _, ?_⟩
  cases hw : wiredM n cs k ss (axM k.toNat) negSh with
  | none =>
    refine ⟨_, _, ⟨_, wired_N n cs k ss _ _ (axM k.toNat) 1 negSh (fun _ => axiom_ok n cs k.toNat) neg1_ok (by omega) ok oks _ _ hw⟩, ?_⟩
    simp [go_sem, OutG]
  | some gs =>
    refine ⟨_, _, ⟨_, wired_T n cs k ss _ _ (axM k.toNat) 1 negSh (fun _ => axiom_ok n cs k.toNat) neg1_ok (by omega) ok oks _ _ hw⟩, ?_⟩
    simp [go_sem]
    refine ⟨1, gs.map gcell, ⟨?_, ?_⟩, ?_, pureE_gates gs⟩
    · simp
    · exact upd_same'
    · rw [List.take_of_length_le (by rw [List.length_map]; exact Nat.le_refl _)]
theorem positive_a (n : Int) (cs : List (List Int)) (k : Int) (ss : List Step') (ok : OkC n cs) (oks : OkS ss) :
    CallsA Tryz.prog 22 [cnfA n cs, .int k, stepsA ss] (Hp []) 0 (fun r h0 _ => OutG (posM n cs k ss) r h0) := by
  rw [← pos_same]
  refine in22 ?_
  simp [go_sem, Tryz.f22, cnfA]
  refine (IsLeftPositive_q n cs k ok _ _).call ?_
  cases h1 : goodB n cs && inB k 0 cs.length
  · simp [go_sem, posB, h1, OutG]
  cases h2 : freeM cs k.toNat (cs.take k.toNat) (-1)
  · simp [go_sem, posB, h2, OutG]
  have hr : posB n cs k ss = wiredM n cs k ss (axM k.toNat) posSh := by unfold posB; rw [if_pos (by simp [h1, h2])]
  rw [hr]
  simp [go_sem]
  refine ⟨_, _, _, positiveRules_q _ _, ?_⟩
  cases hw : wiredM n cs k ss (axM k.toNat) posSh with
  | none =>
    refine ⟨_, _, ⟨_, wired_N n cs k ss _ _ (axM k.toNat) 1 posSh (fun _ => axiom_ok n cs k.toNat) pos1_ok (by omega) ok oks _ _ hw⟩, ?_⟩
    simp [go_sem, OutG]
  | some gs =>
    refine ⟨_, _, ⟨_, wired_T n cs k ss _ _ (axM k.toNat) 1 posSh (fun _ => axiom_ok n cs k.toNat) pos1_ok (by omega) ok oks _ _ hw⟩, ?_⟩
    simp [go_sem]
    refine ⟨1, gs.map gcell, ⟨?_, ?_⟩, ?_, pureE_gates gs⟩
    · simp
    · exact upd_same'
    · rw [List.take_of_length_le (by rw [List.length_map]; exact Nat.le_refl _)]
end Go.Proofs.YtogdmmccbeipkaaGreat.A
