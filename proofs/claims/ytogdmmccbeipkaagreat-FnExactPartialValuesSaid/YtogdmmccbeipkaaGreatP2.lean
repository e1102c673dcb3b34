/- Plain law: shared variables, signs and circuits, program and reference. -/
import Derived.Test.YtogdmmccbeipkaaGreatF21
set_option linter.all false
namespace Go.Proofs.YtogdmmccbeipkaaGreat.A
open Go Go.Abs Go.Shelf
set_option linter.unusedSimpArgs false

theorem occursB_iff {cl : List (List Int)} {l : Int} : occursB cl l = true ↔ ∃ c ∈ cl, l ∈ c := by
  unfold occursB
  rw [List.any_eq_true]
  exact ⟨fun ⟨c, h1, h2⟩ => ⟨c, h1, hasB_iff.1 h2⟩, fun ⟨c, h1, h2⟩ => ⟨c, h1, hasB_iff.2 h2⟩⟩
theorem lit_bound {n : Int} {c : List Int} (h : clauseB n c = true) : ∀ l ∈ c, 1 ≤ absI l ∧ absI l ≤ n := fun l hl => by
  have h' : clausesB n c = true ∧ varsB n = true := by simpa [clauseB] using h
  obtain ⟨j, hj, rfl⟩ := List.getElem_of_mem hl
  have := clause_at h'.1 (varsB_iff.1 h'.2) j hj
  rw [List.getD_eq_getElem?_getD, List.getElem?_eq_getElem hj] at this
  simp only [Option.getD_some] at this
  omega
theorem varsM_iff {n : Int} {cl : List (List Int)} (hcl : ∀ c ∈ cl, clauseB n c = true) {v : Int} : v ∈ varsM cl ↔ (1 ≤ v ∧ v ≤ n) ∧ (occursB cl v = true ∨ occursB cl (wneg v) = true) := by
  rw [mem_varsM]
  constructor
  · rintro ⟨c, hc, l, hl, rfl⟩
    have b1 := lit_bound (hcl c hc) l hl
    have b2 := (up_clause (hcl c hc)).2 l hl
    have s := absI_small b2
    refine ⟨b1, ?_⟩
    rw [occursB_iff, occursB_iff]
    rcases s.1 with e | e
    · left; exact ⟨c, hc, by rw [← e]; exact hl⟩
    · right
      refine ⟨c, hc, ?_⟩
      have : wneg (absI l) = l := by
        have h3 : wneg (absI l) = - absI l := by unfold wneg; split <;> omega
        omega
      rw [this]; exact hl
  · rintro ⟨hb, h | h⟩
    · obtain ⟨c, hc, hv⟩ := occursB_iff.1 h
      exact ⟨c, hc, v, hv, by unfold absI; rw [if_neg (by omega)]⟩
    · obtain ⟨c, hc, hv⟩ := occursB_iff.1 h
      refine ⟨c, hc, wneg v, hv, ?_⟩
      have b2 := (up_clause (hcl c hc)).2 _ hv
      have hw : wneg v = -v ∨ v = -9223372036854775808 := by unfold wneg; split <;> omega
      rcases hw with hw | hw
      · rw [hw] at b2 ⊢
        have s := (absI_small b2).1
        omega
      · omega
theorem hasV {n : Int} {cl : List (List Int)} (hcl : ∀ c ∈ cl, clauseB n c = true) {v : Int} (hv : 1 ≤ v ∧ v ≤ n) : hasB (varsM cl) v = (occursB cl v || occursB cl (wneg v)) := by
  have h := varsM_iff hcl (v := v)
  rw [Bool.eq_iff_iff, hasB_iff, h, Bool.or_eq_true]
  exact ⟨fun h => h.2, fun h => ⟨hv, h⟩⟩
theorem good_take {n : Int} {cs : List (List Int)} (h : goodB n cs = true) (k : Nat) : ∀ c ∈ cs.take k, clauseB n c = true := fun c hc => (good_clauses h).2 c (List.mem_of_mem_take hc)
theorem good_drop {n : Int} {cs : List (List Int)} (h : goodB n cs = true) (k : Nat) : ∀ c ∈ cs.drop k, clauseB n c = true := fun c hc => (good_clauses h).2 c (List.mem_of_mem_drop hc)

theorem mem_upTo {i : Nat} {v : Int} : v ∈ upTo i ↔ 1 ≤ v ∧ v ≤ i := by
  simp only [upTo, List.mem_map, List.mem_range]
  constructor
  · rintro ⟨j, hj, rfl⟩; omega
  · intro h; exact ⟨(v - 1).toNat, by omega, by omega⟩
theorem good_n {n : Int} {cs : List (List Int)} (h : goodB n cs = true) : 0 ≤ n ∧ n ≤ 12 := by
  simp only [goodB, Bool.and_eq_true] at h
  exact varsB_iff.1 h.1.1
theorem mem_both {n : Int} {cs : List (List Int)} (h : goodB n cs = true) (k : Nat) {v : Int} : v ∈ bothM n cs k ↔ v ∈ sharedM cs k := by
  have hn := good_n h
  simp only [bothM, sideM, List.mem_filter, mem_upTo, bothP, leftB, rightB, Bool.and_eq_true, Bool.or_eq_true, sharedM, hasB_iff]
  rw [varsM_iff (good_take h k), varsM_iff (good_drop h k)]
  constructor
  · rintro ⟨h1, h2, h3⟩; exact ⟨⟨by omega, h2⟩, by omega, h3⟩
  · rintro ⟨⟨h1, h2⟩, _, h3⟩; exact ⟨by omega, h2, h3⟩
theorem shared_bound {n : Int} {cs : List (List Int)} (h : goodB n cs = true) (k : Nat) : ∀ v ∈ sharedM cs k, 1 ≤ v ∧ v ≤ n := fun v hv => by
  simp only [sharedM, List.mem_filter] at hv
  exact ((varsM_iff (good_take h k)).1 hv.1).1

def freeM (cs : List (List Int)) (k : Nat) (cl : List (List Int)) (sg : Int) : Bool := !(sharedM cs k).any fun v => occursB cl (sg * v)
theorem signB_iff {cl : List (List Int)} {both : List Int} {pos : Bool} : signB cl both pos = true ↔ ∃ c ∈ cl, ∃ l ∈ c, (decide (0 < l) = pos) ∧ absI l ∈ both := by
  simp only [signB, signC, signP, List.any_eq_true, Bool.and_eq_true, beq_iff_eq, hasB_iff]
theorem free_right {n : Int} {cs : List (List Int)} (h : goodB n cs = true) (k : Nat) : freeM cs k (cs.drop k) 1 = !signB (cs.drop k) (bothM n cs k) true := by
  unfold freeM
  congr 1
  rw [Bool.eq_iff_iff, signB_iff, List.any_eq_true]
  constructor
  · rintro ⟨v, hv, ho⟩
    obtain ⟨c, hc, hl⟩ := occursB_iff.1 ho
    have b := shared_bound h k v hv
    rw [Int.one_mul] at hl
    exact ⟨c, hc, v, hl, decide_eq_true (by omega), by rw [show absI v = v by unfold absI; rw [if_neg (by omega)], mem_both h]; exact hv⟩
  · rintro ⟨c, hc, l, hl, hp, hm⟩
    have hp : 0 < l := by simpa using hp
    rw [show absI l = l by unfold absI; rw [if_neg (by omega)], mem_both h] at hm
    exact ⟨l, hm, occursB_iff.2 ⟨c, hc, by rw [Int.one_mul]; exact hl⟩⟩
theorem free_left {n : Int} {cs : List (List Int)} (h : goodB n cs = true) (k : Nat) : freeM cs k (cs.take k) (-1) = !signB (cs.take k) (bothM n cs k) false := by
  unfold freeM
  congr 1
  rw [Bool.eq_iff_iff, signB_iff, List.any_eq_true]
  have hn := good_n h
  constructor
  · rintro ⟨v, hv, ho⟩
    obtain ⟨c, hc, hl⟩ := occursB_iff.1 ho
    have b := shared_bound h k v hv
    have e : absI (-1 * v) = v := by unfold absI wneg; split <;> (try split) <;> omega
    exact ⟨c, hc, _, hl, decide_eq_false (by omega), by rw [e, mem_both h]; exact hv⟩
  · rintro ⟨c, hc, l, hl, hp, hm⟩
    have hp : ¬ 0 < l := by simpa using hp
    rw [mem_both h] at hm
    have b := shared_bound h k _ hm
    have s := absI_small (x := l) (by omega)
    exact ⟨_, hm, occursB_iff.2 ⟨c, hc, by rw [show -1 * absI l = l by omega]; exact hl⟩⟩

/-- What is asked of a step that is wired. -/
def FitS (n : Int) (s : Step') : Prop := 0 ≤ s.l → 0 ≤ s.r → 1 ≤ s.p ∧ s.p ≤ n
theorem correct_fit {n : Int} {cs : List (List Int)} {ss : List Step'} {i : Nat} (hi : i < ss.length) (h : correctB n cs ss i = true) : FitS n ss[i] := fun hl hr => by
  unfold correctB at h
  rw [List.getD_eq_getElem?_getD, List.getElem?_eq_getElem hi, Option.getD_some] at h
  simp only [stepB, Bool.and_eq_true] at h
  rw [if_neg (by omega)] at h
  have h2 := h.2
  simp only [Bool.and_eq_true] at h2
  rw [if_neg (by omega)] at h2
  have h3 := h2.2
  simp only [Bool.and_eq_true, inB, decide_eq_true_eq] at h3
  exact h3.1.2
theorem sideI_eq {n : Int} {cs : List (List Int)} (h : goodB n cs = true) (k : Nat) {v : Int} (hv : 1 ≤ v ∧ v ≤ n) : sideI cs k v = if rightB cs k v then (if leftB cs k v then 0 else 1) else -1 := by
  unfold sideI
  rw [hasV (good_drop h k) hv, hasV (good_take h k) hv]
  rfl
def gSh (pos : Bool) : Nat → Int → Int → Int → List G3 := if pos then posSh else negSh
theorem step_same {n : Int} {cs : List (List Int)} (h : goodB n cs = true) (k : Nat) (pos : Bool) {s : Step'} (hs : FitS n s) (g : List G3) (a : List Int) :
    ((stepW cs k (axM k) (gSh pos) s g a).1, a ++ [(stepW cs k (axM k) (gSh pos) s g a).2]) = gateM cs k k pos s g a := by
  unfold stepW gateM
  by_cases c1 : s.l < 0
  · simp only [if_pos c1, axM]; simp
  · simp only [if_neg c1]
    by_cases c2 : s.r < 0
    · simp only [if_pos c2]
    · simp only [if_neg c2]
      have hp := hs (by omega) (by omega)
      unfold resW
      rw [sideI_eq h k hp]
      cases h1 : rightB cs k s.p
      · simp
      · cases h2 : leftB cs k s.p
        · simp
        · cases pos <;> simp [gSh, posSh, negSh] <;> omega
theorem wire_grows (cs : List (List Int)) (k : Nat) (ax : Nat → Step' → List G3) (sh : Nat → Int → Int → Int → List G3) : ∀ (l : List Step') (st : List G3 × List Int), st.1.length ≤ (wireM cs k ax sh l st).1.length
  | [], _ => Nat.le_refl _
  | s :: r, st => by
    refine Nat.le_trans ?_ (wire_grows cs k ax sh r _)
    unfold stepW
    (repeat' split) <;> simp
theorem wire_gates {n : Int} {cs : List (List Int)} (h : goodB n cs = true) (k : Nat) (pos : Bool) : ∀ (l : List Step') (st : List G3 × List Int), (∀ s ∈ l, FitS n s) →
    ((wireM cs k (axM k) (gSh pos) l st).1.length ≤ 200 → gatesM cs k pos l st = wireM cs k (axM k) (gSh pos) l st) ∧ (200 < (wireM cs k (axM k) (gSh pos) l st).1.length → 200 < (gatesM cs k pos l st).1.length)
  | [], st, _ => ⟨fun _ => rfl, fun h => h⟩
  | s :: r, st, hf => by
    have hs := step_same h k pos (hf s (List.mem_cons_self ..)) st.1 st.2
    have ih := wire_gates h k pos r (gateM cs k k pos s st.1 st.2) fun t ht => hf t (List.mem_cons_of_mem _ ht)
    have hg := wire_grows cs k (axM k) (gSh pos) (s :: r) st
    simp only [wireM, gatesM] at hg ⊢
    rw [hs] at hg ⊢
    by_cases c : st.1.length > 200
    · rw [if_pos c]
      exact ⟨fun h => by omega, fun _ => c⟩
    · rw [if_neg c]
      exact ih

def negB (n : Int) (cs : List (List Int)) (k : Int) (ss : List Step') : Option (List G3) := if goodB n cs && inB k 0 cs.length && freeM cs k.toNat (cs.drop k.toNat) 1 then wiredM n cs k ss (axM k.toNat) negSh else none
def posB (n : Int) (cs : List (List Int)) (k : Int) (ss : List Step') : Option (List G3) := if goodB n cs && inB k 0 cs.length && freeM cs k.toNat (cs.take k.toNat) (-1) then wiredM n cs k ss (axM k.toNat) posSh else none
def posM (n : Int) (cs : List (List Int)) (k : Int) (ss : List Step') : Option (List G3) :=
  if goodB n cs && inB k 0 cs.length && !signB (cs.take k.toNat) (bothM n cs k.toNat) false && refutB n cs ss then
    (if (takeG (gatesM cs k.toNat true ss ([], []))).length > 200 then none else some (takeG (gatesM cs k.toNat true ss ([], []))))
  else none
theorem wired_same {n : Int} {cs : List (List Int)} {k : Int} {ss : List Step'} (h : goodB n cs = true) (hk : inB k 0 cs.length = true) (hr : refutB n cs ss = true) (pos : Bool) :
    wiredM n cs k ss (axM k.toNat) (gSh pos) = if (takeG (gatesM cs k.toNat pos ss ([], []))).length > 200 then none else some (takeG (gatesM cs k.toNat pos ss ([], []))) := by
  have hd : derivB n cs ss = true := by simp only [refutB, Bool.and_eq_true, decide_eq_true_eq] at hr; exact hr.1.1
  have hf : ∀ s ∈ ss, FitS n s := fun s hs => by
    obtain ⟨i, hi, rfl⟩ := List.getElem_of_mem hs
    exact correct_fit hi (deriv_all hd i hi)
  have hw := wire_gates h k.toNat pos ss ([], []) hf
  unfold wiredM
  rw [if_pos (by simp [h, hk, hr])]
  by_cases c : (wireM cs k.toNat (axM k.toNat) (gSh pos) ss ([], [])).1.length > 200
  · have := hw.2 c
    have e : takeG (gatesM cs k.toNat pos ss ([], [])) = (gatesM cs k.toNat pos ss ([], [])).1 := by unfold takeG; rw [if_pos this]
    rw [if_pos c, e, if_pos this]
  · have e := hw.1 (by omega)
    rw [if_neg c, e]
    have e2 : takeG (wireM cs k.toNat (axM k.toNat) (gSh pos) ss ([], [])) = (wireM cs k.toNat (axM k.toNat) (gSh pos) ss ([], [])).1.take (atI (wireM cs k.toNat (axM k.toNat) (gSh pos) ss ([], [])).2 ((wireM cs k.toNat (axM k.toNat) (gSh pos) ss ([], [])).2.length - 1) + 1).toNat := by
      unfold takeG; rw [if_neg c]
    rw [e2, if_neg (by rw [List.length_take]; omega)]
theorem neg_same (n : Int) (cs : List (List Int)) (k : Int) (ss : List Step') : negB n cs k ss = negM n cs k ss := by
  unfold negB negM
  cases h1 : goodB n cs
  · simp
  cases h2 : inB k 0 cs.length
  · simp
  rw [free_right h1]
  cases h3 : signB (cs.drop k.toNat) (bothM n cs k.toNat) true
  · cases h4 : refutB n cs ss
    · simp [wiredM, h4]
    · have := wired_same h1 h2 h4 false
      simp only [gSh, Bool.false_eq_true, if_false] at this
      simp [this]
  · simp
theorem pos_same (n : Int) (cs : List (List Int)) (k : Int) (ss : List Step') : posB n cs k ss = posM n cs k ss := by
  unfold posB posM
  cases h1 : goodB n cs
  · simp
  cases h2 : inB k 0 cs.length
  · simp
  rw [free_left h1]
  cases h3 : signB (cs.take k.toNat) (bothM n cs k.toNat) false
  · cases h4 : refutB n cs ss
    · simp [wiredM, h4]
    · have := wired_same h1 h2 h4 true
      simp only [gSh, if_true] at this
      simp [this]
  · simp
end Go.Proofs.YtogdmmccbeipkaaGreat.A
