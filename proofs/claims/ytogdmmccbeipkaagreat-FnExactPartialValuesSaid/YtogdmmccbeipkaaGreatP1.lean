/- Contracts: resolvents, the program. -/
import Derived.Test.YtogdmmccbeipkaaGreatF15
set_option linter.all false
namespace Go.Proofs.YtogdmmccbeipkaaGreat.A
open Go Go.Abs Go.Shelf
set_option pp.maxSteps 3000
set_option pp.deepTerms true
set_option linter.unusedSimpArgs false
set_option maxRecDepth 20000

theorem withoutVar_q (c : List Int) (v : Int) (hl : Len c) (hc : InRs c) (h : Heap) (nx : Nat) : CallsQ Tryz.prog 156 [ints c, .int v] h nx (ints (withoutV c v)) := by
  refine CallsQ.of_pure 1 (by simp [go_sem]) (in156 ?_) h nx
  simp [go_sem, Tryz.f156]
  refine (Clone_f c hl _ _).call ?_
  simp [go_sem]
  refine DeleteFunc_a c _ [.ptr 0 1 0 0] [.iptr [.int v]] (fun x => decide (absI x = v)) hl 1 _ _ (by simp [go_sem]) (fun es => by simp [upd, Hp_cons, view, vw, AV.pure]) (fun x hx => withoutVar1_q x v (hc x hx) _ _) (by simp [go_sem]) _ fun ys hy1 hy2 => ?_
  simp [go_sem]
  rw [view_ints_take 0 (k := 1) (xs := ys) (by simp [go_sem]) (by omega), hy2]
  rfl

theorem Concat_q (a b : List Int) (hl : a.length + b.length ≤ 1099511627776) (h : Heap) (nx : Nat) : CallsQ Tryz.prog 155 [intss [a, b]] h nx (ints (a ++ b)) :=
  CallsQ.of_pure 1 (by simp [go_sem]) ((Concat_f a b hl (Hp []) 0).call (view_ints 0 (k := 1) (xs := a ++ b) (by simp [upd]) (by simp))) h nx

def adjAt (u : List Int) (i : Nat) : Bool := decide (0 < i) && decide (u.getD i 0 = wneg (u.getD (i - 1) 0))
def adjB (u : List Int) : Bool := (List.range u.length).any (adjAt u)
def uniqL (c : List Int) : List Int := compactI (sortL c) (sortL c).length
def clauseM (c : List Int) : Option (List Int) := if adjB (uniqL c) then none else some (uniqL c)
def joinN : Option (List Int) → AV
  | some c => .tup [ints c, .bool true]
  | none => .tup [.nils, .bool false]
theorem mem_sortL {c : List Int} {x : Int} : x ∈ sortL c ↔ x ∈ c := List.mem_mergeSort
theorem mem_compactI {xs : List Int} {n : Nat} (hn : n ≤ xs.length) {x : Int} (h : x ∈ compactI xs n) : x ∈ xs := by
  simp only [compactI, List.mem_map, List.mem_filter, List.mem_range] at h
  obtain ⟨i, ⟨h1, _⟩, rfl⟩ := h
  have : i < xs.length := by omega
  rw [List.getD_eq_getElem?_getD, List.getElem?_eq_getElem this]
  exact List.getElem_mem this
theorem uniqL_inRs {c : List Int} (hc : InRs c) : InRs (uniqL c) := fun x hx => hc x (mem_sortL.1 (mem_compactI (Nat.le_refl _) hx))
theorem uniqL_length (c : List Int) : (uniqL c).length ≤ c.length := by
  have := compactI_length (sortL c) (sortL c).length
  simpa [uniqL, sortL] using this
theorem adjB_bad {u : List Int} {i : Nat} (hi : i < u.length) (h : adjAt u i = true) : adjB u = true := by
  simp only [adjB, List.any_eq_true, List.mem_range]; exact ⟨i, hi, h⟩
theorem adjB_good {u : List Int} (h : ∀ j, j < u.length → adjAt u j = false) : adjB u = false := by
  simp only [adjB, List.any_eq_false, List.mem_range]; intro j hj; simp [h j hj]

theorem clause_q (c : List Int) (hl : Len c) (hc : InRs c) (h : Heap) (nx : Nat) : CallsQ Tryz.prog 154 [ints c] h nx (joinN (clauseM c)) := by
  refine CallsQ.of_pure 1 (by simp [go_sem]) (in154 ?_) h nx
  simp [go_sem, Tryz.f154]
  refine (Clone_f c hl _ _).call ?_
  simp [go_sem]
  refine SortFunc_a c hl hc 0 _ _ (by simp [go_sem]) _ ?_
  simp [go_sem]
  have hsl : (sortL c).length = c.length := by simp [sortL]
  have hC := Compact_a (sortL c) (by unfold Len at *; omega) 0
  rw [hsl] at hC
  refine hC _ _ (by simp [go_sem]) _ fun ys hy1 hy2 => ?_
  simp [go_sem]
  have hu : compactI (sortL c) c.length = uniqL c := by rw [uniqL, hsl]
  rw [hu] at hy2 ⊢
  have hul := uniqL_length c
  have huR := uniqL_inRs hc
  unfold Len at hl
  generalize hU : uniqL c = u at *
  have hyl : ys.length = c.length := by omega
  have hat : ∀ j, ∀ hj : j < u.length, ys[j]? = some u[j] := fun j hj => by
    have e : (ys.take u.length)[j]? = u[j]? := by rw [hy2]
    rw [List.getElem?_take, if_pos hj, List.getElem?_eq_getElem hj] at e
    exact e
  have h01 : ∀ j, j < 1 → adjAt u j = false := fun j hj => by
    have : j = 0 := by omega
    subst this; rfl
  refine ⟨{i : Nat // (1 ≤ i ∧ (i ≤ u.length ∨ i = 1)) ∧ ∀ j, j < i → j < u.length → adjAt u j = false}, fun i => ⟨E [(0, ints c), (2, .nils), (3, .bool false), (4, .sl 0 c.length 0 u.length), (5, .int i.1)], Hp [(0, ⟨1, ys.map fun x => [.int x]⟩)], 1, 30⟩, fun i => u.length - i.1, ⟨1, ⟨by omega, .inr rfl⟩, fun j hj _ => h01 j hj⟩, Leads.E (by simp [E_cons, E_nil]) (by simp) rfl, ?_⟩
  rintro ⟨i, ⟨hi1, hi2⟩, hok⟩
  by_cases hlt : i < u.length
  · have hlt' : i - 1 < u.length := by omega
    have a1 := hat i hlt
    have a2 := hat (i - 1) hlt'
    have hR1 : InR u[i - 1] := huR _ (List.getElem_mem hlt')
    have ei : ((i : Int) - 1).toNat = i - 1 := by omega
    have hb1 : (i : Int) - 1 < (u.length : Int) := by omega
    simp [go_sem, hlt, hyl, a1]
    refine ⟨inR_of (by omega) (by omega), ⟨by omega, hb1⟩, ?_⟩
    simp [go_sem, hyl, a2, ei, hR1]
    by_cases heq : u[i] = wneg u[i - 1]
    · have hadj : adjB u = true := adjB_bad hlt (by simp [adjAt, List.getD_eq_getElem?_getD, hlt, hlt', heq]; omega)
      simp [go_sem, heq, view, vw, vwL, clauseM, hU, hadj, joinN]
    · have hadj : adjAt u i = false := by simp [adjAt, List.getD_eq_getElem?_getD, hlt, hlt', heq]
      simp [go_sem, heq]
      refine ⟨inR_of (by omega) (by omega), ⟨i + 1, ⟨by omega, .inl (by omega)⟩, fun j hj hj2 => ?_⟩, by simp; omega, Leads.E (by simp [E_cons, E_nil]) rfl rfl⟩
      rcases Nat.lt_succ_iff_lt_or_eq.1 hj with h2 | h2
      · exact hok j h2 hj2
      · rw [h2]; exact hadj
  · have hadj : adjB u = false := adjB_good fun j hj => hok j (by omega) hj
    have hv : view 1 (Hp [(0, ⟨1, ys.map fun x => [.int x]⟩)]) (.sl 0 c.length 0 u.length) = ints u := by
      rw [view_ints_take 0 (k := 1) (xs := ys) (by simp [go_sem]) (by omega), hy2]
    simp [go_sem, hlt, clauseM, hU, hadj, joinN]
    show AV.tup [view 1 _ _, view 1 _ _] = _
    rw [hv]
    rfl

def resolveN (a b : List Int) (v : Int) : Option (List Int) := if hasB a v && hasB b (wneg v) then clauseM (withoutV a v ++ withoutV b v) else none
theorem resolve_q (a b : List Int) (v : Int) (hl : a.length + b.length ≤ 1099511627000) (ha : InRs a) (hb : InRs b) (hv : InR v) (h : Heap) (nx : Nat) : CallsQ Tryz.prog 143 [ints a, ints b, .int v] h nx (joinN (resolveN a b v)) := by
  refine CallsQ.of_pure 1 (by simp [go_sem]) (in143 ?_) h nx
  have hla : Len a := by unfold Len; omega
  have hlb : Len b := by unfold Len; omega
  simp [go_sem, Tryz.f143]
  refine (Contains_q a v hla _ _).call ?_
  cases h1 : hasB a v
  · simp [go_sem, view, vw, vwL, resolveN, h1, joinN]
  simp [go_sem, hv]
  refine (Contains_q b _ hlb _ _).call ?_
  cases h2 : hasB b (wneg v)
  · simp [go_sem, view, vw, vwL, resolveN, h1, h2, joinN]
  have e1 := without_length a v
  have e2 := without_length b v
  simp [go_sem]
  refine (withoutVar_q a v hla ha _ _).call ?_
  simp [go_sem]
  refine (withoutVar_q b v hlb hb _ _).call ?_
  simp [go_sem]
  refine (Concat_q (withoutV a v) (withoutV b v) (by omega) _ _).call ?_
  simp [go_sem]
  have hR : InRs (withoutV a v ++ withoutV b v) := fun x hx => by
    rcases List.mem_append.1 hx with hx | hx
    · exact without_inRs ha x hx
    · exact without_inRs hb x hx
  refine (clause_q _ (by unfold Len; simp; omega) hR _ _).call ?_
  have er : resolveN a b v = clauseM (withoutV a v ++ withoutV b v) := by simp [resolveN, h1, h2]
  rw [er]
  cases clauseM (withoutV a v ++ withoutV b v) <;> simp [go_sem, view, vw, vwL, joinN]
end Go.Proofs.YtogdmmccbeipkaaGreat.A
namespace Go.Proofs.YtogdmmccbeipkaaGreat.A
open Go Go.Abs Go.Shelf
set_option linter.unusedSimpArgs false

theorem mem_compact {xs : List Int} : ∀ n, n ≤ xs.length → ∀ x, x ∈ xs.take n ↔ x ∈ compactI xs n
  | 0, _, x => by simp [compactI]
  | n + 1, hn, x => by
    have hlt : n < xs.length := by omega
    have ih := mem_compact (xs := xs) n (by omega) x
    rw [compactI_next, List.take_succ_eq_append_getElem hlt, List.mem_append, List.mem_append, ih]
    have hg : xs.getD n 0 = xs[n] := by rw [List.getD_eq_getElem?_getD, List.getElem?_eq_getElem hlt]; rfl
    cases hnew : newAt xs n
    · have h2 : ¬ n = 0 ∧ xs.getD n 0 = xs.getD (n - 1) 0 := by simpa [newAt] using hnew
      have hlt' : n - 1 < xs.length := by omega
      have hg' : xs.getD (n - 1) 0 = xs[n - 1] := by rw [List.getD_eq_getElem?_getD, List.getElem?_eq_getElem hlt']; rfl
      rw [hg, hg'] at h2
      constructor
      · rintro (h | h)
        · exact .inl h
        · left
          rw [← ih]
          simp only [List.mem_singleton] at h
          rw [h, h2.2]
          exact List.mem_take_iff_getElem.2 ⟨n - 1, by omega, rfl⟩
      · rintro (h | h)
        · exact .inl h
        · simp at h
    · simp only [if_true, hg]
theorem mem_varsM {cs : List (List Int)} {v : Int} : v ∈ varsM cs ↔ ∃ c ∈ cs, ∃ l ∈ c, absI l = v := by
  unfold varsM
  rw [← mem_compact _ (Nat.le_refl _), List.take_length]
  simp only [sortI, List.mem_mergeSort, absAll, List.mem_flatMap, List.mem_map]

theorem leL_iff {x y : Int} : leL x y = true ↔ absI x < absI y ∨ absI x = absI y ∧ y ≤ x := by simp [leL]
def ltLP (x y : Int) : Prop := absI x < absI y ∨ absI x = absI y ∧ y < x
theorem sorted_sortL (c : List Int) : (sortL c).Pairwise fun x y => leL x y = true :=
  List.pairwise_mergeSort (le := leL) (fun x y z h1 h2 => by rw [leL_iff] at *; omega) (fun x y => by
    have h1 := leL_iff (x := x) (y := y)
    have h2 := leL_iff (x := y) (y := x)
    rw [Bool.or_eq_true, h1, h2]; omega) c
theorem compact_strict {xs : List Int} (hs : xs.Pairwise fun x y => leL x y = true) : ∀ n, n ≤ xs.length → (compactI xs n).Pairwise ltLP
  | 0, _ => by simp [compactI]
  | n + 1, hn => by
    have hlt : n < xs.length := by omega
    rw [compactI_next]
    have hg : xs.getD n 0 = xs[n] := by rw [List.getD_eq_getElem?_getD, List.getElem?_eq_getElem hlt]; rfl
    rw [List.pairwise_append]
    refine ⟨compact_strict hs n (by omega), by split <;> simp, fun y hy z hz => ?_⟩
    cases hnew : newAt xs n
    · rw [hnew] at hz; simp at hz
    · rw [hnew] at hz
      simp only [if_true, List.mem_singleton, hg] at hz
      subst hz
      rw [← mem_compact n (by omega)] at hy
      obtain ⟨j, hj, rfl⟩ := List.mem_take_iff_getElem.1 hy
      have hjn : j < n := by omega
      have hjl : j < xs.length := by omega
      have hp := List.pairwise_iff_getElem.1 hs
      have h1 := leL_iff.1 (hp j n hjl hlt hjn)
      by_cases he : xs[j] = xs[n]
      · exfalso
        have h2 : n = 0 ∨ ¬ xs.getD n 0 = xs.getD (n - 1) 0 := by simpa [newAt] using hnew
        have hlt' : n - 1 < xs.length := by omega
        have hg' : xs.getD (n - 1) 0 = xs[n - 1] := by rw [List.getD_eq_getElem?_getD, List.getElem?_eq_getElem hlt']; rfl
        rw [hg, hg'] at h2
        have h3 := leL_iff.1 (hp (n - 1) n hlt' hlt (by omega))
        have h4 : xs[j] = xs[n - 1] ∨ leL xs[j] xs[n - 1] = true := by
          rcases Nat.lt_or_ge j (n - 1) with h | h
          · exact .inr (hp j (n - 1) hjl hlt' h)
          · have e : j = n - 1 := by omega
            subst e; exact .inl rfl
        rw [he] at h4
        rcases h4 with h4 | h4
        · omega
        · have h4 := leL_iff.1 h4
          omega
      · unfold ltLP; omega

/-- Rising in the variables, all of them between 1 and 12. -/
def UpL (l : List Int) : Prop := l.Pairwise (fun x y => absI x < absI y) ∧ ∀ x ∈ l, 1 ≤ absI x ∧ absI x ≤ 12
theorem absI_small {x : Int} (h : 1 ≤ absI x ∧ absI x ≤ 12) : (x = absI x ∨ x = - absI x) ∧ wneg x = -x := by
  unfold absI wneg at *
  split at h <;> (try split at h) <;> (constructor) <;> (try split) <;> omega
theorem absI_neg {x : Int} (h : 1 ≤ absI x ∧ absI x ≤ 12) : absI (wneg x) = absI x := by
  have h2 := (absI_small h).2
  rw [h2]
  have h1 := (absI_small h).1
  unfold absI wneg at *
  (repeat' split) <;> omega
theorem abs_cases {x y : Int} (hx : 1 ≤ absI x ∧ absI x ≤ 12) (hy : 1 ≤ absI y ∧ absI y ≤ 12) (h : absI x = absI y) : x = y ∨ x = wneg y := by
  have h1 := (absI_small hx).1
  have h2 := absI_small hy
  rw [h2.2]
  omega
theorem up_clause {n : Int} {c : List Int} (h : clauseB n c = true) : UpL c := by
  have h' : clausesB n c = true ∧ varsB n = true := by simpa [clauseB] using h
  have hn := varsB_iff.1 h'.2
  have hb := clause_at h'.1 hn
  have hall : ∀ j, j < c.length → clOkAt n c j = true := by simpa [clausesB] using h'.1
  have gD : ∀ j (hj : j < c.length), c.getD j 0 = c[j] := fun j hj => by rw [List.getD_eq_getElem?_getD, List.getElem?_eq_getElem hj]; rfl
  have step : ∀ j (hj : j + 1 < c.length), absI c[j] < absI c[j + 1] := fun j hj => by
    have h0 := hall (j + 1) hj
    simp only [clOkAt, Bool.and_eq_true, Bool.or_eq_true, decide_eq_true_eq, Nat.add_sub_cancel] at h0
    rw [gD j (by omega), gD (j + 1) hj] at h0
    rcases h0.2 with h | h
    · omega
    · exact h
  refine ⟨List.pairwise_iff_getElem.2 fun i j hi hj hij => ?_, fun x hx => ?_⟩
  · have : ∀ d (hd : i + d + 1 < c.length), absI c[i] < absI c[i + d + 1] := fun d => by
      induction d with
      | zero => intro hd; exact step i hd
      | succ d ih => intro hd; have h1 := ih (by omega); have h2 := step (i + d + 1) hd; exact Int.lt_trans h1 h2
    have := this (j - i - 1) (by omega)
    simpa [show i + (j - i - 1) + 1 = j by omega] using this
  · obtain ⟨j, hj, rfl⟩ := List.getElem_of_mem hx
    have := hb j hj
    rw [gD j hj] at this
    omega
theorem UpL.filter {c : List Int} (h : UpL c) (p : Int → Bool) : UpL (c.filter p) := ⟨h.1.filter p, fun x hx => h.2 x (List.mem_filter.1 hx).1⟩
theorem UpL.tail {x : Int} {c : List Int} (h : UpL (x :: c)) : UpL c := ⟨(List.pairwise_cons.1 h.1).2, fun y hy => h.2 y (List.mem_cons_of_mem _ hy)⟩

theorem up_unique : ∀ {a b : List Int}, UpL a → UpL b → (∀ x, x ∈ a ↔ x ∈ b) → a = b
  | [], [], _, _, _ => rfl
  | [], y :: b, _, _, h => by have := (h y).2 (List.mem_cons_self ..); cases this
  | x :: a, [], _, _, h => by have := (h x).1 (List.mem_cons_self ..); cases this
  | x :: a, y :: b, ha, hb, h => by
    have pa := List.pairwise_cons.1 ha.1
    have pb := List.pairwise_cons.1 hb.1
    have hxy : x = y := by
      have h1 := (h x).1 (List.mem_cons_self ..)
      have h2 := (h y).2 (List.mem_cons_self ..)
      rcases List.mem_cons.1 h1 with e | h1
      · exact e
      · rcases List.mem_cons.1 h2 with e | h2
        · exact e.symm
        · have := pa.1 y h2
          have := pb.1 x h1
          omega
    subst hxy
    rw [up_unique ha.tail hb.tail fun z => ?_]
    constructor
    · intro hz
      rcases List.mem_cons.1 ((h z).1 (List.mem_cons_of_mem _ hz)) with e | h1
      · subst e; have := pa.1 z hz; omega
      · exact h1
    · intro hz
      rcases List.mem_cons.1 ((h z).2 (List.mem_cons_of_mem _ hz)) with e | h1
      · subst e; have := pb.1 z hz; omega
      · exact h1

theorem hasB_iff {c : List Int} {l : Int} : hasB c l = true ↔ l ∈ c := by
  unfold hasB
  rw [List.any_eq_true]
  constructor
  · rintro ⟨x, hx, h⟩; simp only [decide_eq_true_eq] at h; rw [← h]; exact hx
  · intro h; exact ⟨l, h, by simp⟩
theorem up_put {c : List Int} {l : Int} (hc : UpL c) (hl : 1 ≤ absI l ∧ absI l ≤ 12) (hne : ∀ y ∈ c, absI y ≠ absI l) : UpL (putM c l) := by
  refine ⟨?_, fun x hx => ?_⟩
  · unfold putM
    have htw := List.takeWhile_append_dropWhile (p := fun x => decide (absI x < absI l)) (l := c)
    have hp := hc.1
    rw [← htw, List.pairwise_append] at hp
    rw [List.pairwise_append, List.pairwise_cons]
    have hA : ∀ y ∈ c.takeWhile (fun x => decide (absI x < absI l)), absI y < absI l := fun y hy => by
      have := List.all_eq_true.1 (List.all_takeWhile (p := fun x => decide (absI x < absI l)) (l := c)) y hy
      simpa using this
    have hB : ∀ y ∈ c.dropWhile (fun x => decide (absI x < absI l)), absI l < absI y := fun y hy => by
      generalize hd : c.dropWhile (fun x => decide (absI x < absI l)) = d at *
      have hyc : y ∈ c := by rw [← htw]; exact List.mem_append_right _ hy
      have hnil : d ≠ [] := fun e => by rw [e] at hy; cases hy
      have hh := List.head_dropWhile_not (fun x => decide (absI x < absI l)) (l := c) (by rw [hd]; exact hnil)
      simp only [hd, decide_eq_false_iff_not] at hh
      have hge : absI (d.head hnil) ≤ absI y := by
        cases d with
        | nil => exact absurd rfl hnil
        | cons z r =>
          rcases List.mem_cons.1 hy with e | h
          · subst e; exact Int.le_refl _
          · have := (List.pairwise_cons.1 hp.2.1).1 y h
            simp only [List.head_cons]; omega
      have := hne y hyc
      omega
    refine ⟨hp.1, ⟨hB, hp.2.1⟩, fun a ha b hb => ?_⟩
    rcases List.mem_cons.1 hb with e | h
    · subst e; exact hA a ha
    · exact hp.2.2 a ha b h
  · rcases mem_putM.1 hx with h | h
    · exact hc.2 x h
    · rw [h]; exact hl
theorem joinM_none : ∀ (b out : List Int), (∃ x ∈ b, wneg x ∈ out) → joinM out b = none
  | [], _, ⟨x, hx, _⟩ => by cases hx
  | x :: b, out, ⟨y, hy, hm⟩ => by
    simp only [joinM]
    cases h : hasB out (wneg x)
    · simp only [Bool.false_eq_true, if_false]
      refine joinM_none b _ ?_
      rcases List.mem_cons.1 hy with e | hy
      · subst e; rw [hasB_iff.2 hm] at h; cases h
      · refine ⟨y, hy, ?_⟩
        split
        · exact hm
        · exact mem_putM.2 (.inl hm)
    · simp
theorem joinM_some : ∀ (b out : List Int), UpL out → UpL b → (∀ x ∈ b, wneg x ∉ out) → ∃ r, joinM out b = some r ∧ UpL r ∧ ∀ y, y ∈ r ↔ y ∈ out ∨ y ∈ b
  | [], out, ho, _, _ => ⟨out, rfl, ho, fun y => by simp⟩
  | x :: b, out, ho, hb, hn => by
    have hx := hb.2 x (List.mem_cons_self ..)
    have h1 : hasB out (wneg x) = false := by
      cases h : hasB out (wneg x)
      · rfl
      · exact absurd (hasB_iff.1 h) (hn x (List.mem_cons_self ..))
    have pb := List.pairwise_cons.1 hb.1
    simp only [joinM, h1, Bool.false_eq_true, if_false]
    cases h2 : hasB out x
    · have h2' : x ∉ out := fun h => by rw [hasB_iff.2 h] at h2; cases h2
      simp only [Bool.false_eq_true, if_false]
      have hup : UpL (putM out x) := up_put ho hx fun y hy e => by
        rcases abs_cases (ho.2 y hy) hx e with e | e
        · exact h2' (e ▸ hy)
        · exact hn x (List.mem_cons_self ..) (e ▸ hy)
      obtain ⟨r, hr, hru, hrm⟩ := joinM_some b _ hup hb.tail fun y hy hm => by
        rcases mem_putM.1 hm with h | h
        · exact hn y (List.mem_cons_of_mem _ hy) h
        · have h3 := pb.1 y hy
          have h4 := absI_neg (hb.2 y (List.mem_cons_of_mem _ hy))
          rw [h] at h4; omega
      refine ⟨r, hr, hru, fun y => ?_⟩
      rw [hrm y, mem_putM, List.mem_cons]
      constructor
      · rintro ((h | h) | h)
        · exact .inl h
        · exact .inr (.inl h)
        · exact .inr (.inr h)
      · rintro (h | h | h)
        · exact .inl (.inl h)
        · exact .inl (.inr h)
        · exact .inr h
    · have h2' := hasB_iff.1 h2
      simp only [if_true]
      obtain ⟨r, hr, hru, hrm⟩ := joinM_some b out ho hb.tail fun y hy => hn y (List.mem_cons_of_mem _ hy)
      refine ⟨r, hr, hru, fun y => ?_⟩
      rw [hrm y, List.mem_cons]
      constructor
      · rintro (h | h)
        · exact .inl h
        · exact .inr (.inr h)
      · rintro (h | h | h)
        · exact .inl h
        · rw [h]; exact .inl h2'
        · exact .inr h

theorem adj_opp {u : List Int} (hu : u.Pairwise ltLP) (hb : ∀ x ∈ u, 1 ≤ absI x ∧ absI x ≤ 12) : adjB u = true ↔ ∃ x ∈ u, wneg x ∈ u := by
  have gD : ∀ j (hj : j < u.length), u.getD j 0 = u[j] := fun j hj => by rw [List.getD_eq_getElem?_getD, List.getElem?_eq_getElem hj]; rfl
  constructor
  · intro h
    simp only [adjB, List.any_eq_true, List.mem_range, adjAt, Bool.and_eq_true, decide_eq_true_eq] at h
    obtain ⟨i, hi, h0, he⟩ := h
    have hi' : i - 1 < u.length := by omega
    rw [gD i hi, gD _ hi'] at he
    exact ⟨u[i - 1], List.getElem_mem hi', he ▸ List.getElem_mem hi⟩
  · rintro ⟨x, hx, hn⟩
    have hp := List.pairwise_iff_getElem.1 hu
    have bx := hb x hx
    have wx := absI_small bx
    have an := absI_neg bx
    obtain ⟨i, hi, rfl⟩ := List.getElem_of_mem hx
    obtain ⟨j, hj, hje⟩ := List.getElem_of_mem hn
    have key : ∀ i j (hi : i < u.length) (hj : j < u.length), i < j → absI u[i] = absI u[j] → u[j] = wneg u[i] → adjB u = true := by
      intro i j hi hj hij hae he
      have hji : j = i + 1 := by
        rcases Nat.lt_or_ge (i + 1) j with h | h
        · exfalso
          have hk : i + 1 < u.length := by omega
          have h1 := hp i (i + 1) hi hk (by omega)
          have h2 := hp (i + 1) j hk hj h
          unfold ltLP at h1 h2
          have b1 := hb _ (List.getElem_mem hi)
          have b2 := hb _ (List.getElem_mem hk)
          have b3 := hb _ (List.getElem_mem hj)
          have c1 := absI_small b1
          have c2 := absI_small b2
          have c3 := absI_small b3
          omega
        · omega
      subst hji
      exact adjB_bad hj (by simp only [adjAt, gD _ hj, Nat.add_sub_cancel, gD _ hi, he]; simp)
    rcases Nat.lt_trichotomy i j with h | h | h
    · exact key i j hi hj h (by rw [hje, an]) hje
    · exfalso; subst h; omega
    · refine key j i hj hi h (by rw [hje, an]) ?_
      rw [hje]
      have bj := hb _ (List.getElem_mem hj)
      rw [hje] at bj
      have := (absI_small bj).2
      omega

theorem clause_join {a b : List Int} (ha : UpL a) (hb : UpL b) : clauseM (a ++ b) = joinM a b := by
  have hs := compact_strict (sorted_sortL (a ++ b)) (sortL (a ++ b)).length (Nat.le_refl _)
  have hm : ∀ x, x ∈ uniqL (a ++ b) ↔ x ∈ a ∨ x ∈ b := fun x => by
    unfold uniqL
    rw [← mem_compact _ (Nat.le_refl _), List.take_length, mem_sortL, List.mem_append]
  have hbd : ∀ x ∈ uniqL (a ++ b), 1 ≤ absI x ∧ absI x ≤ 12 := fun x hx => by
    rcases (hm x).1 hx with h | h
    · exact ha.2 x h
    · exact hb.2 x h
  have hadj := adj_opp hs hbd
  unfold clauseM
  by_cases hopp : ∃ x ∈ b, wneg x ∈ a
  · have h1 : adjB (uniqL (a ++ b)) = true := by
      obtain ⟨x, hx, hw⟩ := hopp
      exact hadj.2 ⟨x, (hm x).2 (.inr hx), (hm _).2 (.inl hw)⟩
    rw [joinM_none b a hopp, h1]; rfl
  · have hn : ∀ x ∈ b, wneg x ∉ a := fun x hx hw => hopp ⟨x, hx, hw⟩
    have pw : ∀ {l : List Int}, UpL l → ∀ {x y : Int}, x ∈ l → y ∈ l → absI x = absI y → x = y := fun {l} hl {x y} hx hy e => by
      obtain ⟨i, hi, rfl⟩ := List.getElem_of_mem hx
      obtain ⟨j, hj, rfl⟩ := List.getElem_of_mem hy
      have hp := List.pairwise_iff_getElem.1 hl.1
      rcases Nat.lt_trichotomy i j with h | h | h
      · have := hp i j hi hj h; omega
      · subst h; rfl
      · have := hp j i hj hi h; omega
    have hno : ¬ ∃ x ∈ uniqL (a ++ b), wneg x ∈ uniqL (a ++ b) := by
      rintro ⟨x, hx, hw⟩
      have bx := hbd x hx
      have an := absI_neg bx
      have ws := (absI_small bx).2
      have xs := (absI_small bx).1
      have nn : wneg (wneg x) = x := by
        have := (absI_small (x := wneg x) (by rw [an]; exact bx)).2
        omega
      rcases (hm x).1 hx with h1 | h1 <;> rcases (hm _).1 hw with h2 | h2
      · have := pw ha h1 h2 an.symm; omega
      · exact hn _ h2 (by rw [nn]; exact h1)
      · exact hn _ h1 h2
      · have := pw hb h1 h2 an.symm; omega
    have h1 : adjB (uniqL (a ++ b)) = false := by
      cases h : adjB (uniqL (a ++ b))
      · rfl
      · exact absurd (hadj.1 h) hno
    obtain ⟨r, hr, hru, hrm⟩ := joinM_some b a ha hb hn
    rw [hr, h1]
    have hup : UpL (uniqL (a ++ b)) := by
      refine ⟨?_, hbd⟩
      refine List.Pairwise.imp_of_mem (fun {x y} hx hy h => ?_) hs
      rcases h with h | ⟨h, h'⟩
      · exact h
      · exfalso
        rcases abs_cases (hbd x hx) (hbd y hy) h with e | e
        · omega
        · exact hno ⟨y, hy, e ▸ hx⟩
    simp only [Bool.false_eq_true, if_false, Option.some.injEq]
    exact up_unique hup hru fun x => by rw [hm x, hrm x]

theorem resolve_same {n : Int} {a b : List Int} {v : Int} (ha : clauseB n a = true) (hb : clauseB n b = true) : resolveN a b v = resolveM a b v := by
  unfold resolveN resolveM
  split
  · exact clause_join ((up_clause ha).filter _) ((up_clause hb).filter _)
  · rfl
end Go.Proofs.YtogdmmccbeipkaaGreat.A
