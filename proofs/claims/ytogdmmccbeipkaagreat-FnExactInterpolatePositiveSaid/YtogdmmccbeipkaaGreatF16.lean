/- Contracts: resolvents, the program. -/
import Derived.Test.YtogdmmccbeipkaaGreatF15
set_option linter.all false
namespace Go.Proofs.YtogdmmccbeipkaaGreat.A
open Go Go.Abs Go.Shelf
set_option pp.maxSteps 3000
set_option pp.deepTerms true
set_option linter.unusedSimpArgs false
set_option maxRecDepth 20000

theorem withoutVar_q (c : List Int) (v : Int) (hl : Len c) (hc : InRs c) (h : Heap) (nx : Nat) : CallsQ Tryz.prog 156 [ints c, .int v] h nx (ints (withoutV c v)) := by
  refine CallsQ.of_pure 1 (by simp [go_sem]) (in156 ?_) h nx
  simp [go_sem, Tryz.f156]
  refine (Clone_f c hl _ _).call ?_
  simp [go_sem]
  refine DeleteFunc_a c _ [.ptr 0 1 0 0] [.iptr [.int v]] (fun x => decide (absI x = v)) hl 1 _ _ (by simp [go_sem]) (fun es => by simp [upd, Hp_cons, view, vw, AV.pure]) (fun x hx => withoutVar1_q x v (hc x hx) _ _) (by simp [go_sem]) _ fun ys hy1 hy2 => ?_
  simp [go_sem]
  rw [view_ints_take 0 (k := 1) (xs := ys) (by simp [go_sem]) (by omega), hy2]
  rfl

theorem Concat_q (a b : List Int) (hl : a.length + b.length ≤ 1099511627776) (h : Heap) (nx : Nat) : CallsQ Tryz.prog 155 [intss [a, b]] h nx (ints (a ++ b)) :=
  CallsQ.of_pure 1 (by simp [go_sem]) ((Concat_f a b hl (Hp []) 0).call (view_ints 0 (k := 1) (xs := a ++ b) (by simp [upd]) (by simp))) h nx

def adjAt (u : List Int) (i : Nat) : Bool := decide (0 < i) && decide (u.getD i 0 = wneg (u.getD (i - 1) 0))
def adjB (u : List Int) : Bool := (List.range u.length).any (adjAt u)
def uniqL (c : List Int) : List Int := compactI (sortL c) (sortL c).length
def clauseM (c : List Int) : Option (List Int) := if adjB (uniqL c) then none else some (uniqL c)
def joinN : Option (List Int) → AV
  | some c => .tup [ints c, .bool true]
  | none => .tup [.nils, .bool false]
theorem mem_sortL {c : List Int} {x : Int} : x ∈ sortL c ↔ x ∈ c := List.mem_mergeSort
theorem mem_compactI {xs : List Int} {n : Nat} (hn : n ≤ xs.length) {x : Int} (h : x ∈ compactI xs n) : x ∈ xs := by
  simp only [compactI, List.mem_map, List.mem_filter, List.mem_range] at h
  obtain ⟨i, ⟨h1, _⟩, rfl⟩ := h
  have : i < xs.length := by omega
  rw [List.getD_eq_getElem?_getD, List.getElem?_eq_getElem this]
  exact List.getElem_mem this
theorem uniqL_inRs {c : List Int} (hc : InRs c) : InRs (uniqL c) := fun x hx => hc x (mem_sortL.1 (mem_compactI (Nat.le_refl _) hx))
theorem uniqL_length (c : List Int) : (uniqL c).length ≤ c.length := by
  have := compactI_length (sortL c) (sortL c).length
  simpa [uniqL, sortL] using this
theorem adjB_bad {u : List Int} {i : Nat} (hi : i < u.length) (h : adjAt u i = true) : adjB u = true := by
  simp only [adjB, List.any_eq_true, List.mem_range]; exact ⟨i, hi, h⟩
theorem adjB_good {u : List Int} (h : ∀ j, j < u.length → adjAt u j = false) : adjB u = false := by
  simp only [adjB, List.any_eq_false, List.mem_range]; intro j hj; simp [h j hj]

theorem clause_q (c : List Int) (hl : Len c) (hc : InRs c) (h : Heap) (nx : Nat) : CallsQ Tryz.prog 154 [ints c] h nx (joinN (clauseM c)) := by
  refine CallsQ.of_pure 1 (by simp [go_sem]) (in154 ?_) h nx
  simp [go_sem, Tryz.f154]
  refine (Clone_f c hl _ _).call ?_
  simp [go_sem]
  refine SortFunc_a c hl hc 0 _ _ (by simp [go_sem]) _ ?_
  simp [go_sem]
  have hsl : (sortL c).length = c.length := by simp [sortL]
  have hC := Compact_a (sortL c) (by unfold Len at *; omega) 0
  rw [hsl] at hC
  refine hC _ _ (by simp [go_sem]) _ fun ys hy1 hy2 => ?_
  simp [go_sem]
  have hu : compactI (sortL c) c.length = uniqL c := by rw [uniqL, hsl]
  rw [hu] at hy2 ⊢
  have hul := uniqL_length c
  have huR := uniqL_inRs hc
  unfold Len at hl
  generalize hU : uniqL c = u at *
  have hyl : ys.length = c.length := by omega
  have hat : ∀ j, ∀ hj : j < u.length, ys[j]? = some u[j] := fun j hj => by
    have e : (ys.take u.length)[j]? = u[j]? := by rw [hy2]
    rw [List.getElem?_take, if_pos hj, List.getElem?_eq_getElem hj] at e
    exact e
  have h01 : ∀ j, j < 1 → adjAt u j = false := fun j hj => by
    have : j = 0 := by omega
    subst this; rfl
  refine ⟨{i : Nat // (1 ≤ i ∧ (i ≤ u.length ∨ i = 1)) ∧ ∀ j, j < i → j < u.length → adjAt u j = false}, fun i => ⟨E [(0, ints c), (2, .nils), (3, .bool false), (4, .sl 0 c.length 0 u.length), (5, .int i.1)], Hp [(0, ⟨1, ys.map fun x => [.int x]⟩)], 1, 30⟩, fun i => u.length - i.1, ⟨1, ⟨by omega, .inr rfl⟩, fun j hj _ => h01 j hj⟩, Leads.E (by simp [E_cons, E_nil]) (by simp) rfl, ?_⟩
  rintro ⟨i, ⟨hi1, hi2⟩, hok⟩
  by_cases hlt : i < u.length
  · have hlt' : i - 1 < u.length := by omega
    have a1 := hat i hlt
    have a2 := hat (i - 1) hlt'
    have hR1 : InR u[i - 1] := huR _ (List.getElem_mem hlt')
    have ei : ((i : Int) - 1).toNat = i - 1 := by omega
    have hb1 : (i : Int) - 1 < (u.length : Int) := by omega
    simp [go_sem, hlt, hyl, a1]
    refine ⟨inR_of (by omega) (by omega), ⟨by omega, hb1⟩, ?_⟩
    simp [go_sem, hyl, a2, ei, hR1]
    by_cases heq : u[i] = wneg u[i - 1]
    · have hadj : adjB u = true := adjB_bad hlt (by simp [adjAt, List.getD_eq_getElem?_getD, hlt, hlt', heq]; omega)
      simp [go_sem, heq, view, vw, vwL, clauseM, hU, hadj, joinN]
    · have hadj : adjAt u i = false := by simp [adjAt, List.getD_eq_getElem?_getD, hlt, hlt', heq]
      simp [go_sem, heq]
      refine ⟨inR_of (by omega) (by omega), ⟨i + 1, ⟨by omega, .inl (by omega)⟩, fun j hj hj2 => ?_⟩, by simp; omega, Leads.E (by simp [E_cons, E_nil]) rfl rfl⟩
      rcases Nat.lt_succ_iff_lt_or_eq.1 hj with h2 | h2
      · exact hok j h2 hj2
      · rw [h2]; exact hadj
  · have hadj : adjB u = false := adjB_good fun j hj => hok j (by omega) hj
    have hv : view 1 (Hp [(0, ⟨1, ys.map fun x => [.int x]⟩)]) (.sl 0 c.length 0 u.length) = ints u := by
      rw [view_ints_take 0 (k := 1) (xs := ys) (by simp [go_sem]) (by omega), hy2]
    simp [go_sem, hlt, clauseM, hU, hadj, joinN]
    show AV.tup [view 1 _ _, view 1 _ _] = _
    rw [hv]
    rfl

def resolveN (a b : List Int) (v : Int) : Option (List Int) := if hasB a v && hasB b (wneg v) then clauseM (withoutV a v ++ withoutV b v) else none
theorem resolve_q (a b : List Int) (v : Int) (hl : a.length + b.length ≤ 1099511627000) (ha : InRs a) (hb : InRs b) (hv : InR v) (h : Heap) (nx : Nat) : CallsQ Tryz.prog 143 [ints a, ints b, .int v] h nx (joinN (resolveN a b v)) := by
  refine CallsQ.of_pure 1 (by simp [go_sem]) (in143 ?_) h nx
  have hla : Len a := by unfold Len; omega
  have hlb : Len b := by unfold Len; omega
  simp [go_sem, Tryz.f143]
  refine (Contains_q a v hla _ _).call ?_
  cases h1 : hasB a v
  · simp [go_sem, view, vw, vwL, resolveN, h1, joinN]
  simp [go_sem, hv]
  refine (Contains_q b _ hlb _ _).call ?_
  cases h2 : hasB b (wneg v)
  · simp [go_sem, view, vw, vwL, resolveN, h1, h2, joinN]
  have e1 := without_length a v
  have e2 := without_length b v
  simp [go_sem]
  refine (withoutVar_q a v hla ha _ _).call ?_
  simp [go_sem]
  refine (withoutVar_q b v hlb hb _ _).call ?_
  simp [go_sem]
  refine (Concat_q (withoutV a v) (withoutV b v) (by omega) _ _).call ?_
  simp [go_sem]
  have hR : InRs (withoutV a v ++ withoutV b v) := fun x hx => by
    rcases List.mem_append.1 hx with hx | hx
    · exact without_inRs ha x hx
    · exact without_inRs hb x hx
  refine (clause_q _ (by unfold Len; simp; omega) hR _ _).call ?_
  have er : resolveN a b v = clauseM (withoutV a v ++ withoutV b v) := by simp [resolveN, h1, h2]
  rw [er]
  cases clauseM (withoutV a v ++ withoutV b v) <;> simp [go_sem, view, vw, vwL, joinN]
end Go.Proofs.YtogdmmccbeipkaaGreat.A
