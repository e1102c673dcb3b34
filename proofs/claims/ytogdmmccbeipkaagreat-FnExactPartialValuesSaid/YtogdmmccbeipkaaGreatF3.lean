/- Contracts: new lists. -/
import Derived.Test.YtogdmmccbeipkaaGreatF2
set_option linter.all false
namespace Go.Proofs.YtogdmmccbeipkaaGreat.A
open Go Go.Abs
set_option pp.maxSteps 3000
set_option pp.deepTerms true
set_option linter.unusedSimpArgs false

theorem l1Own_f (c : List Int) (hl : Len c) (h : Heap) (nx : Nat) : CallsF Tryz.prog 139 [ints c] h nx 1 (c.map fun x => [.int x]) := by
  refine CallsF.of_pure (by omega) (pureE_cells c) (by simp [go_sem]) (in139 ?_) h nx
  simp [go_sem, Tryz.f139, ints]
  exact hl

theorem Clone_f (c : List Int) (hl : Len c) (h : Heap) (nx : Nat) : CallsF Tryz.prog 141 [ints c] h nx 1 (c.map fun x => [.int x]) := by
  refine CallsF.of_pure (by omega) (pureE_cells c) (by simp [go_sem]) (in141 ?_) h nx
  simp [go_sem, Tryz.f141, ints]
  exact hl

theorem l2Without_q (c : List Int) (v : Int) (hl : Len c) (hc : InRs c) (h : Heap) (nx : Nat) : CallsQ Tryz.prog 153 [ints c, .int v] h nx (ints (withoutV c v)) := by
  refine CallsQ.of_pure 1 (by simp [go_sem]) (in153 ?_) h nx
  simp [go_sem, Tryz.f153, ints]
  refine ⟨{p : Nat × List Int // p.1 ≤ c.length ∧ p.2 = withoutV (c.take p.1) v}, fun p => ⟨E [(0, ints c), (1, .int v), (4, .nils), (5, .sl 0 p.1.2.length 0 p.1.2.length), (6, .int p.1.1)], Hp [(0, ⟨1, p.1.2.map fun x => [.int x]⟩)], 1, 29⟩, fun p => c.length - p.1.1, ⟨(0, []), by simp [withoutV]⟩, Leads.E (by simp [E_cons, E_nil, ints]) rfl rfl, ?_⟩
  rintro ⟨⟨i, w⟩, hi, hw⟩
  unfold Len at hl
  simp only at hi hw
  by_cases hlt : i < c.length
  · simp [go_sem, ints, hlt]
    refine (l2Var_q _ (hc _ (List.getElem_mem hlt)) _ _).call ?_
    by_cases h1 : absI c[i] = v
    · simp [go_sem, h1]
      exact ⟨inR_of (by omega) (by omega), ⟨(i + 1, w), by omega, by simp only [hw, without_skip hlt h1]⟩, by simp; omega, Leads.E (by simp [E_cons, E_nil, ints]) rfl rfl⟩
    · simp [go_sem, h1, hlt]
      have hle : w.length ≤ i := by rw [hw]; exact without_le
      refine ⟨by unfold roomy; omega, inR_of (by omega) (by omega), ⟨(i + 1, w ++ [c[i]]), by omega, by simp only [hw, without_next hlt h1]⟩, by simp; omega, Leads.E (by simp [E_cons, E_nil, ints]) (by simp) rfl⟩
  · simp [go_sem, ints, hlt]
    exact view_ints 0 (k := 1) (xs := withoutV c v) (by simp [go_sem, hw, List.take_of_length_le (Nat.le_of_not_lt hlt)]) (by rw [hw, List.take_of_length_le (Nat.le_of_not_lt hlt)])

theorem l2Put_q (c : List Int) (v : Int) (hl : c.length ≤ 1099511627000) (hc : InRs c) (hv : InR v) (h : Heap) (nx : Nat) : CallsQ Tryz.prog 172 [ints c, .int v] h nx (ints (putM c v)) := by
  refine CallsQ.of_pure 1 (by simp [go_sem]) (in172 ?_) h nx
  simp [go_sem, Tryz.f172, ints]
  refine ⟨{i : Nat // i ≤ (c.takeWhile fun x => decide (absI x < absI v)).length}, fun i => ⟨E [(0, ints c), (1, .int v), (4, .nils), (5, .int i.1)], Hp [], 0, 33⟩, fun i => c.length - i.1, ⟨0, by simp⟩, Leads.E (by simp [E_cons, E_nil, ints]) rfl rfl, ?_⟩
  rintro ⟨i, hi⟩
  have htw := List.takeWhile_append_dropWhile (p := fun x => decide (absI x < absI v)) (l := c)
  have hi' : i ≤ c.length := Nat.le_trans hi (by rw [← congrArg List.length htw, List.length_append]; omega)
  have htail : c.take i = (c.takeWhile fun x => decide (absI x < absI v)).take i := by
    conv => lhs; rw [← htw]
    rw [List.take_append_of_le_length hi]
  have fin : i = (c.takeWhile fun x => decide (absI x < absI v)).length → c.take i ++ v :: c.drop i = putM c v := fun e => by
    have h1 : c.take i = c.takeWhile fun x => decide (absI x < absI v) := by rw [htail, e, List.take_length]
    have h2 : c.drop i = c.dropWhile fun x => decide (absI x < absI v) := by
      conv => lhs; rw [← htw]
      rw [e, List.drop_append_length]
    rw [h1, h2, putM]
  by_cases hlt : i < c.length
  · simp [go_sem, ints, hlt]
    refine (l2Var_q _ (hc _ (List.getElem_mem hlt)) _ _).call ?_
    simp [go_sem]
    refine (l2Var_q _ hv _ _).call ?_
    by_cases h1 : absI c[i] < absI v
    · simp [go_sem, h1]
      exact ⟨inR_of (by omega) (by omega), ⟨i + 1, takeWhile_next htail hlt (by simp [h1]) hi⟩, by simp; omega, Leads.E (by simp [E_cons, E_nil, ints]) rfl rfl⟩
    · simp [go_sem, h1]
      refine ⟨_, ⟨hi', ints_take c i⟩, _, _, _, l1Own_f (c.take i) (by unfold Len; rw [List.length_take]; omega) _ _, ?_⟩
      simp [go_sem]
      refine ⟨by unfold roomy; omega, _, ⟨hi', rfl⟩, ?_⟩
      simp [go_sem]
      have e : i = (c.takeWhile fun x => decide (absI x < absI v)).length := Nat.le_antisymm hi (Nat.le_of_not_lt fun h2 => by
        have h3 := takeWhile_getElem h2
        simp [h1] at h3)
      refine ⟨⟨by unfold roomy; omega, drop_cells c i⟩, ?_⟩
      exact view_ints 0 (k := 1) (xs := putM c v) (by rw [← fin e]; simp [go_sem]) (by rw [← fin e]; simp; omega)
  · simp [go_sem, ints, hlt]
    refine ⟨_, ⟨hi', ints_take c i⟩, _, _, _, l1Own_f (c.take i) (by unfold Len; rw [List.length_take]; omega) _ _, ?_⟩
    simp [go_sem]
    refine ⟨by unfold roomy; omega, _, ⟨hi', rfl⟩, ?_⟩
    simp [go_sem]
    have e : i = (c.takeWhile fun x => decide (absI x < absI v)).length := Nat.le_antisymm hi (by
      have := congrArg List.length htw
      rw [List.length_append] at this; omega)
    refine ⟨⟨by unfold roomy; omega, drop_cells c i⟩, ?_⟩
    exact view_ints 0 (k := 1) (xs := putM c v) (by rw [← fin e]; simp [go_sem]) (by rw [← fin e]; simp; omega)

theorem l1Own_q (c : List Int) (hl : Len c) (h : Heap) (nx : Nat) : CallsQ Tryz.prog 139 [ints c] h nx (ints c) := by
  refine CallsQ.of_pure 1 (by simp [go_sem]) (in139 ?_) h nx
  simp [go_sem, Tryz.f139, ints]
  exact ⟨hl, view_ints 0 (k := 1) (by simp [go_sem]) rfl⟩

theorem l2Join_q (a b : List Int) (hl : a.length + b.length ≤ 1099511627000) (ha : InRs a) (hb : InRs b) (h : Heap) (nx : Nat) : CallsQ Tryz.prog 152 [ints a, ints b] h nx (joinR (joinM a b)) := by
  refine CallsQ.of_pure 1 (by simp [go_sem]) (in152 ?_) h nx
  simp [go_sem, Tryz.f152]
  refine (l1Own_q a (by unfold Len; omega) _ _).call ?_
  simp [go_sem]
  refine ⟨{p : Nat × List Int // p.1 ≤ b.length ∧ joinM a b = joinM p.2 (b.drop p.1) ∧ InRs p.2 ∧ p.2.length ≤ a.length + p.1}, fun p => ⟨E [(0, ints a), (1, ints b), (4, .nils), (5, .bool false), (6, ints p.1.2), (7, .int p.1.1)], Hp [], 0, 38⟩, fun p => b.length - p.1.1, ⟨(0, a), by simp [ha]⟩, Leads.E (by simp [E_cons, E_nil]) rfl rfl, ?_⟩
  rintro ⟨⟨i, w⟩, hi, hj, hw, hwl⟩
  simp only at hi hj hw hwl
  have hlw : Len w := by unfold Len; omega
  by_cases hlt : i < b.length
  · have hx : InR b[i] := hb _ (List.getElem_mem hlt)
    have hd : b.drop i = b[i] :: b.drop (i + 1) := List.drop_eq_getElem_cons hlt
    rw [hd] at hj
    simp [go_sem, ints, hlt, hx]
    refine (l2Has_q w _ hlw _ _).call ?_
    cases h1 : hasB w (wneg b[i])
    · simp [go_sem, hlt]
      refine (l2Has_q w _ hlw _ _).call ?_
      cases h2 : hasB w b[i]
      · simp [go_sem, hlt]
        refine (l2Put_q w _ (by omega) hw hx _ _).call ?_
        simp [go_sem]
        refine ⟨inR_of (by omega) (by omega), ⟨(i + 1, putM w b[i]), by omega, ?_, ?_, ?_⟩, by simp; omega, Leads.E (by simp [E_cons, E_nil, ints]) rfl rfl⟩
        · rw [hj]; simp [joinM, h1, h2]
        · exact putM_inRs hw hx
        · rw [putM_length]; omega
      · simp [go_sem]
        refine ⟨inR_of (by omega) (by omega), ⟨(i + 1, w), by omega, ?_, hw, by simp only; omega⟩, by simp; omega, Leads.E (by simp [E_cons, E_nil, ints]) rfl rfl⟩
        rw [hj]; simp [joinM, h1, h2]
    · have hr : joinM a b = none := by rw [hj]; simp [joinM, h1]
      simp [go_sem, view, vw, vwL, hr, joinR, ints]
  · have hr : joinM a b = some w := by rw [hj, List.drop_of_length_le (by omega)]; rfl
    simp [go_sem, ints, hlt, view, vw, vwL, hr, joinR]

theorem l2Resolve_q (a b : List Int) (v : Int) (hl : a.length + b.length ≤ 1099511627000) (ha : InRs a) (hb : InRs b) (hv : InR v) (h : Heap) (nx : Nat) : CallsQ Tryz.prog 140 [ints a, ints b, .int v] h nx (joinR (resolveM a b v)) := by
  refine CallsQ.of_pure 1 (by simp [go_sem]) (in140 ?_) h nx
  have h1 : Len a := by unfold Len; omega
  have h2 : Len b := by unfold Len; omega
  simp [go_sem, Tryz.f140]
  refine (l2Has_q a v h1 _ _).call ?_
  cases h3 : hasB a v
  · have hr : resolveM a b v = none := by simp [resolveM, h3]
    simp [go_sem, hr, joinR, view, vw, vwL, ints]
  · simp [go_sem, hv]
    refine (l2Has_q b _ h2 _ _).call ?_
    cases h4 : hasB b (wneg v)
    · have hr : resolveM a b v = none := by simp [resolveM, h4]
      simp [go_sem, hr, joinR, view, vw, vwL, ints]
    · have hr : resolveM a b v = joinM (withoutV a v) (withoutV b v) := by simp [resolveM, h3, h4]
      have e1 := without_length a v
      have e2 := without_length b v
      simp [go_sem]
      refine (l2Without_q a v h1 ha _ _).call ?_
      simp [go_sem]
      refine (l2Without_q b v h2 hb _ _).call ?_
      simp [go_sem]
      refine (l2Join_q _ _ (by omega) (without_inRs ha) (without_inRs hb) _ _).call ?_
      rw [hr]
      cases joinM (withoutV a v) (withoutV b v) <;> simp [go_sem, joinR, view, vw, vwL, ints]
end Go.Proofs.YtogdmmccbeipkaaGreat.A
