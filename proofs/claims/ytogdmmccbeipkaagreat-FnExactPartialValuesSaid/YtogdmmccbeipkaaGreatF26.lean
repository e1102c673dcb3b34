/- Contracts: values of circuits, the program's PartialValues. -/
import Derived.Test.YtogdmmccbeipkaaGreatP3
set_option linter.all false
namespace Go.Proofs.YtogdmmccbeipkaaGreat.A
open Go Go.Abs Go.Shelf
set_option pp.maxSteps 3000
set_option pp.deepTerms true
set_option linter.unusedSimpArgs false
set_option maxRecDepth 20000

theorem bitsOk_q (n bits : Int) (hn : 0 ≤ n ∧ n ≤ 12) (h : Heap) (nx : Nat) : CallsQ Tryz.prog 56 [.int n, .int bits] h nx (.bool (bitsB n bits)) := by
  refine CallsQ.of_pure 1 rfl (in56 ?_) h nx
  have hR := shl_R hn
  have hn0 := hn.1
  simp [go_sem, Tryz.f56, hR, hn0]
  refine (within_q _ _ _ _ _).call ?_
  simp [go_sem, view, vw, bitsB]
theorem l6Bits_q (n bits : Int) (hn : 0 ≤ n ∧ n ≤ 12) (h : Heap) (nx : Nat) : CallsQ Tryz.prog 53 [.int n, .int bits] h nx (.bool (bitsB n bits)) := by
  refine CallsQ.of_pure 1 rfl (in53 ?_) h nx
  have hR := shl_R hn
  have hn0 := hn.1
  simp [go_sem, Tryz.f53, hR, hn0]
  refine (l1In_q _ _ _ _ _).call ?_
  simp [go_sem, view, vw, bitsB]

def bools (b : List Bool) : AV := .lst (b.map fun x => [.bool x])
/-- Values as they are made: the later ones are false. -/
def partW (bits : Int) (g : List G3) (i : Nat) : List Bool := valsM bits (g.take i) [] ++ List.replicate (g.length - i) false
theorem vals_len (bits : Int) (g : List G3) {i : Nat} (hi : i ≤ g.length) : (valsM bits (g.take i) []).length = i := by rw [valsM_length]; simp; omega
theorem partW_length (bits : Int) (g : List G3) {i : Nat} (hi : i ≤ g.length) : (partW bits g i).length = g.length := by
  unfold partW; rw [List.length_append, vals_len bits g hi, List.length_replicate]; omega
theorem partW_set {bits : Int} {g : List G3} {i : Nat} (hi : i < g.length) {v : Bool} (hv : v = gvB (valsM bits (g.take i) []) bits g[i]) : (partW bits g i).set i v = partW bits g (i + 1) := by
  unfold partW
  rw [valsM_take hi, ← hv, show g.length - i = (g.length - (i + 1)) + 1 by omega, List.replicate_succ, List.set_append, if_neg (by rw [vals_len bits g (by omega)]; omega), vals_len bits g (by omega), Nat.sub_self]
  simp
theorem partW_at {bits : Int} {g : List G3} {i : Nat} (hi : i < g.length) (h : i < (partW bits g i).length) : (partW bits g i)[i] = false := by
  simp only [partW]
  rw [List.getElem_append_right (by rw [vals_len bits g (by omega)]; exact Nat.le_refl _), List.getElem_replicate]
theorem partW_rd {bits : Int} {g : List G3} {i j : Nat} (hj : j < i) (hi : i ≤ g.length) (h : j < (partW bits g i).length) : (valsM bits (g.take i) [])[j]?.getD false = (partW bits g i)[j] := by
  have h1 : j < (valsM bits (g.take i) []).length := by rw [vals_len bits g hi]; exact hj
  simp only [partW]
  rw [List.getElem_append_left h1, List.getElem?_eq_getElem h1]; rfl
theorem partW_full (bits : Int) (g : List G3) : partW bits g g.length = valsM bits g [] := by
  unfold partW; rw [List.take_length, Nat.sub_self]; simp

theorem view_bools (d : Nat) {h : Heap} {n k L : Nat} {xs : List Bool} (hn : h n = some ⟨k, xs.map fun x => [.bool x]⟩) (hL : L = xs.length) : view (d + 1) h (.sl n L 0 L) = bools xs := by
  subst hL
  have : ∀ x : Bool, view d h (.bool x) = .bool x := fun x => by cases d <;> rfl
  simp only [view, vw, hn, List.length_map, if_true, List.drop_zero]
  rw [List.take_of_length_le (by simp)]
  simp [bools, Function.comp_def, this]

theorem gateValues_q (g : List G3) (bits : Int) (hg : GatesFrom 0 g) (hl : g.length ≤ 100000) (h : Heap) (nx : Nat) :
    CallsQ Tryz.prog 57 [gatesA g, .int bits] h nx (bools (valsM bits g [])) := by
  refine CallsQ.of_pure 1 (by simp [go_sem, pure_gates]) (in57 ?_) h nx
  simp [go_sem, Tryz.f57, gatesA]
  refine ⟨by unfold roomy; omega, {p : Nat × Nat // p.1 ≤ g.length}, fun p => ⟨E [(0, gatesA g), (1, .int bits), (4, .nils), (5, .sl 0 g.length 0 g.length), (11, gatesA g), (12, .int g.length), (13, .int p.1.1)], Hp [(0, ⟨1, (partW bits g p.1.1).map fun x => [.bool x]⟩)], p.1.2 + 1, 84⟩, fun p => g.length - p.1.1, ⟨(0, 0), by simp⟩, Leads.E (by simp [E_cons, E_nil, gatesA]) (by simp [partW, valsM]) rfl, ?_⟩
  rintro ⟨⟨i, q⟩, hi⟩
  simp only at hi
  by_cases hlt : i < g.length
  · have hok := hg.at' i hlt
    rw [Nat.zero_add] at hok
    have hw := partW_length bits g hi
    have hlw : i < (partW bits g i).length := by omega
    have fin := fun (v : Bool) => partW_set (bits := bits) hlt (v := v)
    have fin0 := partW_at hlt hlw
    have rd : ∀ x : Int, 0 ≤ x ∧ x < i → ∀ h1 : x.toNat < (partW bits g i).length, (valsM bits (g.take i) [])[x.toNat]?.getD false = (partW bits g i)[x.toNat] := fun x hx h1 => partW_rd (by omega) hi h1
    generalize hW : partW bits g i = w at *
    have hms : ∀ v : Bool, (w.map fun x => [AV.bool x]).set i [AV.bool v] = (w.set i v).map fun x => [AV.bool x] := fun v => by rw [List.map_set]
    generalize hgi : g[i] = gg at *
    obtain ⟨kd, A, B⟩ := gg
    simp only [GateOk] at hok
    simp [go_sem, gatesA, hlt, hgi, gcell, hw, hW, List.getElem?_eq_getElem hlw]
    have s0 := List.getElem?_eq_getElem hlw
    have hI : InR ((i : Int) + 1) := inR_of (by omega) (by omega)
    by_cases c1 : kd = 1
    · subst c1
      have h1 := hok.1 rfl
      simp [go_sem, s0, hlt, hw, h1]
      rw [hms, fin _ (by simp [gvB])]
      exact ⟨inR_of (by omega) (by omega), hI, ⟨(i + 1, q + 1), by simp only; omega⟩, by simp; omega, Leads.EH (by simp [E_cons, E_nil, gatesA]) (by simp [Hp_cons]) (by simp only)⟩
    by_cases c2 : kd = 2
    · subst c2
      simp [go_sem, s0, hlt, hw]
      rw [hms, fin _ (by simp [gvB])]
      exact ⟨hI, ⟨(i + 1, q + 1), by simp only; omega⟩, by simp; omega, Leads.EH (by simp [E_cons, E_nil, gatesA]) (by simp [Hp_cons]) (by simp only)⟩
    by_cases c4 : kd = 4
    · subst c4
      have hA := hok.2.1 rfl
      have hA' : A < g.length := by omega
      have hAw : A.toNat < w.length := by omega
      simp [go_sem, s0, hlt, hw, hA, hA']
      rw [hms, fin _ (by simp [gvB, rd A hA hAw])]
      exact ⟨hI, ⟨(i + 1, q + 1), by simp only; omega⟩, by simp; omega, Leads.EH (by simp [E_cons, E_nil, gatesA]) (by simp [Hp_cons]) (by simp only)⟩
    by_cases c5 : kd = 5
    · subst c5
      have hA := (hok.2.2 (.inl rfl)).1
      have hB := (hok.2.2 (.inl rfl)).2
      have hA' : A < g.length := by omega
      have hB' : B < g.length := by omega
      have hAw : A.toNat < w.length := by omega
      have hBw : B.toNat < w.length := by omega
      simp [go_sem, s0, hlt, hw, hA, hA']
      cases hwa : w[A.toNat]
      · simp [go_sem, s0, hlt, hw, hA, hA']
        rw [hms, fin _ (by simp [gvB, rd A hA hAw, hwa])]
        exact ⟨hI, ⟨(i + 1, q + 1), by simp only; omega⟩, by simp; omega, Leads.EH (by simp [E_cons, E_nil, gatesA]) (by simp [Hp_cons]) (by simp only)⟩
      · simp [go_sem, s0, hlt, hw, hB, hB']
        rw [hms, fin _ (by simp [gvB, rd A hA hAw, rd B hB hBw, hwa])]
        exact ⟨hI, ⟨(i + 1, q + 1), by simp only; omega⟩, by simp; omega, Leads.EH (by simp [E_cons, E_nil, gatesA]) (by simp [Hp_cons]) (by simp only)⟩
    by_cases c6 : kd = 6
    · subst c6
      have hA := (hok.2.2 (.inr rfl)).1
      have hB := (hok.2.2 (.inr rfl)).2
      have hA' : A < g.length := by omega
      have hB' : B < g.length := by omega
      have hAw : A.toNat < w.length := by omega
      have hBw : B.toNat < w.length := by omega
      simp [go_sem, s0, hlt, hw, hA, hA']
      cases hwa : w[A.toNat]
      · simp [go_sem, s0, hlt, hw, hB, hB']
        rw [hms, fin _ (by simp [gvB, rd A hA hAw, rd B hB hBw, hwa])]
        exact ⟨hI, ⟨(i + 1, q + 1), by simp only; omega⟩, by simp; omega, Leads.EH (by simp [E_cons, E_nil, gatesA]) (by simp [Hp_cons]) (by simp only)⟩
      · simp [go_sem, s0, hlt, hw, hA, hA']
        rw [hms, fin _ (by simp [gvB, rd A hA hAw, hwa])]
        exact ⟨hI, ⟨(i + 1, q + 1), by simp only; omega⟩, by simp; omega, Leads.EH (by simp [E_cons, E_nil, gatesA]) (by simp [Hp_cons]) (by simp only)⟩
    simp [go_sem, s0, hlt, hw, c1, c2, c4, c5, c6]
    have same : w = partW bits g (i + 1) := by
      rw [← fin false (by simp [gvB, c1, c2, c4, c5, c6])]
      refine (List.ext_getElem (by simp) fun j h1 h2 => ?_)
      rw [List.getElem_set]
      split
      · rename_i e; subst e; exact fin0
      · rfl
    exact ⟨hI, ⟨(i + 1, q + 1), by simp only; omega⟩, by simp; omega, Leads.EH (by simp [E_cons, E_nil, gatesA]) (by simp [Hp_cons, ← same]) (by simp only)⟩
  · have : i = g.length := by omega
    subst this
    have := valsM_length bits g []
    simp [go_sem, gatesA, partW_full]
    exact view_bools 0 (by simp [go_sem]; rfl) (by simp [this])
theorem l6Values_q (g : List G3) (bits : Int) (hg : GatesFrom 0 g) (hl : g.length ≤ 100000) (h : Heap) (nx : Nat) :
    CallsQ Tryz.prog 54 [gatesA g, .int bits] h nx (bools (valsM bits g [])) := by
  refine CallsQ.of_pure 1 (by simp [go_sem, pure_gates]) (in54 ?_) h nx
  simp [go_sem, Tryz.f54, gatesA]
  refine ⟨{p : Nat × Nat // p.1 ≤ g.length}, fun p => ⟨E [(0, gatesA g), (1, .int bits), (4, .nils), (5, .sl 0 p.1.1 0 p.1.1), (6, .int p.1.1)], Hp [(0, ⟨1, (valsM bits (g.take p.1.1) []).map fun x => [.bool x]⟩)], p.1.2 + 1, 74⟩, fun p => g.length - p.1.1, ⟨(0, 0), by simp⟩, Leads.E (by simp [E_cons, E_nil, gatesA]) (by simp [valsM]) rfl, ?_⟩
  rintro ⟨⟨i, q⟩, hi⟩
  simp only at hi
  by_cases hlt : i < g.length
  · have hok := hg.at' i hlt
    rw [Nat.zero_add] at hok
    have hw := vals_len bits g hi
    have fin : ∀ v : Bool, v = gvB (valsM bits (g.take i) []) bits g[i] → valsM bits (g.take (i + 1)) [] = valsM bits (g.take i) [] ++ [v] := fun v hv => by rw [valsM_take hlt, hv]
    generalize hW : valsM bits (g.take i) [] = w at *
    have rd : ∀ x : Int, 0 ≤ x ∧ x < i → ∀ h1 : x.toNat < w.length, w[x.toNat]?.getD false = w[x.toNat] := fun x hx h1 => by rw [List.getElem?_eq_getElem h1]; rfl
    generalize hgi : g[i] = gg at *
    obtain ⟨kd, A, B⟩ := gg
    simp only [GateOk] at hok
    simp [go_sem, gatesA, hlt, hgi, gcell, hw, hW]
    have hI : InR ((i : Int) + 1) := inR_of (by omega) (by omega)
    have hR : roomy (i + 1) := by unfold roomy; omega
    by_cases c1 : kd = 1
    · subst c1
      have h1 := hok.1 rfl
      have d := fin (decide (andI (shrI bits (A - 1)) 1 = 1)) (by simp [gvB])
      simp [go_sem, hlt, hw, h1]
      exact ⟨inR_of (by omega) (by omega), hR, hI, ⟨(i + 1, q + 1), by simp only; omega⟩, by simp; omega, Leads.EH (by simp [E_cons, E_nil, gatesA]) (by simp [Hp_cons, d]) (by simp only)⟩
    by_cases c2 : kd = 2
    · subst c2
      have d := fin (true) (by simp [gvB])
      simp [go_sem, hlt, hw]
      exact ⟨hR, hI, ⟨(i + 1, q + 1), by simp only; omega⟩, by simp; omega, Leads.EH (by simp [E_cons, E_nil, gatesA]) (by simp [Hp_cons, d]) (by simp only)⟩
    by_cases c4 : kd = 4
    · subst c4
      have hA := hok.2.1 rfl
      have hA' : A < i := hA.2
      have hAw : A.toNat < w.length := by omega
      have d := fin (!w[A.toNat]) (by simp [gvB, rd A hA hAw])
      simp [go_sem, hlt, hw, hA, hA', hAw]
      exact ⟨hR, hI, ⟨(i + 1, q + 1), by simp only; omega⟩, by simp; omega, Leads.EH (by simp [E_cons, E_nil, gatesA]) (by simp [Hp_cons, d]) (by simp only)⟩
    by_cases c5 : kd = 5
    · subst c5
      have hA := (hok.2.2 (.inl rfl)).1
      have hA' : A < i := hA.2
      have hAw : A.toNat < w.length := by omega
      have hB := (hok.2.2 (.inl rfl)).2
      have hB' : B < i := hB.2
      have hBw : B.toNat < w.length := by omega
      simp [go_sem, hlt, hw, hA, hA', hAw]
      cases hwa : w[A.toNat]
      · have d := fin (false) (by simp [gvB, rd A hA hAw, rd B hB hBw, hwa])
        simp [go_sem, hlt, hw, hB, hB', hBw, hwa]
        exact ⟨hR, hI, ⟨(i + 1, q + 1), by simp only; omega⟩, by simp; omega, Leads.EH (by simp [E_cons, E_nil, gatesA]) (by simp [Hp_cons, d]) (by simp only)⟩
      · have d := fin (w[B.toNat]) (by simp [gvB, rd A hA hAw, rd B hB hBw, hwa])
        simp [go_sem, hlt, hw, hB, hB', hBw, hwa]
        exact ⟨hR, hI, ⟨(i + 1, q + 1), by simp only; omega⟩, by simp; omega, Leads.EH (by simp [E_cons, E_nil, gatesA]) (by simp [Hp_cons, d]) (by simp only)⟩
    by_cases c6 : kd = 6
    · subst c6
      have hA := (hok.2.2 (.inr rfl)).1
      have hA' : A < i := hA.2
      have hAw : A.toNat < w.length := by omega
      have hB := (hok.2.2 (.inr rfl)).2
      have hB' : B < i := hB.2
      have hBw : B.toNat < w.length := by omega
      simp [go_sem, hlt, hw, hA, hA', hAw]
      cases hwa : w[A.toNat]
      · have d := fin (w[B.toNat]) (by simp [gvB, rd A hA hAw, rd B hB hBw, hwa])
        simp [go_sem, hlt, hw, hB, hB', hBw, hwa]
        exact ⟨hR, hI, ⟨(i + 1, q + 1), by simp only; omega⟩, by simp; omega, Leads.EH (by simp [E_cons, E_nil, gatesA]) (by simp [Hp_cons, d]) (by simp only)⟩
      · have d := fin (true) (by simp [gvB, rd A hA hAw, rd B hB hBw, hwa])
        simp [go_sem, hlt, hw, hB, hB', hBw, hwa]
        exact ⟨hR, hI, ⟨(i + 1, q + 1), by simp only; omega⟩, by simp; omega, Leads.EH (by simp [E_cons, E_nil, gatesA]) (by simp [Hp_cons, d]) (by simp only)⟩
    have d := fin (false) (by simp [gvB, c1, c2, c4, c5, c6])
    simp [go_sem, hlt, hw, c1, c2, c4, c5, c6]
    exact ⟨hR, hI, ⟨(i + 1, q + 1), by simp only; omega⟩, by simp; omega, Leads.EH (by simp [E_cons, E_nil, gatesA]) (by simp [Hp_cons, d]) (by simp only)⟩
  · have : i = g.length := by omega
    subst this
    have := valsM_length bits g []
    simp [go_sem, gatesA]
    exact view_bools 0 (by simp [go_sem]; rfl) (by simp [this])
end Go.Proofs.YtogdmmccbeipkaaGreat.A
namespace Go.Proofs.YtogdmmccbeipkaaGreat.A
open Go Go.Abs Go.Shelf
set_option pp.maxSteps 3000
set_option pp.deepTerms true
set_option linter.unusedSimpArgs false
set_option maxRecDepth 20000

def picked (bits : Int) (g : List G3) (a : List Int) : List Bool := a.map fun i => (valsM bits g []).getD i.toNat false
def pvM (n : Int) (cs : List (List Int)) (k : Int) (ss : List Step') (bits : Int) : Option (List Bool) :=
  match partialM n cs k ss with
  | none => none
  | some (g, a) => if g.length ≤ 200 ∧ bitsB n bits = true then some (picked bits g a) else none
/-- What is handed back: nothing, or a new list. -/
def OutE (kk : Nat) (o : Option (List Cells)) (r : AV) (h0 : Heap) : Prop := match o with
  | none => r = .tup [.nils, .bool false]
  | some es => ∃ n ys, (r = .tup [.sl n ys.length 0 es.length, .bool true] ∧ h0 n = some ⟨kk, ys⟩) ∧ ys.take es.length = es
def bcells (b : List Bool) : List Cells := b.map fun x => [.bool x]
theorem partial_facts {n : Int} {cs : List (List Int)} {k : Int} {ss : List Step'} {g : List G3} {a : List Int} (h : partialM n cs k ss = some (g, a)) :
    (0 ≤ n ∧ n ≤ 12) ∧ GatesFrom 0 g ∧ a.length = ss.length ∧ 0 < ss.length ∧ ss.length ≤ 200 ∧ g.length ≤ 12800 ∧ ∀ x ∈ a, 0 ≤ x ∧ x < g.length := by
  unfold partialM at h
  split at h
  case isFalse => cases h
  rename_i h1
  simp only [Bool.and_eq_true] at h1
  obtain ⟨⟨⟨hg, hk⟩, hr⟩, hw⟩ := h1
  have hn := good_n hg
  have hd : derivB n cs ss = true ∧ 0 < ss.length := by simp only [refutB, Bool.and_eq_true, decide_eq_true_eq] at hr; exact hr.1
  have hle : ss.length ≤ 200 := by have := hd.1; simp only [derivB, Bool.and_eq_true, decide_eq_true_eq] at this; exact this.1.1
  have hf : ∀ s ∈ ss, FitS n s := fun s hs => by
    obtain ⟨i, hi, rfl⟩ := List.getElem_of_mem hs
    exact correct_fit hi (deriv_all hd.1 i hi)
  have hi : ∀ i (hi : i < ss.length), ss[i].l = -1 ∨ (0 ≤ ss[i].l ∧ ss[i].l < i) ∧ (ss[i].r = -1 ∨ 0 ≤ ss[i].r ∧ ss[i].r < i) := fun i hi => correct_idx hi rfl (deriv_all hd.1 i hi)
  have h0 := wire_ok (n := n) (cs := cs) (k := k.toNat) hn.2 ss ([], []) hf (by simpa using hi) trivial (by simp)
  have h' := Option.some.inj h
  simp only [h'] at h0
  exact ⟨hn, h0.1, h0.2.1.trans (by simp), hd.2, hle, by have := h0.2.2.1; simp at this; omega, h0.2.2.2⟩
theorem partialValues_a (n : Int) (cs : List (List Int)) (k : Int) (ss : List Step') (bits : Int) (ok : OkC n cs) (oks : OkS ss) :
    CallsA Tryz.prog 24 [cnfA n cs, .int k, stepsA ss, .int bits] (Hp []) 0 (fun r h0 _ => OutE 1 ((pvM n cs k ss bits).map bcells) r h0) := by
  refine in24 ?_
  simp [go_sem, Tryz.f24, cnfA]
  refine (partial_q n cs k ss ok oks _ _).call ?_
  cases hM : partialM n cs k ss with
  | none =>
    have hr : pvM n cs k ss bits = none := by simp [pvM, hM]
    simp [go_sem, partialA, hr, OutE]
  | some ga =>
    obtain ⟨g, a⟩ := ga
    obtain ⟨hn, hg, ha, hs0, hs, hgl, hat⟩ := partial_facts hM
    by_cases c1 : g.length ≤ 200
    · simp [go_sem, partialA, c1]
      refine (bitsOk_q n bits hn _ _).call ?_
      cases c2 : bitsB n bits
      · have hr : pvM n cs k ss bits = none := by simp [pvM, hM, c2]
        simp [go_sem, hr, OutE]
      · have hr : pvM n cs k ss bits = some (picked bits g a) := by simp [pvM, hM, c1, c2]
        simp [go_sem]
        refine (gateValues_q g bits hg (by omega) _ _).call ?_
        simp [go_sem, ints]
        refine ⟨{i : Nat // i ≤ a.length}, fun i => ⟨E [(12, bools (valsM bits g [])), (13, .sl 1 i.1 0 i.1), (41, ints a), (42, .int a.length), (43, .int i.1)], Hp [(0, ⟨2, [[.int n, intss cs]]⟩), (1, ⟨1, bcells ((picked bits g a).take i.1)⟩)], 2, 56⟩, fun i => a.length - i.1, ⟨0, by omega⟩, Leads.thawE (k := [(0, ⟨2, [[.int n, intss cs]]⟩)]) (kk := 1) (t := 13) (by simp [E_cons]) (by omega) (by simp [E_cons, E_nil, ints, lset]), ?_⟩
        rintro ⟨i, hi⟩
        have hlv : (valsM bits g []).length = g.length := by rw [valsM_length]; simp
        have hlp : (picked bits g a).length = a.length := by simp [picked]
        by_cases hlt : i < a.length
        · have hx := hat _ (List.getElem_mem hlt)
          have hxv : a[i].toNat < (valsM bits g []).length := by omega
          have hlt' : i < (picked bits g a).length := by omega
          have hp : (picked bits g a)[i] = (valsM bits g [])[a[i].toNat] := by
            simp only [picked, List.getElem_map]
            rw [List.getD_eq_getElem?_getD, List.getElem?_eq_getElem hxv]; rfl
          have htk : bcells ((picked bits g a).take (i + 1)) = bcells ((picked bits g a).take i) ++ [[.bool (valsM bits g [])[a[i].toNat]]] := by
            rw [List.take_succ_eq_append_getElem hlt', hp]; simp [bcells]
          have hbl : (bcells ((picked bits g a).take i)).length = i := by simp [bcells]; omega
          simp [go_sem, ints, bools, hlt, hx, hlv, hxv, hbl]
          exact ⟨by unfold roomy; omega, inR_of (by omega) (by omega), ⟨i + 1, by omega⟩, by simp; omega, Leads.E (by simp [E_cons, E_nil, ints, bools]) (by simp [htk]) rfl⟩
        · have : i = a.length := by omega
          subst this
          simp [go_sem, ints]
          rw [hr, List.take_of_length_le (by omega)]
          have e : (bcells (picked bits g a)).length = a.length := by simp [bcells, hlp]
          exact ⟨1, bcells (picked bits g a), ⟨by rw [e], by simp [go_sem]⟩, by rw [List.take_length]⟩
    · have hr : pvM n cs k ss bits = none := by simp [pvM, hM, c1]
      simp [go_sem, partialA, c1, hr, OutE]
end Go.Proofs.YtogdmmccbeipkaaGreat.A
