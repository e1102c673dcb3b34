/- Contracts: the reference's InterpolatePositive. -/
import Derived.Test.YtogdmmccbeipkaaGreatF22
set_option linter.all false
namespace Go.Proofs.YtogdmmccbeipkaaGreat.A
open Go Go.Abs
set_option pp.maxSteps 3000
set_option pp.deepTerms true
set_option linter.unusedSimpArgs false
set_option maxRecDepth 20000

theorem l30Left_q (n : Int) (cs : List (List Int)) (k : Nat) (ok : OkC n cs) (hn : 0 ≤ n ∧ n ≤ 12) (hk : k ≤ cs.length) (h : Heap) (nx : Nat) :
    CallsQ Tryz.prog 49 [cnfA n cs, .int k] h nx (.bool (!signB (cs.take k) (bothM n cs k) false)) := by
  refine CallsQ.of_pure 1 (by simp [go_sem, cnfA]) (in49 ?_) h nx
  have hl := ok.len
  have h2 : ∀ c ∈ cs.take k, InRs c ∧ Len c := fun c hc => ok.cl c (List.mem_of_mem_take hc)
  have l2 : (cs.take k).length ≤ 140737488355328 := by rw [List.length_take]; omega
  have hb : Len (bothM n cs k) := by have := side_length (bothP cs k) n.toNat; unfold Len bothM; omega
  simp [go_sem, Tryz.f49, cnfA]
  refine (l29Sides_q n cs k ok hn hk _ _).call ?_
  simp [go_sem, intss, hk]
  rw [intss_take]
  refine (l30Sign_q (cs.take k) _ false l2 h2 hb _ _).call ?_
  simp [go_sem, view, vw]

theorem specPositive_q (n : Int) (cs : List (List Int)) (k : Int) (ss : List Step') (ok : OkC n cs) (oks : OkS ss) (h : Heap) (nx : Nat) :
    CallsQ Tryz.prog 21 [cnfA n cs, .int k, stepsA ss] h nx (giveA (posM n cs k ss)) := by
  refine CallsQ.of_pure 1 (by simp [go_sem, cnfA]) (in21 ?_) h nx
  simp [go_sem, Tryz.f21, cnfA]
  refine (l29Asked_q n cs k ok _ _).call ?_
  cases h1 : goodB n cs && inB k 0 cs.length
  · have hr : posM n cs k ss = none := by simp [posM, h1]
    simp [go_sem, view, vw, vwL, hr, giveA, gatesA]
  have h1' : goodB n cs = true ∧ inB k 0 cs.length = true := by simpa using h1
  have hk : 0 ≤ k ∧ k ≤ cs.length := by have := h1'.2; simpa [inB] using this
  obtain ⟨kn, rfl⟩ : ∃ m : Nat, k = m := ⟨k.toNat, by omega⟩
  have hkn : kn ≤ cs.length := by omega
  have hv : varsB n = true := by have := h1'.1; simp only [goodB, Bool.and_eq_true] at this; exact this.1.1
  have hn := varsB_iff.1 hv
  simp [go_sem]
  refine (l30Left_q n cs kn ok hn hkn _ _).call ?_
  cases h2 : signB (cs.take kn) (bothM n cs kn) false
  · simp [go_sem]
    refine (l7Refutes_q n cs ss ok oks _ _).call ?_
    cases h3 : refutB n cs ss
    · have hr : posM n cs kn ss = none := by simp [posM, h3]
      simp [go_sem, view, vw, vwL, hr, giveA, gatesA]
    have h3' : derivB n cs ss = true ∧ 0 < ss.length := by simp only [refutB, Bool.and_eq_true, decide_eq_true_eq] at h3; exact h3.1
    simp [go_sem]
    refine (l30Make_q n cs kn ss true ok oks hkn h3'.1 h3'.2 _ _).call ?_
    have hr : posM n cs kn ss = if (takeG (gatesM cs kn true ss ([], []))).length > 200 then none else some (takeG (gatesM cs kn true ss ([], []))) := by
      unfold posM
      rw [if_pos (by simp [h1, h2, h3])]; rfl
    have hle : ss.length ≤ 200 := by have := h3'.1; simp only [derivB, Bool.and_eq_true, decide_eq_true_eq] at this; exact this.1.1
    have hlen : (takeG (gatesM cs kn true ss ([], []))).length ≤ 100000 := by
      have h4 := gates_length cs kn true ss ([], [])
      have h5 := takeG_length (gatesM cs kn true ss ([], []))
      simp only [List.length_nil] at h4
      omega
    simp [go_sem]
    refine (l30Give_q (takeG (gatesM cs kn true ss ([], []))) hlen _ _).call ?_
    rw [hr]
    by_cases h6 : (takeG (gatesM cs kn true ss ([], []))).length > 200
    · simp [go_sem, h6, view, vw, vwL, giveA, gatesA]
    · simp [go_sem, h6, view, vw, vwL, giveA, gatesA]
  · have hr : posM n cs kn ss = none := by simp [posM, h2]
    simp [go_sem, view, vw, vwL, hr, giveA, gatesA]
end Go.Proofs.YtogdmmccbeipkaaGreat.A
namespace Go.Proofs.YtogdmmccbeipkaaGreat.A
open Go Go.Abs Go.Shelf
set_option pp.maxSteps 3000
set_option pp.deepTerms true
set_option linter.unusedSimpArgs false
set_option maxRecDepth 20000

def evenSh (t : Nat) (v x y : Int) : List G3 := [(1, v, 0), (6, (t : Int), x), (4, (t : Int), 0), (6, (t : Int) + 1 + 1, y), (5, (t : Int) + 1, (t : Int) + 1 + 1 + 1)]
theorem even1_ok : ShOk 92 evenSh := by
  refine ⟨fun t v x y => by simp [evenSh], fun m g sp a v x y es t h nx K hm hg ht hmg hr hk => ?_⟩
  have e1 : ∀ h' : Heap, ∀ a b, upd (upd h' g a) m b g = a := fun h' a b => by simp [upd, hmg]
  refine in92 ?_
  simp [go_sem, Tryz.f92, hm, hg, ht]
  refine put_a m g sp a es t 1 v 0 h nx hm hg ht hmg (by omega) _ ?_
  simp [go_sem]
  refine put_a m g sp a _ (t + 1) 6 t x _ nx upd_same' (e1 _ _ _) (by simp [ht]) hmg (by omega) _ ?_
  simp [go_sem]
  refine put_a m g sp a _ (t + 1 + 1) 4 t 0 _ nx upd_same' (e1 _ _ _) (by simp [ht]) hmg (by omega) _ ?_
  simp [go_sem]
  refine put_a m g sp a _ (t + 1 + 1 + 1) 6 _ y _ nx upd_same' (e1 _ _ _) (by simp [ht]) hmg (by omega) _ ?_
  simp [go_sem]
  refine put_a m g sp a _ (t + 1 + 1 + 1 + 1) 5 _ _ _ nx upd_same' (e1 _ _ _) (by simp [ht]) hmg (by omega) _ ?_
  simp [go_sem, upd_upd2 hmg]
  have e3 : ((t + (evenSh t v x y).length : Nat) : Int) - 1 = t + 1 + 1 + 1 + 1 := by simp [evenSh]; omega
  rw [e3] at hk
  simpa [evenSh, gcell] using hk
theorem evenRules_q (h : Heap) (nx : Nat) : CallsQ Tryz.prog 60 [] h nx (rulesA 80 92) := by
  refine CallsQ.of_pure 1 rfl (in60 ?_) h nx
  simp [go_sem, Tryz.f60, view, vw, vwL, rulesA]

/-! Searches among steps. -/
theorem IndexFuncS_q (c : List Step') (g : FuncId) (cap : List AV) (p : Step' → Bool) (hcap : AV.pureL cap = true) (hl : c.length ≤ 1099511627776) (hp : ∀ x ∈ c, CallsQ Tryz.prog g (.agg (stepC x) :: cap) (Hp []) 0 (.bool (p x))) (h : Heap) (nx : Nat) :
    CallsQ Tryz.prog 116 [stepsA c, .fn (.func g) [] cap] h nx (.int (indexP c p)) := by
  refine CallsQ.of_pure 1 (by simp [go_sem, hcap]) (in116 ?_) h nx
  simp [go_sem, Tryz.f116, stepsA]
  refine ⟨{i : Nat // i ≤ c.length ∧ (c.take i).any p = false}, fun i => ⟨E [(0, stepsA c), (1, .fn (.func g) [] cap), (4, .int 0), (7, .int c.length), (8, .int i.1)], Hp [], 0, 19⟩, fun i => c.length - i.1, ⟨0, by simp⟩, Leads.E (by simp [E_cons, E_nil, stepsA]) rfl rfl, ?_⟩
  rintro ⟨i, hi, hok⟩
  by_cases hlt : i < c.length
  · have hpx := hp _ (List.getElem_mem hlt)
    have hnx := fun h1 => any_next hok hlt h1
    have hfd := fun h1 => indexP_found hok hlt h1
    generalize hst : c[i] = s at *
    simp [go_sem, stepsA, hlt, hst, stepC]
    refine (CallsQ.call (args := .agg (stepC s) :: cap) hpx ?_)
    cases h1 : p s
    · simp [go_sem]
      exact ⟨inR_of (by omega) (by omega), ⟨i + 1, by omega, hnx h1⟩, by simp; omega, Leads.E (by simp [E_cons, E_nil, stepsA]) rfl rfl⟩
    · have hr : indexP c p = i := hfd h1
      simp [go_sem, view, vw, hr]
  · have hr : indexP c p = -1 := indexP_none (any_done hok hlt)
    simp [go_sem, stepsA, hlt, view, vw, hr]
theorem ContainsFuncS_q (c : List Step') (g : FuncId) (cap : List AV) (p : Step' → Bool) (hcap : AV.pureL cap = true) (hl : c.length ≤ 1099511627776) (hp : ∀ x ∈ c, CallsQ Tryz.prog g (.agg (stepC x) :: cap) (Hp []) 0 (.bool (p x))) (h : Heap) (nx : Nat) :
    CallsQ Tryz.prog 87 [stepsA c, .fn (.func g) [] cap] h nx (.bool (c.any p)) := by
  refine CallsQ.of_pure 1 (by simp [go_sem, hcap]) (in87 ?_) h nx
  simp [go_sem, Tryz.f87]
  refine (IndexFuncS_q c g cap p hcap hl hp _ _).call ?_
  simp [go_sem, view, vw, any_indexP]

def weakB (s : Step') : Bool := decide (0 ≤ s.l) && decide (s.r < 0)
def partialM (n : Int) (cs : List (List Int)) (k : Int) (ss : List Step') : Option (List G3 × List Int) :=
  if goodB n cs && inB k 0 cs.length && refutB n cs ss && !ss.any weakB then some (wireM cs k.toNat (axM k.toNat) evenSh ss ([], [])) else none
def partialA (n : Int) (cs : List (List Int)) (k : Int) : Option (List G3 × List Int) → AV
  | none => .tup [.sc (.pointer none), .bool false]
  | some (g, a) => .tup [.iptr [splitA n cs k.toNat, gatesA g, ints a], .bool (decide (g.length ≤ 200))]
theorem partial_q (n : Int) (cs : List (List Int)) (k : Int) (ss : List Step') (ok : OkC n cs) (oks : OkS ss) (h : Heap) (nx : Nat) :
    CallsQ Tryz.prog 55 [cnfA n cs, .int k, stepsA ss] h nx (partialA n cs k (partialM n cs k ss)) := by
  refine CallsQ.of_pure 3 (by simp [go_sem, cnfA]) (in55 ?_) h nx
  simp [go_sem, Tryz.f55, cnfA]
  refine (splitOf_q n cs k ok _ _).call ?_
  cases h1 : goodB n cs && inB k 0 cs.length
  · simp [go_sem, partialM, h1, partialA, view, vw, vwL]
  simp [go_sem]
  refine (IsRefutation_q n cs ss ok oks _ _).call ?_
  cases h2 : refutB n cs ss
  · simp [go_sem, partialM, h2, partialA, view, vw, vwL]
  have hg1 : goodB n cs = true ∧ inB k 0 cs.length = true := by simpa using h1
  have hk : 0 ≤ k ∧ k ≤ cs.length := by have := hg1.2; simpa [inB] using this
  obtain ⟨kn, rfl⟩ : ∃ m : Nat, k = m := ⟨k.toNat, by omega⟩
  have hkn : kn ≤ cs.length := by omega
  have hd : derivB n cs ss = true ∧ 0 < ss.length := by simp only [refutB, Bool.and_eq_true, decide_eq_true_eq] at h2; exact h2.1
  have hle : ss.length ≤ 200 := by have := hd.1; simp only [derivB, Bool.and_eq_true, decide_eq_true_eq] at this; exact this.1.1
  simp [go_sem]
  refine (ContainsFuncS_q ss 88 [] weakB rfl (by omega) (fun s _ => isWeakening_q s _ _) _ _).call ?_
  cases h3 : ss.any weakB
  · simp [go_sem]
    refine (evenRules_q _ _).call ?_
    simp [go_sem]
    have hW := fun (nx : Nat) (h : Heap) (K : AV → Heap → Nat → Prop) hK => CallsA.of_pure (h := h) (nx := nx) (K := K) (by simp [go_sem, splitA, rulesA, AV.pure, AV.pureL]) (wire_a 80 92 (axM kn) 1 (fun _ => True) evenSh n cs kn (axiom_ok n cs kn) even1_ok (by omega) ok hg1.1 hkn ss hle (fun _ _ => trivial) (fun i hi => correct_idx hi rfl (deriv_all hd.1 i hi))
      (fun r h0 n0 => r = .ptr 1 1 0 0 ∧ ∃ g a, wireM cs kn (axM kn) evenSh ss ([], []) = (g, a) ∧ a.length = ss.length ∧ g.length ≤ 64 * ss.length ∧ (∀ x ∈ a, 0 ≤ x ∧ x < g.length) ∧ h0 1 = some ⟨3, [[splitA n cs kn, .sl 2 g.length 0 g.length, .sl 3 a.length 0 a.length]]⟩ ∧ h0 2 = some ⟨3, g.map gcell⟩ ∧ h0 3 = some ⟨1, a.map fun x => [.int x]⟩)
      (fun h' nx' g a _ e1 e2 e3 e4 e5 e6 e7 => ⟨rfl, g, a, e1, e2, e3, e4, e5, e6, e7⟩)) hK
    refine hW _ _ _ fun r h0 n0 ⟨hr, g, a, e1, e2, e3, e4, e5, e6, e7⟩ => ?_
    subst hr
    simp only [AV.shift]
    generalize hgl : Abs.glue 1 _ h0 = hh
    have f5 : hh 2 = some ⟨3, [[splitA n cs kn, .sl 3 g.length 0 g.length, .sl 4 a.length 0 a.length]]⟩ := by
      rw [← hgl, show 2 = 1 + 1 from rfl, glue_at, e5]
      simp [Blk.shift, shiftE, AV.shiftL, AV.shift, splitA]
    have f6 : hh 3 = some ⟨3, g.map gcell⟩ := by
      rw [← hgl, show 3 = 1 + 2 from rfl, glue_at, e6]
      simp [Blk.shift, shiftE_pure _ _ (pureE_gates g)]
    have f7 : hh 4 = some ⟨1, a.map fun x => [.int x]⟩ := by
      rw [← hgl, show 4 = 1 + 3 from rfl, glue_at, e7]
      simp [Blk.shift, shiftE_pure _ _ (pureE_cells a)]
    simp [go_sem, f5, f6, f7]
    have hr : partialM n cs kn ss = some (g, a) := by
      unfold partialM
      rw [if_pos (by simp [hg1.1, hg1.2, h2, h3])]
      simp only [Int.toNat_natCast, e1]
    rw [hr]
    have v1 : view 2 hh (splitA n cs kn) = splitA n cs kn := vw_pure _ _ _ (by simp [go_sem, splitA])
    have v2 : view 2 hh (.sl 3 g.length 0 g.length) = gatesA g := view_gates 1 f6 rfl
    have v3 : view 2 hh (.sl 4 a.length 0 a.length) = ints a := view_ints 1 f7 rfl
    simp [partialA]
    show vw hh (view 2 hh) _ = _
    simp [vw, vwL, f5, v1, v2, v3]
    omega
  · simp [go_sem, partialM, h3, partialA, view, vw, vwL]
end Go.Proofs.YtogdmmccbeipkaaGreat.A
namespace Go.Proofs.YtogdmmccbeipkaaGreat.A
open Go Go.Abs Go.Shelf
set_option linter.unusedSimpArgs false

def gvB (out : List Bool) (bits : Int) (g : G3) : Bool :=
  if g.1 = 1 then decide (andI (shrI bits (g.2.1 - 1)) 1 = 1) else if g.1 = 2 then true else if g.1 = 4 then !out.getD g.2.1.toNat false else if g.1 = 5 then out.getD g.2.1.toNat false && out.getD g.2.2.toNat false else if g.1 = 6 then out.getD g.2.1.toNat false || out.getD g.2.2.toNat false else false
def valsM (bits : Int) : List G3 → List Bool → List Bool
  | [], out => out
  | g :: r, out => valsM bits r (out ++ [gvB out bits g])
def GateOk (i : Nat) (g : G3) : Prop := (g.1 = 1 → 1 ≤ g.2.1 ∧ g.2.1 ≤ 12) ∧ (g.1 = 4 → 0 ≤ g.2.1 ∧ g.2.1 < i) ∧ (g.1 = 5 ∨ g.1 = 6 → (0 ≤ g.2.1 ∧ g.2.1 < i) ∧ 0 ≤ g.2.2 ∧ g.2.2 < i)
def GatesFrom : Nat → List G3 → Prop
  | _, [] => True
  | i, g :: r => GateOk i g ∧ GatesFrom (i + 1) r
theorem GatesFrom.append : ∀ {a b : List G3} {i : Nat}, GatesFrom i a → GatesFrom (i + a.length) b → GatesFrom i (a ++ b)
  | [], _, _, _, hb => by simpa using hb
  | g :: r, b, i, ha, hb => ⟨ha.1, GatesFrom.append ha.2 (by rw [List.length_cons] at hb; rw [show i + 1 + r.length = i + (r.length + 1) by omega]; exact hb)⟩
theorem GatesFrom.at' : ∀ {a : List G3} {i : Nat}, GatesFrom i a → ∀ (j : Nat) (hj : j < a.length), GateOk (i + j) a[j]
  | [], _, _, j, hj => by simp at hj
  | g :: r, i, ha, 0, _ => ha.1
  | g :: r, i, ha, j + 1, hj => by
    have := GatesFrom.at' ha.2 j (by simpa using hj)
    rw [show i + (j + 1) = i + 1 + j by omega]
    exact this
theorem valsM_length (bits : Int) : ∀ (gs : List G3) (out : List Bool), (valsM bits gs out).length = out.length + gs.length
  | [], out => rfl
  | g :: r, out => by simp only [valsM]; rw [valsM_length bits r]; simp; omega
theorem valsM_append (bits : Int) : ∀ (a b : List G3) (out : List Bool), valsM bits (a ++ b) out = valsM bits b (valsM bits a out)
  | [], _, _ => rfl
  | g :: r, b, out => by simp only [List.cons_append, valsM]; exact valsM_append bits r b _
theorem valsM_take {bits : Int} {gs : List G3} {i : Nat} (hi : i < gs.length) : valsM bits (gs.take (i + 1)) [] = valsM bits (gs.take i) [] ++ [gvB (valsM bits (gs.take i) []) bits gs[i]] := by
  rw [List.take_succ_eq_append_getElem hi, valsM_append]
  rfl

theorem step_ok {n : Int} {cs : List (List Int)} {k : Nat} (hn : n ≤ 12) {s : Step'} {g : List G3} {a : List Int} (hf : FitS n s) (hi : s.l = -1 ∨ (0 ≤ s.l ∧ s.l < a.length) ∧ (s.r = -1 ∨ 0 ≤ s.r ∧ s.r < a.length))
    (hg : GatesFrom 0 g) (ha : ∀ x ∈ a, 0 ≤ x ∧ x < g.length) : GatesFrom 0 (stepW cs k (axM k) evenSh s g a).1 ∧ ∀ x ∈ a ++ [(stepW cs k (axM k) evenSh s g a).2], 0 ≤ x ∧ x < (stepW cs k (axM k) evenSh s g a).1.length := by
  have hat : ∀ i : Int, 0 ≤ i → i < a.length → 0 ≤ atI a i ∧ atI a i < g.length := fun i h0 h1 => by
    have h2 : i.toNat < a.length := by omega
    have : atI a i = a[i.toNat] := by unfold atI; rw [List.getD_eq_getElem?_getD, List.getElem?_eq_getElem h2]; rfl
    rw [this]; exact ha _ (List.getElem_mem h2)
  have fin : ∀ G : List G3, 0 < G.length → GatesFrom g.length G → GatesFrom 0 (g ++ G) ∧ ∀ x ∈ a ++ [((g.length + G.length : Nat) : Int) - 1], 0 ≤ x ∧ x < (g ++ G).length := fun G h0 hG => by
    refine ⟨hg.append (by simpa using hG), fun x hx => ?_⟩
    rw [List.length_append]
    rcases List.mem_append.1 hx with hx | hx
    · have := ha x hx; omega
    · simp only [List.mem_singleton] at hx; omega
  unfold stepW
  by_cases c1 : s.l < 0
  · simp only [if_pos c1]
    refine fin _ (by simp [axM]) ?_
    by_cases c2 : s.r < k <;> simp [axM, GatesFrom, GateOk, c2]
  · simp only [if_neg c1]
    have hi' := hi.resolve_left (by omega)
    have hx := hat s.l hi'.1.1 hi'.1.2
    by_cases c2 : s.r < 0
    · simp only [if_pos c2]
      refine ⟨hg, fun x h => ?_⟩
      rcases List.mem_append.1 h with h | h
      · exact ha x h
      · simp only [List.mem_singleton] at h; subst h; exact hx
    · simp only [if_neg c2]
      have hr' := hi'.2.resolve_left (by omega)
      have hy := hat s.r hr'.1 hr'.2
      have hp := hf (by omega) (by omega)
      generalize atI a s.l = x at *
      generalize atI a s.r = y at *
      unfold resW
      by_cases d1 : sideI cs k s.p = -1
      · rw [if_pos d1]
        exact fin _ (by simp) (by simp [GatesFrom, GateOk]; omega)
      · rw [if_neg d1]
        by_cases d2 : sideI cs k s.p = 1
        · rw [if_pos d2]
          exact fin _ (by simp) (by simp [GatesFrom, GateOk]; omega)
        · rw [if_neg d2]
          exact fin _ (by simp [evenSh]) (by simp [evenSh, GatesFrom, GateOk]; omega)
theorem wire_ok {n : Int} {cs : List (List Int)} {k : Nat} (hn : n ≤ 12) : ∀ (l : List Step') (st : List G3 × List Int), (∀ s ∈ l, FitS n s) →
    (∀ i (hi : i < l.length), l[i].l = -1 ∨ (0 ≤ l[i].l ∧ l[i].l < (st.2.length + i : Nat)) ∧ (l[i].r = -1 ∨ 0 ≤ l[i].r ∧ l[i].r < (st.2.length + i : Nat))) →
    GatesFrom 0 st.1 → (∀ x ∈ st.2, 0 ≤ x ∧ x < st.1.length) →
    GatesFrom 0 (wireM cs k (axM k) evenSh l st).1 ∧ (wireM cs k (axM k) evenSh l st).2.length = st.2.length + l.length ∧ (wireM cs k (axM k) evenSh l st).1.length ≤ st.1.length + 64 * l.length ∧ ∀ x ∈ (wireM cs k (axM k) evenSh l st).2, 0 ≤ x ∧ x < (wireM cs k (axM k) evenSh l st).1.length
  | [], st, _, _, hg, ha => ⟨hg, rfl, Nat.le_refl _, ha⟩
  | s :: r, st, hf, hi, hg, ha => by
    have hi0 := hi 0 (by simp)
    simp only [List.getElem_cons_zero, Nat.add_zero] at hi0
    have h0 := step_ok (cs := cs) (k := k) hn (hf s (List.mem_cons_self ..)) hi0 hg ha
    simp only [wireM]
    have hlen : (stepW cs k (axM k) evenSh s st.1 st.2).1.length ≤ st.1.length + 5 := by
      unfold stepW resW
      (repeat' split) <;> simp [axM, evenSh]
    generalize stepW cs k (axM k) evenSh s st.1 st.2 = q at *
    obtain ⟨g', now⟩ := q
    simp only at h0 hlen ⊢
    have hh : ∀ i (h : i < r.length), r[i].l = -1 ∨ (0 ≤ r[i].l ∧ r[i].l < ((st.2 ++ [now]).length + i : Nat)) ∧ (r[i].r = -1 ∨ 0 ≤ r[i].r ∧ r[i].r < ((st.2 ++ [now]).length + i : Nat)) := fun i h => by
      have := hi (i + 1) (by simpa using h)
      simp only [List.getElem_cons_succ] at this
      simp only [List.length_append, List.length_cons, List.length_nil]
      rw [show st.2.length + (0 + 1) + i = st.2.length + (i + 1) by omega]
      exact this
    have ih := wire_ok (cs := cs) (k := k) hn r (g', st.2 ++ [now]) (fun t ht => hf t (List.mem_cons_of_mem _ ht)) hh h0.1 h0.2
    simp only [List.length_append, List.length_cons, List.length_nil] at ih ⊢
    exact ⟨ih.1, by have := ih.2.1; omega, by have := ih.2.2.1; omega, ih.2.2.2⟩
def bitsB (n bits : Int) : Bool := inB bits 0 (shlI 1 n - 1)
theorem shl_R {n : Int} (hn : 0 ≤ n ∧ n ≤ 12) : InR (shlI 1 n - 1) := by
  have : n = 0 ∨ n = 1 ∨ n = 2 ∨ n = 3 ∨ n = 4 ∨ n = 5 ∨ n = 6 ∨ n = 7 ∨ n = 8 ∨ n = 9 ∨ n = 10 ∨ n = 11 ∨ n = 12 := by omega
  rcases this with h | h | h | h | h | h | h | h | h | h | h | h | h <;> subst h <;> exact ⟨by decide, by decide⟩
end Go.Proofs.YtogdmmccbeipkaaGreat.A
