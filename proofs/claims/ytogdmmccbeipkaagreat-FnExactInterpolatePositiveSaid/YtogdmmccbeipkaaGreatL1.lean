/- Contracts: the laws' own functions that read. -/
import Derived.Test.YtogdmmccbeipkaaGreatF22
set_option linter.all false
namespace Go.Proofs.YtogdmmccbeipkaaGreat.A
open Go Go.Abs Go.Shelf
set_option pp.maxSteps 3000
set_option pp.deepTerms true
set_option linter.unusedSimpArgs false
set_option maxRecDepth 20000

def szI (n : Nat) (l : Int) : Int := if l - n < 0 then -1 else l - n
def szFold {α : Type} (f : α → Nat) : List α → Int → Int
  | [], l => l
  | c :: r, l => if l - f c < 0 then -1 else szFold f r (l - f c)
def szAll {α : Type} (f : α → Nat) (cs : List α) (l : Int) : Int := if l - cs.length < 0 then -1 else szFold f cs (l - cs.length)
theorem szFold_bound {α : Type} {f : α → Nat} : ∀ {cs : List α} {l : Int}, 0 ≤ szFold f cs l → szFold f cs l ≤ l ∧ ∀ c ∈ cs, (f c : Int) ≤ l
  | [], l, _ => ⟨Int.le_refl _, by simp⟩
  | c :: r, l, h => by
    simp only [szFold] at h ⊢
    split at h
    · omega
    · rename_i h1
      rw [if_neg h1]
      obtain ⟨h2, h3⟩ := szFold_bound h
      refine ⟨by omega, fun d hd => ?_⟩
      rcases List.mem_cons.1 hd with e | hd
      · subst e; omega
      · have := h3 d hd; omega
theorem szAll_bound {α : Type} {f : α → Nat} {cs : List α} {l : Int} (h : 0 ≤ szAll f cs l) : szAll f cs l ≤ l ∧ (cs.length : Int) ≤ l ∧ ∀ c ∈ cs, (f c : Int) ≤ l := by
  unfold szAll at h ⊢
  split at h
  · omega
  · rename_i h1
    rw [if_neg h1]
    obtain ⟨h2, h3⟩ := szFold_bound h
    exact ⟨by omega, by omega, fun c hc => by have := h3 c hc; omega⟩

theorem inR_sub {l : Int} {n : Nat} (h0 : 0 ≤ l ∧ l ≤ 1048576) (hn : n ≤ 9223372036854775807) : InR (l - n) := by constructor <;> omega
theorem szIntS_q (c : List Int) (l : Int) (h0 : 0 ≤ l ∧ l ≤ 1048576) (hl : c.length ≤ 9223372036854775807) (h : Heap) (nx : Nat) : CallsQ Tryz.prog 62 [ints c, .int l] h nx (.int (szI c.length l)) := by
  refine CallsQ.of_pure 1 (by simp [go_sem]) (in62 ?_) h nx
  simp [go_sem, Tryz.f62, ints]
  refine ⟨inR_sub h0 hl, ?_⟩
  by_cases h1 : l - c.length < 0
  · simp [go_sem, h1, view, vw, szI]
  · simp [go_sem, h1, view, vw, szI]
theorem szIntSS_q (cs : List (List Int)) (l : Int) (h0 : 0 ≤ l ∧ l ≤ 1048576) (hl : cs.length ≤ 9223372036854775807) (hc : ∀ c ∈ cs, c.length ≤ 9223372036854775807) (h : Heap) (nx : Nat) : CallsQ Tryz.prog 32 [intss cs, .int l] h nx (.int (szAll List.length cs l)) := by
  refine CallsQ.of_pure 1 (by simp [go_sem]) (in32 ?_) h nx
  simp [go_sem, Tryz.f32, intss]
  refine ⟨inR_sub h0 hl, ?_⟩
  by_cases h1 : l - cs.length < 0
  · simp [go_sem, h1, view, vw, szAll]
  · simp [go_sem, h1]
    refine ⟨{p : Nat × Int // (p.1 ≤ cs.length ∧ 0 ≤ p.2 ∧ p.2 ≤ 1048576) ∧ szAll List.length cs l = szFold List.length (cs.drop p.1) p.2}, fun p => ⟨E [(0, intss cs), (1, .int p.1.2), (4, .int 0), (5, .int p.1.1)], Hp [], 0, 27⟩, fun p => cs.length - p.1.1, ⟨(0, l - cs.length), ⟨by simp, by simp only; omega, by simp only; omega⟩, by simp [szAll, h1]⟩, Leads.E (by simp [E_cons, E_nil, intss]) rfl rfl, ?_⟩
    rintro ⟨⟨i, m⟩, ⟨hi, hm0, hm1⟩, he⟩
    simp only at hi hm0 hm1 he
    by_cases hlt : i < cs.length
    · rw [List.drop_eq_getElem_cons hlt] at he
      simp only [szFold] at he
      simp [go_sem, intss, hlt]
      refine (szIntS_q cs[i] m ⟨hm0, hm1⟩ (hc _ (List.getElem_mem hlt)) _ _).call ?_
      by_cases h2 : m - cs[i].length < 0
      · rw [if_pos h2] at he
        simp [go_sem, szI, h2, view, vw, he]
      · rw [if_neg h2] at he
        simp [go_sem, szI, h2]
        exact ⟨inR_of (by omega) (by omega), ⟨(i + 1, m - cs[i].length), ⟨by simp only; omega, by simp only; omega, by simp only; omega⟩, he⟩, by simp; omega, Leads.E (by simp [E_cons, E_nil, intss]) rfl rfl⟩
    · rw [List.drop_of_length_le (by omega)] at he
      simp [go_sem, intss, hlt, view, vw, he, szFold]
theorem szCnf_q (n : Int) (cs : List (List Int)) (l : Int) (h0 : 0 ≤ l ∧ l ≤ 1048576) (hl : cs.length ≤ 9223372036854775807) (hc : ∀ c ∈ cs, c.length ≤ 9223372036854775807) (h : Heap) (nx : Nat) : CallsQ Tryz.prog 8 [cnfA n cs, .int l] h nx (.int (if szAll List.length cs l < 0 then -1 else szAll List.length cs l)) := by
  refine CallsQ.of_pure 1 (by simp [go_sem, cnfA]) (in8 ?_) h nx
  simp [go_sem, Tryz.f8, cnfA]
  refine (szIntSS_q cs l h0 hl hc _ _).call ?_
  by_cases h1 : szAll List.length cs l < 0
  · simp [go_sem, h1, view, vw]
  · simp [go_sem, h1, view, vw]
theorem szResStep_q (s : Step') (l : Int) (h0 : 0 ≤ l ∧ l ≤ 1048576) (hl : s.cl.length ≤ 9223372036854775807) (h : Heap) (nx : Nat) : CallsQ Tryz.prog 33 [.agg (stepC s), .int l] h nx (.int (szI s.cl.length l)) := by
  refine CallsQ.of_pure 1 (by simp [go_sem, stepC]) (in33 ?_) h nx
  simp [go_sem, Tryz.f33, stepC]
  refine (szIntS_q _ l h0 hl _ _).call ?_
  by_cases h1 : l - s.cl.length < 0
  · simp [go_sem, szI, h1, view, vw]
  · simp [go_sem, szI, h1, view, vw]
theorem szResStepS_q (ss : List Step') (l : Int) (h0 : 0 ≤ l ∧ l ≤ 1048576) (hl : ss.length ≤ 9223372036854775807) (hc : ∀ s ∈ ss, s.cl.length ≤ 9223372036854775807) (h : Heap) (nx : Nat) : CallsQ Tryz.prog 9 [stepsA ss, .int l] h nx (.int (szAll (fun s : Step' => s.cl.length) ss l)) := by
  refine CallsQ.of_pure 1 (by simp [go_sem]) (in9 ?_) h nx
  simp [go_sem, Tryz.f9, stepsA]
  refine ⟨inR_sub h0 hl, ?_⟩
  by_cases h1 : l - ss.length < 0
  · simp [go_sem, h1, view, vw, szAll]
  · simp [go_sem, h1]
    refine ⟨{p : Nat × Int // (p.1 ≤ ss.length ∧ 0 ≤ p.2 ∧ p.2 ≤ 1048576) ∧ szAll (fun s : Step' => s.cl.length) ss l = szFold (fun s : Step' => s.cl.length) (ss.drop p.1) p.2}, fun p => ⟨E [(0, stepsA ss), (1, .int p.1.2), (4, .int 0), (5, .int p.1.1)], Hp [], 0, 27⟩, fun p => ss.length - p.1.1, ⟨(0, l - ss.length), ⟨by simp, by simp only; omega, by simp only; omega⟩, by simp [szAll, h1]⟩, Leads.E (by simp [E_cons, E_nil, stepsA]) rfl rfl, ?_⟩
    rintro ⟨⟨i, m⟩, ⟨hi, hm0, hm1⟩, he⟩
    simp only at hi hm0 hm1 he
    by_cases hlt : i < ss.length
    · rw [List.drop_eq_getElem_cons hlt] at he
      simp only [szFold] at he
      have hcl := hc _ (List.getElem_mem hlt)
      generalize hst : ss[i] = s at *
      simp [go_sem, stepsA, hlt, hst, stepC]
      refine (szResStep_q s m ⟨hm0, hm1⟩ hcl _ _).call ?_
      by_cases h2 : m - s.cl.length < 0
      · rw [if_pos h2] at he
        simp [go_sem, szI, h2, view, vw, he]
      · rw [if_neg h2] at he
        simp [go_sem, szI, h2]
        exact ⟨inR_of (by omega) (by omega), ⟨(i + 1, m - s.cl.length), ⟨by simp only; omega, by simp only; omega, by simp only; omega⟩, he⟩, by simp; omega, Leads.E (by simp [E_cons, E_nil, stepsA]) rfl rfl⟩
    · rw [List.drop_of_length_le (by omega)] at he
      simp [go_sem, stepsA, hlt, view, vw, he, szFold]

theorem eqIntS_q (a : List Int) (hl : a.length ≤ 281474976710656) (h : Heap) (nx : Nat) : CallsQ Tryz.prog 83 [ints a, ints a] h nx (.bool true) := by
  refine CallsQ.of_pure 1 (by simp [go_sem]) (in83 ?_) h nx
  simp [go_sem, Tryz.f83, ints]
  refine ⟨{i : Nat // i ≤ a.length}, fun i => ⟨E [(0, ints a), (1, ints a), (4, .bool false), (5, .int i.1)], Hp [], 0, 26⟩, fun i => a.length - i.1, ⟨0, by simp⟩, Leads.E (by simp [E_cons, E_nil, ints]) rfl rfl, ?_⟩
  rintro ⟨i, hi⟩
  by_cases hlt : i < a.length
  · simp [go_sem, ints, hlt]
    exact ⟨inR_of (by omega) (by omega), ⟨i + 1, by omega⟩, by simp; omega, Leads.E (by simp [E_cons, E_nil, ints]) rfl rfl⟩
  · simp [go_sem, ints, hlt, view, vw]
theorem eqIntSS_q (cs : List (List Int)) (hl : cs.length ≤ 281474976710656) (hc : ∀ c ∈ cs, c.length ≤ 281474976710656) (h : Heap) (nx : Nat) : CallsQ Tryz.prog 45 [intss cs, intss cs] h nx (.bool true) := by
  refine CallsQ.of_pure 1 (by simp [go_sem]) (in45 ?_) h nx
  simp [go_sem, Tryz.f45, intss]
  refine ⟨{i : Nat // i ≤ cs.length}, fun i => ⟨E [(0, intss cs), (1, intss cs), (4, .bool false), (5, .int i.1)], Hp [], 0, 27⟩, fun i => cs.length - i.1, ⟨0, by simp⟩, Leads.E (by simp [E_cons, E_nil, intss]) rfl rfl, ?_⟩
  rintro ⟨i, hi⟩
  by_cases hlt : i < cs.length
  · simp [go_sem, intss, hlt]
    refine ⟨_, eqIntS_q _ (hc _ (List.getElem_mem hlt)) _ _, ?_⟩
    simp [go_sem]
    exact ⟨inR_of (by omega) (by omega), ⟨i + 1, by omega⟩, by simp; omega, Leads.E (by simp [E_cons, E_nil, intss]) rfl rfl⟩
  · simp [go_sem, intss, hlt, view, vw]
theorem eqCnf_q (n : Int) (cs : List (List Int)) (hl : cs.length ≤ 281474976710656) (hc : ∀ c ∈ cs, c.length ≤ 281474976710656) (h : Heap) (nx : Nat) : CallsQ Tryz.prog 15 [cnfA n cs, cnfA n cs] h nx (.bool true) := by
  refine CallsQ.of_pure 1 (by simp [go_sem, cnfA]) (in15 ?_) h nx
  simp [go_sem, Tryz.f15, cnfA]
  refine (eqIntSS_q cs hl hc _ _).call ?_
  simp [go_sem, view, vw]
theorem eqResStep_q (s : Step') (hl : s.cl.length ≤ 281474976710656) (h : Heap) (nx : Nat) : CallsQ Tryz.prog 46 [.agg (stepC s), .agg (stepC s)] h nx (.bool true) := by
  refine CallsQ.of_pure 1 (by simp [go_sem, stepC]) (in46 ?_) h nx
  simp [go_sem, Tryz.f46, stepC]
  refine (eqIntS_q _ hl _ _).call ?_
  simp [go_sem, view, vw]
theorem eqResStepS_q (ss : List Step') (hl : ss.length ≤ 281474976710656) (hc : ∀ s ∈ ss, s.cl.length ≤ 281474976710656) (h : Heap) (nx : Nat) : CallsQ Tryz.prog 16 [stepsA ss, stepsA ss] h nx (.bool true) := by
  refine CallsQ.of_pure 1 (by simp [go_sem]) (in16 ?_) h nx
  simp [go_sem, Tryz.f16, stepsA]
  refine ⟨{i : Nat // i ≤ ss.length}, fun i => ⟨E [(0, stepsA ss), (1, stepsA ss), (4, .bool false), (5, .int i.1)], Hp [], 0, 27⟩, fun i => ss.length - i.1, ⟨0, by simp⟩, Leads.E (by simp [E_cons, E_nil, stepsA]) rfl rfl, ?_⟩
  rintro ⟨i, hi⟩
  by_cases hlt : i < ss.length
  · have hcl := hc _ (List.getElem_mem hlt)
    generalize hst : ss[i] = s at *
    simp [go_sem, stepsA, hlt, hst, stepC]
    refine ⟨_, eqResStep_q s hcl _ _, ?_⟩
    simp [go_sem]
    exact ⟨inR_of (by omega) (by omega), ⟨i + 1, by omega⟩, by simp; omega, Leads.E (by simp [E_cons, E_nil, stepsA]) rfl rfl⟩
  · simp [go_sem, stepsA, hlt, view, vw]
theorem eqGate_q (g : G3) (h : Heap) (nx : Nat) : CallsQ Tryz.prog 44 [.agg (gcell g), .agg (gcell g)] h nx (.bool true) := by
  refine CallsQ.of_pure 1 (by simp [go_sem, gcell]) (in44 ?_) h nx
  simp [go_sem, Tryz.f44, gcell, view, vw]
theorem eqGateS_q (gs : List G3) (hl : gs.length ≤ 281474976710656) (h : Heap) (nx : Nat) : CallsQ Tryz.prog 14 [gatesA gs, gatesA gs] h nx (.bool true) := by
  refine CallsQ.of_pure 1 (by simp [go_sem, pure_gates]) (in14 ?_) h nx
  simp [go_sem, Tryz.f14, gatesA]
  refine ⟨{i : Nat // i ≤ gs.length}, fun i => ⟨E [(0, gatesA gs), (1, gatesA gs), (4, .bool false), (5, .int i.1)], Hp [], 0, 27⟩, fun i => gs.length - i.1, ⟨0, by simp⟩, Leads.E (by simp [E_cons, E_nil, gatesA]) rfl rfl, ?_⟩
  rintro ⟨i, hi⟩
  by_cases hlt : i < gs.length
  · simp [go_sem, gatesA, hlt, gcell]
    refine ⟨_, eqGate_q gs[i] _ _, ?_⟩
    simp [go_sem]
    exact ⟨inR_of (by omega) (by omega), ⟨i + 1, by omega⟩, by simp; omega, Leads.E (by simp [E_cons, E_nil, gatesA, gcell]) rfl rfl⟩
  · simp [go_sem, gatesA, hlt, view, vw]
theorem eqGateS_nil (h : Heap) (nx : Nat) : CallsQ Tryz.prog 14 [.nils, gatesA []] h nx (.bool true) := by
  refine CallsQ.of_pure 1 (by simp [go_sem, pure_gates]) (in14 ?_) h nx
  simp [go_sem, Tryz.f14, gatesA]
  refine ⟨Unit, fun i => ⟨E [(0, .nils), (1, gatesA []), (4, .bool false), (5, .int 0)], Hp [], 0, 27⟩, fun i => 0, (), Leads.E (by simp [E_cons, E_nil, gatesA]) rfl rfl, ?_⟩
  rintro ⟨⟩
  simp [go_sem, gatesA, view, vw]
/-- What marking leaves in gates. -/
def markG (k : Int) (L : Nat) : List G3 := (List.range L).map fun i : Nat => (k + 3 * (i : Int), k + 3 * (i : Int) + 1, k + 3 * (i : Int) + 1 + 1)
theorem heldGateS_q (k : Int) (L : Nat) (hk : 0 ≤ k ∧ k ≤ 1000000000) (hL : L ≤ 1000000000) (h : Heap) (nx : Nat) : CallsQ Tryz.prog 20 [gatesA (markG k L), .int k] h nx (.int (k + 3 * L)) := by
  refine CallsQ.of_pure 1 (by simp [go_sem, pure_gates]) (in20 ?_) h nx
  simp [go_sem, Tryz.f20, gatesA]
  refine ⟨{i : Nat // i ≤ L}, fun i => ⟨E [(0, gatesA (markG k L)), (1, .int (k + 3 * i.1)), (4, .int 0), (5, .int i.1)], Hp [], 0, 40⟩, fun i => L - i.1, ⟨0, by simp⟩, Leads.E (by simp [E_cons, E_nil, gatesA]) rfl rfl, ?_⟩
  rintro ⟨i, hi⟩
  have hlen : (markG k L).length = L := by simp [markG]
  by_cases hlt : i < L
  · have hlt' : i < (markG k L).length := by omega
    have hg : (markG k L)[i] = (k + 3 * (i : Int), k + 3 * (i : Int) + 1, k + 3 * (i : Int) + 1 + 1) := by simp [markG]
    simp [go_sem, gatesA, hlen, hlt, hlt', gcell, hg]
    refine ⟨inR_of (by omega) (by omega), inR_of (by omega) (by omega), inR_of (by omega) (by omega), inR_of (by omega) (by omega), ⟨i + 1, by omega⟩, by simp; omega, Leads.E (by simp [E_cons, E_nil, gatesA]; omega) rfl rfl⟩
  · have : i = L := by omega
    subst this
    simp [go_sem, gatesA, hlen, view, vw]
theorem heldGateS_nil (k : Int) (h : Heap) (nx : Nat) : CallsQ Tryz.prog 20 [.nils, .int k] h nx (.int k) := by
  refine CallsQ.of_pure 1 (by simp [go_sem, pure_gates]) (in20 ?_) h nx
  simp [go_sem, Tryz.f20]
  refine ⟨Unit, fun i => ⟨E [(0, .nils), (1, .int k), (4, .int 0), (5, .int 0)], Hp [], 0, 40⟩, fun i => 0, (), Leads.E (by simp [E_cons, E_nil]) rfl rfl, ?_⟩
  rintro ⟨⟩
  simp [go_sem, view, vw]
end Go.Proofs.YtogdmmccbeipkaaGreat.A
