/- Contracts: the laws' own functions that read. -/
import Derived.Test.YtogdmmccbeipkaaGreatF22
set_option linter.all false
namespace Go.Proofs.YtogdmmccbeipkaaGreat.A
open Go Go.Abs Go.Shelf
set_option pp.maxSteps 3000
set_option pp.deepTerms true
set_option linter.unusedSimpArgs false
set_option maxRecDepth 20000

def szI (n : Nat) (l : Int) : Int := if l - n < 0 then -1 else l - n
def szFold {α : Type} (f : α → Nat) : List α → Int → Int
  | [], l => l
  | c :: r, l => if l - f c < 0 then -1 else szFold f r (l - f c)
def szAll {α : Type} (f : α → Nat) (cs : List α) (l : Int) : Int := if l - cs.length < 0 then -1 else szFold f cs (l - cs.length)
theorem szFold_bound {α : Type} {f : α → Nat} : ∀ {cs : List α} {l : Int}, 0 ≤ szFold f cs l → szFold f cs l ≤ l ∧ ∀ c ∈ cs, (f c : Int) ≤ l
  | [], l, _ => ⟨Int.le_refl _, by simp⟩
  | c :: r, l, h => by
    simp only [szFold] at h ⊢
    split at h
    · omega
    · rename_i h1
      rw [if_neg h1]
      obtain ⟨h2, h3⟩ := szFold_bound h
      refine ⟨by omega, fun d hd => ?_⟩
      rcases List.mem_cons.1 hd with e | hd
      · subst e; omega
      · have := h3 d hd; omega
theorem szAll_bound {α : Type} {f : α → Nat} {cs : List α} {l : Int} (h : 0 ≤ szAll f cs l) : szAll f cs l ≤ l ∧ (cs.length : Int) ≤ l ∧ ∀ c ∈ cs, (f c : Int) ≤ l := by
  unfold szAll at h ⊢
  split at h
  · omega
  · rename_i h1
    rw [if_neg h1]
    obtain ⟨h2, h3⟩ := szFold_bound h
    exact ⟨by omega, by omega, fun c hc => by have := h3 c hc; omega⟩

theorem inR_sub {l : Int} {n : Nat} (h0 : 0 ≤ l ∧ l ≤ 1048576) (hn : n ≤ 9223372036854775807) : InR (l - n) := by constructor <;> omega
theorem szIntS_q (c : List Int) (l : Int) (h0 : 0 ≤ l ∧ l ≤ 1048576) (hl : c.length ≤ 9223372036854775807) (h : Heap) (nx : Nat) : CallsQ Tryz.prog 62 [ints c, .int l] h nx (.int (szI c.length l)) := by
  refine CallsQ.of_pure 1 (by simp [go_sem]) (in62 ?_) h nx
  simp [go_sem, Tryz.f62, ints]
  refine ⟨inR_sub h0 hl, ?_⟩
  by_cases h1 : l - c.length < 0
  · simp [go_sem, h1, view, vw, szI]
  · simp [go_sem, h1, view, vw, szI]
theorem szIntSS_q (cs : List (List Int)) (l : Int) (h0 : 0 ≤ l ∧ l ≤ 1048576) (hl : cs.length ≤ 9223372036854775807) (hc : ∀ c ∈ cs, c.length ≤ 9223372036854775807) (h : Heap) (nx : Nat) : CallsQ Tryz.prog 32 [intss cs, .int l] h nx (.int (szAll List.length cs l)) := by
  refine CallsQ.of_pure 1 (by simp [go_sem]) (in32 ?_) h nx
  simp [go_sem, Tryz.f32, intss]
  refine ⟨inR_sub h0 hl, ?_⟩
  by_cases h1 : l - cs.length < 0
  · simp [go_sem, h1, view, vw, szAll]
  · simp [go_sem, h1]
    refine ⟨{p : Nat × Int // (p.1 ≤ cs.length ∧ 0 ≤ p.2 ∧ p.2 ≤ 1048576) ∧ szAll List.length cs l = szFold List.length (cs.drop p.1) p.2}, fun p => ⟨E [(0, intss cs), (1, .int p.1.2), (4, .int 0), (5, .int p.1.1)], Hp [], 0, 27⟩, fun p => cs.length - p.1.1, ⟨(0, l - cs.length), ⟨by simp, by simp only; omega, by simp only; omega⟩, by simp [szAll, h1]⟩, Leads.E (by simp [E_cons, E_nil, intss]) rfl rfl, ?_⟩
    rintro ⟨⟨i, m⟩, ⟨hi, hm0, hm1⟩, he⟩
    simp only at hi hm0 hm1 he
    by_cases hlt : i < cs.length
    · rw [List.drop_eq_getElem_cons hlt] at he
      simp only [szFold] at he
      simp [go_sem, intss, hlt]
      refine (szIntS_q cs[i] m ⟨hm0, hm1⟩ (hc _ (List.getElem_mem hlt)) _ _).call ?_
      by_cases h2 : m - cs[i].length < 0
      · rw [if_pos h2] at he
        simp [go_sem, szI, h2, view, vw, he]
      · rw [if_neg h2] at he
        simp [go_sem, szI, h2]
        exact ⟨inR_of (by omega) (by omega), ⟨(i + 1, m - cs[i].length), ⟨by simp only; omega, by simp only; omega, by simp only; omega⟩, he⟩, by simp; omega, Leads.E (by simp [E_cons, E_nil, intss]) rfl rfl⟩
    · rw [List.drop_of_length_le (by omega)] at he
      simp [go_sem, intss, hlt, view, vw, he, szFold]
theorem szCnf_q (n : Int) (cs : List (List Int)) (l : Int) (h0 : 0 ≤ l ∧ l ≤ 1048576) (hl : cs.length ≤ 9223372036854775807) (hc : ∀ c ∈ cs, c.length ≤ 9223372036854775807) (h : Heap) (nx : Nat) : CallsQ Tryz.prog 8 [cnfA n cs, .int l] h nx (.int (if szAll List.length cs l < 0 then -1 else szAll List.length cs l)) := by
  refine CallsQ.of_pure 1 (by simp [go_sem, cnfA]) (in8 ?_) h nx
  simp [go_sem, Tryz.f8, cnfA]
  refine (szIntSS_q cs l h0 hl hc _ _).call ?_
  by_cases h1 : szAll List.length cs l < 0
  · simp [go_sem, h1, view, vw]
  · simp [go_sem, h1, view, vw]
theorem szResStep_q (s : Step') (l : Int) (h0 : 0 ≤ l ∧ l ≤ 1048576) (hl : s.cl.length ≤ 9223372036854775807) (h : Heap) (nx : Nat) : CallsQ Tryz.prog 33 [.agg (stepC s), .int l] h nx (.int (szI s.cl.length l)) := by
  refine CallsQ.of_pure 1 (by simp [go_sem, stepC]) (in33 ?_) h nx
  simp [go_sem, Tryz.f33, stepC]
  refine (szIntS_q _ l h0 hl _ _).call ?_
  by_cases h1 : l - s.cl.length < 0
  · simp [go_sem, szI, h1, view, vw]
  · simp [go_sem, szI, h1, view, vw]
theorem szResStepS_q (ss : List Step') (l : Int) (h0 : 0 ≤ l ∧ l ≤ 1048576) (hl : ss.length ≤ 9223372036854775807) (hc : ∀ s ∈ ss, s.cl.length ≤ 9223372036854775807) (h : Heap) (nx : Nat) : CallsQ Tryz.prog 9 [stepsA ss, .int l] h nx (.int (szAll (fun s : Step' => s.cl.length) ss l)) := by
  refine CallsQ.of_pure 1 (by simp [go_sem]) (in9 ?_) h nx
  simp [go_sem, Tryz.f9, stepsA]
  refine ⟨inR_sub h0 hl, ?_⟩
  by_cases h1 : l - ss.length < 0
  · simp [go_sem, h1, view, vw, szAll]
  · simp [go_sem, h1]
    refine ⟨{p : Nat × Int // (p.1 ≤ ss.length ∧ 0 ≤ p.2 ∧ p.2 ≤ 1048576) ∧ szAll (fun s : Step' => s.cl.length) ss l = szFold (fun s : Step' => s.cl.length) (ss.drop p.1) p.2}, fun p => ⟨E [(0, stepsA ss), (1, .int p.1.2), (4, .int 0), (5, .int p.1.1)], Hp [], 0, 27⟩, fun p => ss.length - p.1.1, ⟨(0, l - ss.length), ⟨by simp, by simp only; omega, by simp only; omega⟩, by simp [szAll, h1]⟩, Leads.E (by simp [E_cons, E_nil, stepsA]) rfl rfl, ?_⟩
    rintro ⟨⟨i, m⟩, ⟨hi, hm0, hm1⟩, he⟩
    simp only at hi hm0 hm1 he
    by_cases hlt : i < ss.length
    · rw [List.drop_eq_getElem_cons hlt] at he
      simp only [szFold] at he
      have hcl := hc _ (List.getElem_mem hlt)
      generalize hst : ss[i] = s at *
      simp [go_sem, stepsA, hlt, hst, stepC]
      refine (szResStep_q s m ⟨hm0, hm1⟩ hcl _ _).call ?_
      by_cases h2 : m - s.cl.length < 0
      · rw [if_pos h2] at he
        simp [go_sem, szI, h2, view, vw, he]
      · rw [if_neg h2] at he
        simp [go_sem, szI, h2]
        exact ⟨inR_of (by omega) (by omega), ⟨(i + 1, m - s.cl.length), ⟨by simp only; omega, by simp only; omega, by simp only; omega⟩, he⟩, by simp; omega, Leads.E (by simp [E_cons, E_nil, stepsA]) rfl rfl⟩
    · rw [List.drop_of_length_le (by omega)] at he
      simp [go_sem, stepsA, hlt, view, vw, he, szFold]

theorem eqIntS_q (a : List Int) (hl : a.length ≤ 281474976710656) (h : Heap) (nx : Nat) : CallsQ Tryz.prog 83 [ints a, ints a] h nx (.bool true) := by
  refine CallsQ.of_pure 1 (by simp [go_sem]) (in83 ?_) h nx
  simp [go_sem, Tryz.f83, ints]
  refine ⟨{i : Nat // i ≤ a.length}, fun i => ⟨E [(0, ints a), (1, ints a), (4, .bool false), (5, .int i.1)], Hp [], 0, 26⟩, fun i => a.length - i.1, ⟨0, by simp⟩, Leads.E (by simp [E_cons, E_nil, ints]) rfl rfl, ?_⟩
  rintro ⟨i, hi⟩
  by_cases hlt : i < a.length
  · simp [go_sem, ints, hlt]
    exact ⟨inR_of (by omega) (by omega), ⟨i + 1, by omega⟩, by simp; omega, Leads.E (by simp [E_cons, E_nil, ints]) rfl rfl⟩
  · simp [go_sem, ints, hlt, view, vw]
theorem eqIntSS_q (cs : List (List Int)) (hl : cs.length ≤ 281474976710656) (hc : ∀ c ∈ cs, c.length ≤ 281474976710656) (h : Heap) (nx : Nat) : CallsQ Tryz.prog 45 [intss cs, intss cs] h nx (.bool true) := by
  refine CallsQ.of_pure 1 (by simp [go_sem]) (in45 ?_) h nx
  simp [go_sem, Tryz.f45, intss]
  refine ⟨{i : Nat // i ≤ cs.length}, fun i => ⟨E [(0, intss cs), (1, intss cs), (4, .bool false), (5, .int i.1)], Hp [], 0, 27⟩, fun i => cs.length - i.1, ⟨0, by simp⟩, Leads.E (by simp [E_cons, E_nil, intss]) rfl rfl, ?_⟩
  rintro ⟨i, hi⟩
  by_cases hlt : i < cs.length
  · simp [go_sem, intss, hlt]
    refine ⟨_, eqIntS_q _ (hc _ (List.getElem_mem hlt)) _ _, ?_⟩
    simp [go_sem]
    exact ⟨inR_of (by omega) (by omega), ⟨i + 1, by omega⟩, by simp; omega, Leads.E (by simp [E_cons, E_nil, intss]) rfl rfl⟩
  · simp [go_sem, intss, hlt, view, vw]
theorem eqCnf_q (n : Int) (cs : List (List Int)) (hl : cs.length ≤ 281474976710656) (hc : ∀ c ∈ cs, c.length ≤ 281474976710656) (h : Heap) (nx : Nat) : CallsQ Tryz.prog 15 [cnfA n cs, cnfA n cs] h nx (.bool true) := by
  refine CallsQ.of_pure 1 (by simp [go_sem, cnfA]) (in15 ?_) h nx
  simp [go_sem, Tryz.f15, cnfA]
  refine (eqIntSS_q cs hl hc _ _).call ?_
  simp [go_sem, view, vw]
theorem eqResStep_q (s : Step') (hl : s.cl.length ≤ 281474976710656) (h : Heap) (nx : Nat) : CallsQ Tryz.prog 46 [.agg (stepC s), .agg (stepC s)] h nx (.bool true) := by
  refine CallsQ.of_pure 1 (by simp [go_sem, stepC]) (in46 ?_) h nx
  simp [go_sem, Tryz.f46, stepC]
  refine (eqIntS_q _ hl _ _).call ?_
  simp [go_sem, view, vw]
theorem eqResStepS_q (ss : List Step') (hl : ss.length ≤ 281474976710656) (hc : ∀ s ∈ ss, s.cl.length ≤ 281474976710656) (h : Heap) (nx : Nat) : CallsQ Tryz.prog 16 [stepsA ss, stepsA ss] h nx (.bool true) := by
  refine CallsQ.of_pure 1 (by simp [go_sem]) (in16 ?_) h nx
  simp [go_sem, Tryz.f16, stepsA]
  refine ⟨{i : Nat // i ≤ ss.length}, fun i => ⟨E [(0, stepsA ss), (1, stepsA ss), (4, .bool false), (5, .int i.1)], Hp [], 0, 27⟩, fun i => ss.length - i.1, ⟨0, by simp⟩, Leads.E (by simp [E_cons, E_nil, stepsA]) rfl rfl, ?_⟩
  rintro ⟨i, hi⟩
  by_cases hlt : i < ss.length
  · have hcl := hc _ (List.getElem_mem hlt)
    generalize hst : ss[i] = s at *
    simp [go_sem, stepsA, hlt, hst, stepC]
    refine ⟨_, eqResStep_q s hcl _ _, ?_⟩
    simp [go_sem]
    exact ⟨inR_of (by omega) (by omega), ⟨i + 1, by omega⟩, by simp; omega, Leads.E (by simp [E_cons, E_nil, stepsA]) rfl rfl⟩
  · simp [go_sem, stepsA, hlt, view, vw]
theorem eqGate_q (g : G3) (h : Heap) (nx : Nat) : CallsQ Tryz.prog 44 [.agg (gcell g), .agg (gcell g)] h nx (.bool true) := by
  refine CallsQ.of_pure 1 (by simp [go_sem, gcell]) (in44 ?_) h nx
  simp [go_sem, Tryz.f44, gcell, view, vw]
theorem eqGateS_q (gs : List G3) (hl : gs.length ≤ 281474976710656) (h : Heap) (nx : Nat) : CallsQ Tryz.prog 14 [gatesA gs, gatesA gs] h nx (.bool true) := by
  refine CallsQ.of_pure 1 (by simp [go_sem, pure_gates]) (in14 ?_) h nx
  simp [go_sem, Tryz.f14, gatesA]
  refine ⟨{i : Nat // i ≤ gs.length}, fun i => ⟨E [(0, gatesA gs), (1, gatesA gs), (4, .bool false), (5, .int i.1)], Hp [], 0, 27⟩, fun i => gs.length - i.1, ⟨0, by simp⟩, Leads.E (by simp [E_cons, E_nil, gatesA]) rfl rfl, ?_⟩
  rintro ⟨i, hi⟩
  by_cases hlt : i < gs.length
  · simp [go_sem, gatesA, hlt, gcell]
    refine ⟨_, eqGate_q gs[i] _ _, ?_⟩
    simp [go_sem]
    exact ⟨inR_of (by omega) (by omega), ⟨i + 1, by omega⟩, by simp; omega, Leads.E (by simp [E_cons, E_nil, gatesA, gcell]) rfl rfl⟩
  · simp [go_sem, gatesA, hlt, view, vw]
theorem eqGateS_nil (h : Heap) (nx : Nat) : CallsQ Tryz.prog 14 [.nils, gatesA []] h nx (.bool true) := by
  refine CallsQ.of_pure 1 (by simp [go_sem, pure_gates]) (in14 ?_) h nx
  simp [go_sem, Tryz.f14, gatesA]
  refine ⟨Unit, fun i => ⟨E [(0, .nils), (1, gatesA []), (4, .bool false), (5, .int 0)], Hp [], 0, 27⟩, fun i => 0, (), Leads.E (by simp [E_cons, E_nil, gatesA]) rfl rfl, ?_⟩
  rintro ⟨⟩
  simp [go_sem, gatesA, view, vw]
/-- What marking leaves in gates. -/
def markG (k : Int) (L : Nat) : List G3 := (List.range L).map fun i : Nat => (k + 3 * (i : Int), k + 3 * (i : Int) + 1, k + 3 * (i : Int) + 1 + 1)
theorem heldGateS_q (k : Int) (L : Nat) (hk : 0 ≤ k ∧ k ≤ 1000000000) (hL : L ≤ 1000000000) (h : Heap) (nx : Nat) : CallsQ Tryz.prog 20 [gatesA (markG k L), .int k] h nx (.int (k + 3 * L)) := by
  refine CallsQ.of_pure 1 (by simp [go_sem, pure_gates]) (in20 ?_) h nx
  simp [go_sem, Tryz.f20, gatesA]
  refine ⟨{i : Nat // i ≤ L}, fun i => ⟨E [(0, gatesA (markG k L)), (1, .int (k + 3 * i.1)), (4, .int 0), (5, .int i.1)], Hp [], 0, 40⟩, fun i => L - i.1, ⟨0, by simp⟩, Leads.E (by simp [E_cons, E_nil, gatesA]) rfl rfl, ?_⟩
  rintro ⟨i, hi⟩
  have hlen : (markG k L).length = L := by simp [markG]
  by_cases hlt : i < L
  · have hlt' : i < (markG k L).length := by omega
    have hg : (markG k L)[i] = (k + 3 * (i : Int), k + 3 * (i : Int) + 1, k + 3 * (i : Int) + 1 + 1) := by simp [markG]
    simp [go_sem, gatesA, hlen, hlt, hlt', gcell, hg]
    refine ⟨inR_of (by omega) (by omega), inR_of (by omega) (by omega), inR_of (by omega) (by omega), inR_of (by omega) (by omega), ⟨i + 1, by omega⟩, by simp; omega, Leads.E (by simp [E_cons, E_nil, gatesA]; omega) rfl rfl⟩
  · have : i = L := by omega
    subst this
    simp [go_sem, gatesA, hlen, view, vw]
theorem heldGateS_nil (k : Int) (h : Heap) (nx : Nat) : CallsQ Tryz.prog 20 [.nils, .int k] h nx (.int k) := by
  refine CallsQ.of_pure 1 (by simp [go_sem, pure_gates]) (in20 ?_) h nx
  simp [go_sem, Tryz.f20]
  refine ⟨Unit, fun i => ⟨E [(0, .nils), (1, .int k), (4, .int 0), (5, .int 0)], Hp [], 0, 40⟩, fun i => 0, (), Leads.E (by simp [E_cons, E_nil]) rfl rfl, ?_⟩
  rintro ⟨⟩
  simp [go_sem, view, vw]
end Go.Proofs.YtogdmmccbeipkaaGreat.A
namespace Go.Proofs.YtogdmmccbeipkaaGreat.A
open Go Go.Abs Go.Shelf
set_option pp.maxSteps 3000
set_option pp.deepTerms true
set_option linter.unusedSimpArgs false
set_option maxRecDepth 20000

theorem toIntS_f (c : List Int) (hl : Len c) (h : Heap) (nx : Nat) : CallsF Tryz.prog 73 [ints c] h nx 1 (c.map fun x => [.int x]) := by
  refine CallsF.of_pure (by omega) (pureE_cells c) (by simp [go_sem]) (in73 ?_) h nx
  have hl' := hl
  unfold Len at hl'
  simp [go_sem, Tryz.f73, ints]
  refine ⟨hl, {p : Nat × List Int // p.1 ≤ c.length ∧ p.2.length = c.length ∧ p.2.take p.1 = c.take p.1}, fun p => ⟨E [(0, ints c), (2, .nils), (3, .sl 0 c.length 0 c.length), (4, .int p.1.1)], Hp [(0, ⟨1, p.1.2.map fun x => [.int x]⟩)], 1, 22⟩, fun p => c.length - p.1.1, ⟨(0, List.replicate c.length 0), by simp⟩, Leads.E (by simp [E_cons, E_nil, ints]) (by simp) rfl, ?_⟩
  rintro ⟨⟨i, w⟩, hi, hw, ht⟩
  simp only at hi hw ht
  by_cases hlt : i < c.length
  · have hlw : i < w.length := by omega
    simp [go_sem, ints, hlt, hw, List.getElem?_eq_getElem hlw]
    have hms : (w.map fun x => [AV.int x]).set i [AV.int c[i]] = (w.set i c[i]).map fun x => [AV.int x] := by rw [List.map_set]
    rw [hms]
    refine ⟨inR_of (by omega) (by omega), ⟨(i + 1, w.set i c[i]), by simp only; omega, by simp only [List.length_set]; exact hw, ?_⟩, by simp; omega, Leads.E (by simp [E_cons, E_nil, ints]) rfl rfl⟩
    simp only
    rw [List.take_succ_eq_append_getElem (by simpa using hlw), List.take_succ_eq_append_getElem hlt, List.take_set_of_le (Nat.le_refl _), ht]
    simp
  · have hwc : w = c := by
      rw [List.take_of_length_le (by omega), List.take_of_length_le (by omega)] at ht; exact ht
    subst hwc
    simp [go_sem, ints, hlt]

/-- Some slices of integers, each under a name of its own. -/
structure Inner (h : Heap) (cs : List (List Int)) (ms : List Nat) : Prop where
  len : ms.length = cs.length
  at' : ∀ (j : Nat) (m : Nat) (c : List Int), ms[j]? = some m → cs[j]? = some c → h m = some ⟨1, c.map fun x => [.int x]⟩
  nodup : ms.Nodup
theorem Inner.snoc {h h' : Heap} {cs : List (List Int)} {ms : List Nat} {m : Nat} {c : List Int} (H : Inner h cs ms) (hh : ∀ x ∈ ms, h' x = h x) (hm : m ∉ ms) (hc : h' m = some ⟨1, c.map fun x => [.int x]⟩) : Inner h' (cs ++ [c]) (ms ++ [m]) := by
  refine ⟨by simp [H.len], fun j m' c' h1 h2 => ?_, ?_⟩
  · have hl := H.len
    rw [List.getElem?_append] at h1 h2
    by_cases hj : j < ms.length
    · rw [if_pos hj] at h1
      rw [if_pos (by omega)] at h2
      rw [hh m' (List.mem_of_getElem? h1)]
      exact H.at' j m' c' h1 h2
    · rw [if_neg hj] at h1
      rw [if_neg (by omega)] at h2
      have : j - ms.length = 0 := by
        have := (List.getElem?_eq_some_iff.1 h1).1
        simp at this; omega
      rw [this] at h1
      rw [show j - cs.length = 0 by omega] at h2
      simp at h1 h2
      subst h1 h2
      exact hc
  · rw [List.nodup_append]
    refine ⟨H.nodup, by simp, fun a ha b hb => ?_⟩
    simp at hb
    subst hb
    intro e; subst e; exact hm ha
def rowsI (ms : List Nat) (cs : List (List Int)) : List Cells := List.zipWith (fun m (c : List Int) => [.sl m c.length 0 c.length]) ms cs
theorem rowsI_length {ms : List Nat} {cs : List (List Int)} (h : ms.length = cs.length) : (rowsI ms cs).length = cs.length := by simp [rowsI, h]
theorem rowsI_snoc {ms : List Nat} {cs : List (List Int)} (h : ms.length = cs.length) (m : Nat) (c : List Int) : rowsI (ms ++ [m]) (cs ++ [c]) = rowsI ms cs ++ [[.sl m c.length 0 c.length]] := by
  unfold rowsI; rw [List.zipWith_append h]; rfl

/-- Lists under names, as a law makes them. -/
def NestI (nx : Nat) (h h' : Heap) (nx' : Nat) (b : Nat) (ms : List Nat) (cs : List (List Int)) : Prop :=
  (nx ≤ nx' ∧ nx ≤ b ∧ b < nx' ∧ b ∉ ms ∧ ∀ m ∈ ms, nx ≤ m ∧ m < nx') ∧ Inner h' cs ms ∧ h' b = some ⟨1, rowsI ms cs⟩ ∧ ∀ x, x < nx → h' x = h x
theorem toIntSS_a (cs : List (List Int)) (hl : cs.length ≤ 1099511627776) (hc : ∀ c ∈ cs, Len c) (h : Heap) (nx : Nat) (K : AV → Heap → Nat → Prop)
    (hK : ∀ h' nx' b ms, NestI nx h h' nx' b ms cs → K (.sl b cs.length 0 cs.length) h' nx') : CallsA Tryz.prog 39 [intss cs] h nx K := by
  refine in39 ?_
  simp [go_sem, Tryz.f39, intss, alloc_op]
  refine ⟨hl, {p : Nat × Heap × Nat × List Nat // p.1 ≤ cs.length ∧ (nx + 1 ≤ p.2.2.1 ∧ ∀ m ∈ p.2.2.2, nx + 1 ≤ m ∧ m < p.2.2.1) ∧ Inner p.2.1 (cs.take p.1) p.2.2.2 ∧ p.2.1 nx = some ⟨1, rowsI p.2.2.2 (cs.take p.1) ++ List.replicate (cs.length - p.1) [.nils]⟩ ∧ ∀ x, x < nx → p.2.1 x = h x},
    fun p => ⟨E [(0, intss cs), (2, .nils), (3, .sl nx cs.length 0 cs.length), (4, .int p.1.1)], p.1.2.1, p.1.2.2.1, 23⟩, fun p => cs.length - p.1.1, ⟨(0, upd h nx (some ⟨1, List.replicate cs.length [.nils]⟩), nx + 1, []), ?_⟩, Leads.E (by simp [E_cons, E_nil, intss]) rfl rfl, ?_⟩
  · refine ⟨by simp, ⟨Nat.le_refl _, by simp⟩, ⟨by simp, by simp, by simp⟩, by simp [upd, rowsI], fun x hx => ?_⟩
    exact upd_ne (by omega)
  rintro ⟨⟨i, h1, n1, ms⟩, hi, ⟨hn1, hms⟩, hin, hb, hold⟩
  simp only at hi hn1 hms hin hb hold
  have hml := hin.len
  rw [List.length_take] at hml
  by_cases hlt : i < cs.length
  · simp [go_sem, intss, hlt]
    refine (toIntS_f cs[i] (hc _ (List.getElem_mem hlt)) _ _).call ?_
    have hbn : upd h1 n1 (some ⟨1, cs[i].map fun x => [AV.int x]⟩) nx = h1 nx := upd_ne (by omega)
    have hrl : (rowsI ms (cs.take i)).length = i := by rw [rowsI_length (by rw [List.length_take]; omega), List.length_take]; omega
    simp [go_sem, hbn, hb, hrl, hlt]
    refine ⟨by omega, ?_⟩
    have hrep : List.replicate (cs.length - i) [AV.nils] = [AV.nils] :: List.replicate (cs.length - (i + 1)) [AV.nils] := by
      rw [show cs.length - i = (cs.length - (i + 1)) + 1 by omega, List.replicate_succ]
    have hrow : (rowsI ms (cs.take i) ++ List.replicate (cs.length - i) [AV.nils])[i]? = some [AV.nils] := by
      rw [List.getElem?_append_right (by omega), hrl, hrep]; simp
    have hset : ∀ y : Cells, (rowsI ms (cs.take i) ++ List.replicate (cs.length - i) [AV.nils]).set i y = (rowsI ms (cs.take i) ++ [y]) ++ List.replicate (cs.length - (i + 1)) [AV.nils] := fun y => by
      rw [hrep, List.set_append_right _ _ (by omega), hrl]; simp
    rw [hrow]
    simp [go_sem, hset, hput_op]
    have htk : cs.take (i + 1) = cs.take i ++ [cs[i]] := List.take_succ_eq_append_getElem hlt
    have hn1m : n1 ∉ ms := fun hm => by have := hms n1 hm; omega
    refine ⟨inR_of (by omega) (by omega), ⟨(i + 1, upd (upd h1 n1 (some ⟨1, cs[i].map fun x => [.int x]⟩)) nx (some ⟨1, rowsI ms (cs.take i) ++ [.sl n1 cs[i].length 0 cs[i].length] :: List.replicate (cs.length - (i + 1)) [.nils]⟩), n1 + 1, ms ++ [n1]), by simp only; omega, ⟨by simp only; omega, fun m hm => ?_⟩, ?_, ?_, fun x hx => ?_⟩, by simp; omega, Leads.E (by simp [E_cons, E_nil, intss]) rfl rfl⟩
    · simp only
      rcases List.mem_append.1 hm with hm | hm
      · have := hms m hm; omega
      · simp at hm; omega
    · simp only
      rw [htk]
      refine hin.snoc (fun x hx => ?_) hn1m ?_
      · have := hms x hx
        rw [upd_ne (by omega), upd_ne (by omega)]
      · rw [upd_ne (by omega), upd_same']
    · simp only
      rw [upd_same', htk, rowsI_snoc hin.len]; simp
    · simp only
      rw [upd_ne (by omega), upd_ne (by omega)]
      exact hold x hx
  · have hie : i = cs.length := by omega
    subst hie
    rw [List.take_length] at hin hb
    simp at hb
    simp [go_sem, intss]
    exact hK h1 n1 nx ms ⟨⟨by omega, by omega, by omega, fun hm => by have := hms nx hm; omega, fun m hm => by have := hms m hm; omega⟩, hin, hb, hold⟩

theorem Inner.mono {h h' : Heap} {cs : List (List Int)} {ms : List Nat} (H : Inner h cs ms) (hh : ∀ x ∈ ms, h' x = h x) : Inner h' cs ms :=
  ⟨H.len, fun j m c h1 h2 => by rw [hh m (List.mem_of_getElem? h1)]; exact H.at' j m c h1 h2, H.nodup⟩
theorem glue_new {nx n : Nat} {h h0 : Heap} {es : List Cells} {k : Nat} (hn : h0 n = some ⟨k, es⟩) : Abs.glue nx h h0 (nx + n) = some ⟨k, shiftE nx es⟩ := by
  rw [glue_at, hn]; rfl
theorem Inner.glue {h h0 : Heap} {cs : List (List Int)} {ms : List Nat} {nx : Nat} (H : Inner h0 cs ms) : Inner (Abs.glue nx h h0) cs (ms.map (nx + ·)) := by
  refine ⟨by rw [List.length_map]; exact H.len, fun j m c h1 h2 => ?_, ?_⟩
  · rw [List.getElem?_map] at h1
    cases hm : ms[j]? with
    | none => rw [hm] at h1; cases h1
    | some m0 =>
      rw [hm] at h1
      simp only [Option.map_some, Option.some.injEq] at h1
      subst h1
      rw [glue_new (H.at' j m0 c hm h2), shiftE_pure _ _ (pureE_cells c)]
  · exact List.Pairwise.map _ (fun a b (h : a ≠ b) => by omega) H.nodup
theorem rowsI_shift (nx : Nat) : ∀ (ms : List Nat) (cs : List (List Int)), shiftE nx (rowsI ms cs) = rowsI (ms.map (nx + ·)) cs
  | [], _ => rfl
  | _ :: _, [] => rfl
  | m :: ms, c :: cs => by
    have := rowsI_shift nx ms cs
    simp only [shiftE, rowsI, List.zipWith_cons_cons, List.map_cons, AV.shiftL, AV.shift] at this ⊢
    rw [this]
theorem glue_old {nx x : Nat} {h h0 : Heap} (hx : x < nx) : Abs.glue nx h h0 x = h x := by simp [Abs.glue, hx]
theorem NestI.glue {h h0 : Heap} {n0 b nx : Nat} {ms : List Nat} {cs : List (List Int)} (H : NestI 0 (Hp []) h0 n0 b ms cs) : NestI nx h (Abs.glue nx h h0) (nx + n0) (nx + b) (ms.map (nx + ·)) cs := by
  obtain ⟨⟨h1, h2, h3, h4, h5⟩, h6, h7, h8⟩ := H
  refine ⟨⟨by omega, by omega, by omega, fun hm => ?_, fun m hm => ?_⟩, h6.glue, ?_, fun x hx => glue_old hx⟩
  · obtain ⟨m, hm2, e⟩ := List.mem_map.1 hm
    have : m = b := by omega
    exact h4 (this ▸ hm2)
  · obtain ⟨m', hm', rfl⟩ := List.mem_map.1 hm
    have := h5 m' hm'
    omega
  · rw [glue_new h7, rowsI_shift]

/-- A law's Cnf under names. -/
theorem toCnf_a (n : Int) (cs : List (List Int)) (hl : cs.length ≤ 1099511627776) (hc : ∀ c ∈ cs, Len c) (h : Heap) (nx : Nat) (K : AV → Heap → Nat → Prop)
    (hK : ∀ h' nx' b ms, NestI nx h h' nx' b ms cs → K (.agg [.int n, .sl b cs.length 0 cs.length]) h' nx') : CallsA Tryz.prog 11 [cnfA n cs] h nx K := by
  refine CallsA.of_pure (K0 := fun r h0 n0 => ∃ b ms, r = .agg [.int n, .sl b cs.length 0 cs.length] ∧ NestI 0 (Hp []) h0 n0 b ms cs) (by simp [go_sem, cnfA]) ?_ fun r h0 n0 ⟨b, ms, hr, hN⟩ => by
    subst hr
    exact hK _ _ _ _ hN.glue
  refine in11 ?_
  simp [go_sem, Tryz.f11, cnfA]
  refine toIntSS_a cs hl hc _ _ _ fun h' nx' b ms ⟨⟨h1, h2, h3, h4, h5⟩, h6, h7, h8⟩ => ?_
  have f2 := h8 2 (by omega)
  have f1 := h8 1 (by omega)
  have f0 := h8 0 (by omega)
  simp [Hp_cons] at f2 f1 f0
  have g1 : ∀ c, upd h' 2 c 1 = h' 1 := fun c => upd_ne (by omega)
  have g0 : ∀ c, upd h' 2 c 0 = h' 0 := fun c => upd_ne (by omega)
  simp [go_sem, f2, f1, f0, g1, g0, hput_op, upd_same']
  have hne : ∀ x, 3 ≤ x → ∀ c d, upd (upd h' 2 c) 1 d x = h' x := fun x hx c d => by rw [upd_ne (by omega), upd_ne (by omega)]
  refine ⟨ms, ⟨by omega, by omega, h3, h4, fun m hm => ⟨by omega, (h5 m hm).2⟩⟩, h6.mono fun x hx => hne x (h5 x hx).1 _ _, (hne b h2 _ _).trans h7, fun x hx => by omega⟩
end Go.Proofs.YtogdmmccbeipkaaGreat.A
