/- Contracts: the laws' own functions on lists of truth values. -/
import Derived.Test.YtogdmmccbeipkaaGreatL3
import Derived.Test.YtogdmmccbeipkaaGreatF28
set_option linter.all false
namespace Go.Proofs.YtogdmmccbeipkaaGreat.A
open Go Go.Abs Go.Shelf
set_option pp.maxSteps 3000
set_option pp.deepTerms true
set_option linter.unusedSimpArgs false
set_option maxRecDepth 20000

theorem pure_bools (b : List Bool) : (bools b).pure = true := by
  simp only [bools, AV.pure]
  induction b with
  | nil => rfl
  | cons x r ih => simp [AV.pureE, AV.pureL, AV.pure] at ih ⊢; try exact ih
theorem eqBoolS_q (a : List Bool) (hl : a.length ≤ 281474976710656) (h : Heap) (nx : Nat) : CallsQ Tryz.prog 25 [bools a, bools a] h nx (.bool true) := by
  refine CallsQ.of_pure 1 (by simp [go_sem, pure_bools]) (in25 ?_) h nx
  simp [go_sem, Tryz.f25, bools]
  refine ⟨{i : Nat // i ≤ a.length}, fun i => ⟨E [(0, bools a), (1, bools a), (4, .bool false), (5, .int i.1)], Hp [], 0, 26⟩, fun i => a.length - i.1, ⟨0, by simp⟩, Leads.E (by simp [E_cons, E_nil, bools]) rfl rfl, ?_⟩
  rintro ⟨i, hi⟩
  by_cases hlt : i < a.length
  · simp [go_sem, bools, hlt]
    exact ⟨inR_of (by omega) (by omega), ⟨i + 1, by omega⟩, by simp; omega, Leads.E (by simp [E_cons, E_nil, bools]) rfl rfl⟩
  · simp [go_sem, bools, hlt, view, vw]
theorem eqBoolS_nil (h : Heap) (nx : Nat) : CallsQ Tryz.prog 25 [.nils, bools []] h nx (.bool true) := by
  refine CallsQ.of_pure 1 (by simp [go_sem, pure_bools]) (in25 ?_) h nx
  simp [go_sem, Tryz.f25, bools]
  refine ⟨Unit, fun i => ⟨E [(0, .nils), (1, bools []), (4, .bool false), (5, .int 0)], Hp [], 0, 26⟩, fun i => 0, (), Leads.E (by simp [E_cons, E_nil, bools]) rfl rfl, ?_⟩
  rintro ⟨⟩
  simp [go_sem, bools, view, vw]
/-- What marking leaves. -/
def markB (k : Int) (L : Nat) : List Bool := (List.range L).map fun i : Nat => decide ((k + (i : Int)).tmod 3 = 0)
theorem markB_length (k : Int) (L : Nat) : (markB k L).length = L := by simp [markB]
theorem heldBoolS_q (k : Int) (L : Nat) (hk : 0 ≤ k ∧ k ≤ 1000000000) (hL : L ≤ 1000000000) (h : Heap) (nx : Nat) : CallsQ Tryz.prog 27 [bools (markB k L), .int k] h nx (.int (k + L)) := by
  refine CallsQ.of_pure 1 (by simp [go_sem, pure_bools]) (in27 ?_) h nx
  simp [go_sem, Tryz.f27, bools]
  have hlen := markB_length k L
  refine ⟨{i : Nat // i ≤ L}, fun i => ⟨E [(0, bools (markB k L)), (1, .int (k + i.1)), (4, .int 0), (5, .int i.1)], Hp [], 0, 23⟩, fun i => L - i.1, ⟨0, by simp⟩, Leads.E (by simp [E_cons, E_nil, bools]) rfl rfl, ?_⟩
  rintro ⟨i, hi⟩
  by_cases hlt : i < L
  · have hlt' : i < (markB k L).length := by omega
    have hg : (markB k L)[i] = decide ((k + (i : Int)).tmod 3 = 0) := by simp [markB]
    simp [go_sem, bools, hlen, hlt, hlt', hg]
    exact ⟨inR_of (by omega) (by omega), inR_of (by omega) (by omega), ⟨i + 1, by omega⟩, by simp; omega, Leads.E (by simp [E_cons, E_nil, bools]; omega) rfl rfl⟩
  · have : i = L := by omega
    subst this
    simp [go_sem, bools, hlen, view, vw]
theorem heldBoolS_nil (k : Int) (h : Heap) (nx : Nat) : CallsQ Tryz.prog 27 [.nils, .int k] h nx (.int k) := by
  refine CallsQ.of_pure 1 (by simp [go_sem, pure_bools]) (in27 ?_) h nx
  simp [go_sem, Tryz.f27]
  refine ⟨Unit, fun i => ⟨E [(0, .nils), (1, .int k), (4, .int 0), (5, .int 0)], Hp [], 0, 23⟩, fun i => 0, (), Leads.E (by simp [E_cons, E_nil]) rfl rfl, ?_⟩
  rintro ⟨⟩
  simp [go_sem, view, vw]
theorem markBoolS_nil (k : Int) (h : Heap) (nx : Nat) : CallsQ Tryz.prog 26 [.nils, .int k] h nx (.int k) := by
  refine CallsQ.of_pure 1 (by simp [go_sem, pure_bools]) (in26 ?_) h nx
  simp [go_sem, Tryz.f26]
  refine ⟨Unit, fun i => ⟨E [(0, .nils), (1, .int k), (4, .int 0), (5, .int 0)], Hp [], 0, 21⟩, fun i => 0, (), Leads.E (by simp [E_cons, E_nil]) rfl rfl, ?_⟩
  rintro ⟨⟩
  simp [go_sem, view, vw]
theorem markBoolS_a (gs : List Bool) (g : Nat) (k : Int) (hk : 0 ≤ k ∧ k + gs.length ≤ 1000000000) (h : Heap) (nx : Nat) (K : AV → Heap → Nat → Prop) (hg : h g = some ⟨1, bcells gs⟩)
    (hK : K (.int (k + gs.length)) (upd h g (some ⟨1, bcells (markB k gs.length)⟩)) nx) : CallsA Tryz.prog 26 [.sl g gs.length 0 gs.length, .int k] h nx K := by
  refine in26 ?_
  simp [go_sem, Tryz.f26, hg]
  refine ⟨{p : Nat × List Bool // p.1 ≤ gs.length ∧ p.2.length = gs.length ∧ p.2.take p.1 = markB k p.1}, fun p => ⟨E [(0, .sl g gs.length 0 gs.length), (1, .int (k + p.1.1)), (4, .int 0), (5, .int p.1.1)], upd h g (some ⟨1, bcells p.1.2⟩), nx, 21⟩, fun p => gs.length - p.1.1, ⟨(0, gs), by simp [markB]⟩, Leads.E (by simp [E_cons, E_nil]) (upd_of_eq hg) rfl, ?_⟩
  rintro ⟨⟨i, w⟩, hi, hw, ht⟩
  simp only at hi hw ht
  by_cases hlt : i < gs.length
  · have hlw : i < w.length := by omega
    have hbl : (bcells w).length = gs.length := by simp [bcells]; omega
    have hbi : ∀ h, (bcells w)[i]'h = [.bool w[i]] := fun h => by simp [bcells]
    simp [go_sem, hlt, hw, hbl, hbi, upd_same', hput_op, upd_upd]
    have hms : (bcells w).set i [.bool (decide ((k + (i : Int)).tmod 3 = 0))] = bcells (w.set i (decide ((k + (i : Int)).tmod 3 = 0))) := by unfold bcells; rw [List.map_set]
    rw [hms]
    refine ⟨inR_of (by omega) (by omega), inR_of (by omega) (by omega), ⟨(i + 1, w.set i (decide ((k + (i : Int)).tmod 3 = 0))), by simp only; omega, by simp only [List.length_set]; exact hw, ?_⟩, by simp; omega, Leads.E (by simp [E_cons, E_nil]; omega) rfl rfl⟩
    simp only
    rw [List.take_succ_eq_append_getElem (by simpa using hlw), List.take_set_of_le (Nat.le_refl _), ht]
    simp [markB, List.range_succ]
  · have : i = gs.length := by omega
    subst this
    rw [List.take_of_length_le (by omega)] at ht
    subst ht
    simp [go_sem]
    exact hK
end Go.Proofs.YtogdmmccbeipkaaGreat.A
