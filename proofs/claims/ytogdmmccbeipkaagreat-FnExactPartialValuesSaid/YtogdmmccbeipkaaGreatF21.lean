/- Contracts: the program's monotone interpolants. -/
import Derived.Test.YtogdmmccbeipkaaGreatF20
set_option linter.all false
namespace Go.Proofs.YtogdmmccbeipkaaGreat.A
open Go Go.Abs Go.Shelf
set_option pp.maxSteps 3000
set_option pp.deepTerms true
set_option linter.unusedSimpArgs false
set_option maxRecDepth 20000

theorem lastI_q (a : List Int) (n : Nat) (h : Heap) (nx : Nat) (hn : h n = some ⟨1, a.map fun x => [.int x]⟩) (ha : 0 < a.length) (hl : a.length ≤ 1000) : CallsQ Tryz.prog 113 [.sl n a.length 0 a.length] h nx (.int (atI a (a.length - 1))) := by
  refine in113 ?_
  have h1 : ((a.length : Int) - 1).toNat = a.length - 1 := by omega
  have h2 : a.length - 1 < a.length := by omega
  have h3 : (a.length : Int) - 1 < (a.length : Int) := by omega
  have e : atI a (a.length - 1) = a[a.length - 1] := by unfold atI; rw [h1, List.getD_eq_getElem?_getD, List.getElem?_eq_getElem h2]; rfl
  rw [e]
  simp [go_sem, Tryz.f113, hn, h1]
  refine ⟨inR_of (by omega) (by omega), by omega, ?_⟩
  rw [List.getElem?_eq_getElem h2]
  simp [go_sem]

theorem circuit_a (m g a : Nat) (sp : AV) (gs : List G3) (at' : List Int) (h : Heap) (nx : Nat) (K : AV → Heap → Nat → Prop)
    (hm : h m = some ⟨3, [[sp, .sl g gs.length 0 gs.length, .sl a at'.length 0 at'.length]]⟩) (hg : h g = some ⟨3, gs.map gcell⟩) (ha : h a = some ⟨1, at'.map fun x => [.int x]⟩) (hgl : gs.length ≤ 100000) (hal : 0 < at'.length ∧ at'.length ≤ 1000)
    (hat : ∀ x ∈ at', 0 ≤ x ∧ x < gs.length)
    (hK0 : gs.length > 200 → K (.tup [.nils, .bool false]) h nx)
    (hK : ¬ gs.length > 200 → K (.tup [.sl g gs.length 0 (atI at' (at'.length - 1) + 1).toNat, .bool true]) h nx) :
    CallsA Tryz.prog 79 [.ptr m 1 0 0] h nx K := by
  refine in79 ?_
  simp [go_sem, Tryz.f79, hm, hg, ha]
  by_cases h1 : gs.length > 200
  · have h1' : (200 : Int) < gs.length := by omega
    simp [go_sem, h1']
    exact hK0 h1
  · have h1' : ¬ (200 : Int) < gs.length := by omega
    simp [go_sem, h1', hm, hg, ha]
    have hl1 : at'.length - 1 < at'.length := by omega
    have eL : atI at' (at'.length - 1) = at'[at'.length - 1] := by
      unfold atI; rw [show ((at'.length : Int) - 1).toNat = at'.length - 1 by omega, List.getD_eq_getElem?_getD, List.getElem?_eq_getElem hl1]; rfl
    have mL := hat _ (List.getElem_mem hl1)
    rw [← eL] at mL
    refine ⟨_, lastI_q at' a _ _ ha hal.1 hal.2, ?_⟩
    simp [go_sem, hg]
    exact ⟨inR_of (by omega) (by omega), ⟨by omega, by omega⟩, hK h1⟩

/-- What is handed back: nothing, or a new circuit. -/
def OutG (o : Option (List G3)) (r : AV) (h0 : Heap) : Prop := match o with
  | none => r = .tup [.nils, .bool false]
  | some gs => ∃ n ys, (r = .tup [.sl n ys.length 0 gs.length, .bool true] ∧ h0 n = some ⟨3, ys⟩) ∧ ys.take gs.length = gs.map gcell ∧ AV.pureE ys = true
theorem OutG.glue {o : Option (List G3)} {r : AV} {h0 h : Heap} {nx : Nat} (hO : OutG o r h0) : OutG o (AV.shift nx r) (Abs.glue nx h h0) := by
  cases o with
  | none => simp only [OutG] at hO ⊢; subst hO; rfl
  | some gs =>
    obtain ⟨n, ys, ⟨rfl, hn⟩, ht, hp⟩ := hO
    refine ⟨nx + n, ys, ⟨rfl, ?_⟩, ht, hp⟩
    rw [glue_at, hn]
    simp [Blk.shift, shiftE_pure nx ys hp]
theorem pureE_gates (g : List G3) : AV.pureE (g.map gcell) = true := by
  have := pure_gates g
  simpa [gatesA, AV.pure] using this

def wiredM (n : Int) (cs : List (List Int)) (k : Int) (ss : List Step') (ax : Nat → Step' → List G3) (sh : Nat → Int → Int → Int → List G3) : Option (List G3) :=
  if goodB n cs && inB k 0 cs.length && refutB n cs ss then
    (if (wireM cs k.toNat ax sh ss ([], [])).1.length > 200 then none else some ((wireM cs k.toNat ax sh ss ([], [])).1.take (atI (wireM cs k.toNat ax sh ss ([], [])).2 ((wireM cs k.toNat ax sh ss ([], [])).2.length - 1) + 1).toNat))
  else none
theorem wired_a (n : Int) (cs : List (List Int)) (k : Int) (ss : List Step') (fa fs : FuncId) (ax : Nat → Step' → List G3) (B : Nat) (sh : Nat → Int → Int → Int → List G3)
    (hax : 0 ≤ k → AxOk fa n cs k.toNat ax B (fun _ => True)) (hsh : ShOk fs sh) (hB : B ≤ 64) (ok : OkC n cs) (oks : OkS ss) :
    CallsA Tryz.prog 42 [cnfA n cs, .int k, stepsA ss, rulesA fa fs] (Hp []) 0 (fun r h0 _ => OutG (wiredM n cs k ss ax sh) r h0) := by
  refine in42 ?_
  simp [go_sem, Tryz.f42, cnfA, rulesA]
  refine (splitOf_q n cs k ok _ _).call ?_
  cases h1 : goodB n cs && inB k 0 cs.length
  · simp [go_sem, wiredM, h1, OutG]
  simp [go_sem]
  refine (IsRefutation_q n cs ss ok oks _ _).call ?_
  cases h2 : refutB n cs ss
  · simp [go_sem, wiredM, h2, OutG]
  have hg1 : goodB n cs = true ∧ inB k 0 cs.length = true := by simpa using h1
  have hk : 0 ≤ k ∧ k ≤ cs.length := by have := hg1.2; simpa [inB] using this
  obtain ⟨kn, rfl⟩ : ∃ m : Nat, k = m := ⟨k.toNat, by omega⟩
  have hkn : kn ≤ cs.length := by omega
  have hd : derivB n cs ss = true ∧ 0 < ss.length := by simp only [refutB, Bool.and_eq_true, decide_eq_true_eq] at h2; exact h2.1
  have hle : ss.length ≤ 200 := by have := hd.1; simp only [derivB, Bool.and_eq_true, decide_eq_true_eq] at this; exact this.1.1
  simp [go_sem]
  have hW := fun (nx : Nat) (h : Heap) (K : AV → Heap → Nat → Prop) hK => CallsA.of_pure (h := h) (nx := nx) (K := K) (by simp [go_sem, splitA, rulesA, AV.pure, AV.pureL]) (wire_a fa fs ax B (fun _ => True) sh n cs kn (hax (by omega)) hsh hB ok hg1.1 hkn ss hle (fun _ _ => trivial) (fun i hi => correct_idx hi rfl (deriv_all hd.1 i hi))
    (fun r h0 n0 => r = .ptr 1 1 0 0 ∧ ∃ g a, wireM cs kn ax sh ss ([], []) = (g, a) ∧ a.length = ss.length ∧ g.length ≤ 64 * ss.length ∧ (∀ x ∈ a, 0 ≤ x ∧ x < g.length) ∧ h0 1 = some ⟨3, [[splitA n cs kn, .sl 2 g.length 0 g.length, .sl 3 a.length 0 a.length]]⟩ ∧ h0 2 = some ⟨3, g.map gcell⟩ ∧ h0 3 = some ⟨1, a.map fun x => [.int x]⟩)
    (fun h' nx' g a _ e1 e2 e3 e4 e5 e6 e7 => ⟨rfl, g, a, e1, e2, e3, e4, e5, e6, e7⟩)) hK
  refine hW 2 _ _ fun r h0 n0 ⟨hr, g, a, e1, e2, e3, e4, e5, e6, e7⟩ => ?_
  subst hr
  simp [go_sem, AV.shift]
  generalize hgl : Abs.glue 2 _ h0 = hh
  have f5 : hh (2 + 1) = some ⟨3, [[splitA n cs kn, .sl 4 g.length 0 g.length, .sl 5 a.length 0 a.length]]⟩ := by
    rw [← hgl, glue_at, e5]
    simp [Blk.shift, shiftE, AV.shiftL, AV.shift, splitA]
  have f6 : hh (2 + 2) = some ⟨3, g.map gcell⟩ := by
    rw [← hgl, glue_at, e6]
    simp [Blk.shift, shiftE_pure _ _ (pureE_gates g)]
  have f7 : hh (2 + 3) = some ⟨1, a.map fun x => [.int x]⟩ := by
    rw [← hgl, glue_at, e7]
    simp [Blk.shift, shiftE_pure _ _ (pureE_cells a)]
  refine circuit_a 3 4 5 _ g a _ _ _ f5 f6 f7 (by omega) (by omega) e4 (fun hgt => ?_) (fun hgt => ?_)
  · simp [go_sem]
    simp [wiredM, h1, h2, e1, hgt, OutG]
  · simp [go_sem]
    have hw : wiredM n cs kn ss ax sh = some (g.take (atI a (a.length - 1) + 1).toNat) := by
      unfold wiredM
      rw [if_pos (by simp [hg1.1, hg1.2, h2])]
      simp only [Int.toNat_natCast, e1]
      rw [if_neg hgt]
    rw [hw]
    have hlast : atI a (a.length - 1) < g.length ∧ 0 ≤ atI a (a.length - 1) := by
      have hl1 : a.length - 1 < a.length := by omega
      unfold atI; rw [show ((a.length : Int) - 1).toNat = a.length - 1 by omega, List.getD_eq_getElem?_getD, List.getElem?_eq_getElem hl1]
      have := e4 _ (List.getElem_mem hl1)
      exact ⟨this.2, this.1⟩
    refine ⟨4, g.map gcell, ⟨?_, f6⟩, ?_, pureE_gates g⟩
    · simp; omega
    · rw [List.map_take, List.length_take]
      congr 1
      omega
end Go.Proofs.YtogdmmccbeipkaaGreat.A
