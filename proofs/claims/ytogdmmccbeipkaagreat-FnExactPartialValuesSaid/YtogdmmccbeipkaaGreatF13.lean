/- Contracts: slices.Compact, Concat. -/
import Derived.Test.YtogdmmccbeipkaaGreatF12
import Derived.Test.YtogdmmccbeipkaaGreatAbsSort
set_option linter.all false
namespace Go.Proofs.YtogdmmccbeipkaaGreat.A
open Go Go.Abs
set_option pp.maxSteps 3000
set_option pp.deepTerms true
set_option linter.unusedSimpArgs false
set_option maxRecDepth 20000

/-- The elements at the first places that differ from the one before. -/
def newAt (xs : List Int) (i : Nat) : Bool := decide (i = 0) || !decide (xs.getD i 0 = xs.getD (i - 1) 0)
def compactI (xs : List Int) (n : Nat) : List Int := ((List.range n).filter (newAt xs)).map fun i => xs.getD i 0
theorem compactI_next (xs : List Int) (n : Nat) : compactI xs (n + 1) = compactI xs n ++ if newAt xs n then [xs.getD n 0] else [] := by
  unfold compactI
  rw [List.range_succ, List.filter_append, List.map_append]
  congr 1
  cases h : newAt xs n <;> simp [List.filter, h]
theorem compactI_length (xs : List Int) (n : Nat) : (compactI xs n).length ≤ n := by
  have := List.length_filter_le (newAt xs) (List.range n)
  simpa [compactI] using this

theorem Compact_a (xs : List Int) (hl : Len xs) (n : Nat) (h : Heap) (nx : Nat) (hn : h n = some ⟨1, xs.map fun x => [.int x]⟩) (K : AV → Heap → Nat → Prop)
    (hk : ∀ ys : List Int, ys.length = xs.length → ys.take (compactI xs xs.length).length = compactI xs xs.length → K (.sl n xs.length 0 (compactI xs xs.length).length) (upd h n (some ⟨1, ys.map fun x => [.int x]⟩)) nx) :
    CallsA Tryz.prog 132 [.sl n xs.length 0 xs.length] h nx K := by
  refine in132 ?_
  simp [go_sem, Tryz.f132]
  have hlen := hl
  unfold Len at hlen
  have same : compactI xs xs.length = xs → K (.sl n xs.length 0 xs.length) h nx := fun e => by
    have := hk xs rfl (by rw [e, List.take_length])
    rw [e, upd_of_eq hn] at this
    exact this
  by_cases h2 : (xs.length : Int) < 2
  · simp [go_sem, h2]
    refine same ?_
    match xs, h2 with
    | [], _ => rfl
    | [x], _ => rfl
    | x :: y :: r, h2 => simp at h2; omega
  · simp [go_sem, h2]
    refine ⟨{k : Nat // (1 ≤ k ∧ k ≤ xs.length) ∧ compactI xs k = xs.take k}, fun k => ⟨E [(0, .sl n xs.length 0 xs.length), (2, .nils), (8, .bool false), (3, .int k.1)], h, nx, 61⟩, fun k => xs.length - k.1, ⟨1, ⟨by omega, by omega⟩, ?_⟩, Leads.E (by simp [E_cons, E_nil]) rfl rfl, ?_⟩
    · match xs, h2 with
      | x :: r, _ => rfl
      | [], h2 => simp at h2
    · rintro ⟨k, ⟨hk1, hk2⟩, hc⟩
      by_cases hlt : k < xs.length
      · have hk1' : k - 1 < xs.length := by omega
        simp [go_sem, hlt, hn]
        refine ⟨inR_of (by omega) (by omega), ⟨by omega, by omega⟩, ?_⟩
        have e1 : ((k : Int) - 1).toNat = k - 1 := by omega
        simp [go_sem, hlt, hn, e1, hk1']
        by_cases heq : xs[k] = xs[k - 1]
        · simp [go_sem, heq, hlt, hn]
          refine ⟨hk2, ?_⟩
          have nk : newAt xs k = false := by simp [newAt, List.getD_eq_getElem?_getD, hlt, hk1', heq]; omega
          refine ⟨{q : Nat × Nat × List Int // ((1 ≤ q.2.1 ∧ k + q.2.1 ≤ xs.length) ∧ q.1 + 1 ≤ k + q.2.1 ∧ q.2.2.length = xs.length) ∧ q.2.2.take q.1 = compactI xs (k + q.2.1) ∧ q.2.2.drop (k + q.2.1 - 1) = xs.drop (k + q.2.1 - 1)},
            fun q => ⟨E [(0, .sl n xs.length 0 xs.length), (2, .nils), (8, .bool false), (3, .int q.1.1), (4, .sl n xs.length k (xs.length - k)), (5, .int q.1.2.1)], upd h n (some ⟨1, q.1.2.2.map fun x => [.int x]⟩), nx, 61⟩,
            fun q => xs.length - q.1.2.1, ⟨(k, 1, xs), ⟨⟨by simp, by simp only; omega⟩, by simp, rfl⟩, ?_, rfl⟩, Leads.E (by simp [E_cons, E_nil]) (upd_of_eq hn) rfl, ?_⟩
          · simp only
            rw [compactI_next, nk, hc]; simp
          · rintro ⟨⟨i, k2, ys⟩, ⟨⟨hk21, hk22⟩, hik, hyl⟩, ht, hd⟩
            simp only at hk21 hk22 hik hyl ht hd
            have at1 : ∀ d, k + k2 - 1 ≤ d → d < xs.length → ys[d]? = xs[d]? := fun d h1 h2 => by
              have := congrArg (fun l => l[d - (k + k2 - 1)]?) hd
              simp only [List.getElem?_drop] at this
              rwa [show k + k2 - 1 + (d - (k + k2 - 1)) = d by omega] at this
            by_cases hl2 : k + k2 < xs.length
            · have c1 : (k2 : Int) < ((xs.length - k : Nat) : Int) := by omega
              have c2 : (k2 : Int) - 1 < ((xs.length - k : Nat) : Int) := by omega
              have g1 : ys[k + k2]? = some xs[k + k2] := by rw [at1 _ (by omega) hl2, List.getElem?_eq_getElem hl2]
              have hl3 : k + k2 - 1 < xs.length := by omega
              have g2 : ys[k + k2 - 1]? = some xs[k + k2 - 1] := by rw [at1 _ (by omega) (by omega), List.getElem?_eq_getElem hl3]
              have e2 : k + (k2 - 1) = k + k2 - 1 := by omega
              simp [go_sem, hlt, c1, upd_same, AS.hput, upd_upd, hyl, g1, g2]
              refine ⟨inR_of (by omega) (by omega), ⟨by omega, c2⟩, ?_⟩
              rw [e2, g2]
              simp [go_sem]
              by_cases hne : xs[k + k2] = xs[k + k2 - 1]
              · have nn : newAt xs (k + k2) = false := by simp [newAt, List.getD_eq_getElem?_getD, hl2, hl3, hne]; omega
                simp [go_sem, hne]
                refine ⟨inR_of (by omega) (by omega), ⟨(i, k2 + 1, ys), ⟨⟨by simp only; omega, by simp only; omega⟩, by simp only; omega, hyl⟩, ?_, ?_⟩, by simp; omega, Leads.E (by simp [E_cons, E_nil]) rfl rfl⟩
                · simp only
                  rw [ht, show k + (k2 + 1) = k + k2 + 1 by omega, compactI_next, nn]; simp
                · simp only
                  rw [show k + (k2 + 1) - 1 = (k + k2 - 1) + 1 by omega, ← List.drop_drop, hd, List.drop_drop]
              · have nn : newAt xs (k + k2) = true := by simp [newAt, List.getD_eq_getElem?_getD, hl2, hl3, hne]
                have hil : i < ys.length := by omega
                have hil' : i < xs.length := by omega
                simp [go_sem, hne, hlt, c1, upd_same, AS.hput, upd_upd, hyl, g1, hil', List.getElem?_eq_getElem hil]
                have hms : (ys.map fun x => [AV.int x]).set i [AV.int xs[k + k2]] = (ys.set i xs[k + k2]).map fun x => [AV.int x] := by rw [List.map_set]
                rw [hms]
                refine ⟨inR_of (by omega) (by omega), inR_of (by omega) (by omega), ⟨(i + 1, k2 + 1, ys.set i xs[k + k2]), ⟨⟨by simp only; omega, by simp only; omega⟩, by simp only; omega, by simp only [List.length_set]; exact hyl⟩, ?_, ?_⟩, by simp; omega, Leads.E (by simp [E_cons, E_nil]) rfl rfl⟩
                · simp only
                  rw [show k + (k2 + 1) = k + k2 + 1 by omega, compactI_next, nn, ← ht, List.take_succ_eq_append_getElem (by simpa using hil)]
                  simp [List.take_set_of_le, List.getD_eq_getElem?_getD, hl2]
                · simp only
                  rw [List.drop_set_of_lt (by omega), show k + (k2 + 1) - 1 = (k + k2 - 1) + 1 by omega, ← List.drop_drop, hd, List.drop_drop]
            · have c1 : ¬ (k2 : Int) < ((xs.length - k : Nat) : Int) := by omega
              have hkk : k + k2 = xs.length := by omega
              rw [hkk] at ht
              have hi : i = (compactI xs xs.length).length := by
                have := congrArg List.length ht
                rw [List.length_take] at this
                omega
              simp [go_sem, hlt, c1, upd_same, AS.hput, upd_upd, hyl]
              refine ⟨by omega, by omega, ?_⟩
              have hk' := hk (ys.take i ++ (List.replicate (xs.length - i) 0 ++ ys.drop (i + (xs.length - i)))) (by simp; omega) (by rw [← hi, List.take_append_of_le_length (by simp; omega), List.take_take, Nat.min_self]; exact ht)
              rw [← hi] at hk'
              simpa [List.map_take, List.map_drop] using hk'
        · simp [go_sem, heq]
          refine ⟨inR_of (by omega) (by omega), ⟨k + 1, by omega, ?_⟩, by simp; omega, Leads.E (by simp [E_cons, E_nil]) rfl rfl⟩
          rw [compactI_next, hc, List.take_succ_eq_append_getElem hlt]
          have : newAt xs k = true := by simp [newAt, List.getD_eq_getElem?_getD, hlt, hk1', heq]
          simp [this, List.getD_eq_getElem?_getD, hlt]
      · have : k = xs.length := by omega
        subst this
        simp [go_sem]
        exact same (by rw [hc, List.take_length])
end Go.Proofs.YtogdmmccbeipkaaGreat.A
