/- Contracts: slices.DeleteFunc of a list of integers. -/
import Derived.Test.YtogdmmccbeipkaaGreatF11
set_option linter.all false
namespace Go.Proofs.YtogdmmccbeipkaaGreat.A
open Go Go.Abs
set_option pp.maxSteps 3000
set_option pp.deepTerms true
set_option linter.unusedSimpArgs false
set_option maxRecDepth 20000

theorem upd_same (h : Heap) (n : Nat) (b : Option Blk) : upd h n b n = b := by simp [upd]
theorem upd_upd (h : Heap) (n : Nat) (a b : Option Blk) : upd (upd h n a) n b = upd h n b := by funext m; simp only [upd]; split <;> rfl
theorem upd_of_eq {h : Heap} {n : Nat} {b : Option Blk} (e : h n = b) : upd h n b = h := by
  funext m; simp only [upd]; split
  · rename_i e2; rw [e2, e]
  · rfl

theorem DeleteFunc_a (xs : List Int) (g : FuncId) (cap capv : List AV) (p : Int → Bool) (hl : Len xs) (n : Nat) (h : Heap) (nx : Nat) (hcapv : AV.pureL capv = true)
    (hv : ∀ es : List Cells, (cap.map fun a => view 1 (upd h n (some ⟨1, es⟩)) a) = capv) (hp : ∀ x ∈ xs, CallsQ Tryz.prog g (.int x :: capv) (Hp []) 0 (.bool (p x)))
    (hn : h n = some ⟨1, xs.map fun x => [.int x]⟩) (K : AV → Heap → Nat → Prop)
    (hk : ∀ ys : List Int, ys.length = xs.length → ys.take (xs.filter fun x => !p x).length = (xs.filter fun x => !p x) → K (.sl n xs.length 0 (xs.filter fun x => !p x).length) (upd h n (some ⟨1, ys.map fun x => [.int x]⟩)) nx) :
    CallsA Tryz.prog 106 [.sl n xs.length 0 xs.length, .fn (.func g) [] cap] h nx K := by
  have hp' : ∀ x ∈ xs, ∀ es : List Cells, CallsQ Tryz.prog g (.int x :: cap) (upd h n (some ⟨1, es⟩)) nx (.bool (p x)) := fun x hx es => by
    refine CallsQ.of_view 0 rfl ?_
    have e : ((AV.int x :: cap).map fun a => view (0 + 1) (upd h n (some ⟨1, es⟩)) a) = .int x :: capv := by
      simp only [List.map_cons]
      rw [show (0 + 1 : Nat) = 1 from _root_.rfl, hv es]; rfl
    rw [e]
    exact (hp x hx).call rfl
  have hvl : vwL h (view 0 h) cap = capv := by
    have h1 := hv (xs.map fun x => [.int x])
    rw [upd_of_eq hn, show (1 : Nat) = 0 + 1 from _root_.rfl, vwL_eq 0 cap] at h1
    exact h1
  refine in106 ?_
  simp [go_sem, Tryz.f106]
  refine (CallsQ.of_view 0 rfl (r := .int (indexP xs p)) ?_).call ?_
  · have e : (([.sl n xs.length 0 xs.length, .fn (.func g) [] cap] : List AV).map fun a => view (0 + 1) h a) = [ints xs, .fn (.func g) [] capv] := by
      simp only [List.map_cons, List.map_nil]
      rw [view_ints 0 hn rfl]
      show [ints xs, AV.fn (.func g) [] (vwL h (view 0 h) cap)] = _
      rw [hvl]
    rw [e]
    exact (IndexFunc_q xs g capv p hcapv hl hp _ _).call rfl
  · simp [go_sem]
    by_cases h1 : indexP xs p = -1
    · simp [go_sem, h1]
      have hany : xs.any p = false := by rw [← any_indexP, h1]; rfl
      have hf : (xs.filter fun x => !p x) = xs := by
        rw [List.filter_eq_self]; intro x hx; rw [List.any_eq_false] at hany; simpa using hany x hx
      have hk' := hk xs rfl (by rw [hf, List.take_length])
      rw [hf, upd_of_eq hn] at hk'
      exact hk'
    · obtain ⟨i0, hi0, hpi, hbefore⟩ := indexP_some h1
      simp [go_sem, h1]
      have hlen := hl
      unfold Len at hlen
      have hb : indexP xs p = i0 := hpi.1
      refine ⟨inR_of (by omega) (by omega), ?_⟩
      refine ⟨{q : Nat × Nat × List Int // (q.1 ≤ q.2.1 ∧ q.2.1 ≤ xs.length ∧ q.2.2.length = xs.length) ∧ q.2.2.take q.1 = (xs.take q.2.1).filter (fun x => !p x) ∧ q.2.2.drop q.2.1 = xs.drop q.2.1},
        fun q => ⟨E [(0, .sl n xs.length 0 xs.length), (1, .fn (.func g) [] cap), (4, .nils), (5, .int q.1.1), (6, .int q.1.2.1)], upd h n (some ⟨1, q.1.2.2.map fun x => [.int x]⟩), nx, 42⟩,
        fun q => xs.length - q.1.2.1, ⟨(i0, i0 + 1, xs), ?_⟩, ?_, ?_⟩
      · refine ⟨⟨by simp, by simp only; omega, rfl⟩, ?_, rfl⟩
        simp only
        rw [filter_next hi0]
        have h3 : (xs.take i0).filter (fun x => !p x) = xs.take i0 := by
          rw [List.filter_eq_self]; intro x hx; rw [List.any_eq_false] at hbefore; simpa using hbefore x hx
        rw [h3, hpi.2]; simp
      · refine Leads.E (by simp [E_cons, E_nil, hb]) ?_ rfl
        rw [upd_of_eq hn]
      · rintro ⟨⟨i, j, ys⟩, ⟨hij, hj, hyl⟩, ht, hd⟩
        simp only at hij hj hyl ht hd
        by_cases hlt : j < xs.length
        · have hjl : j < ys.length := by omega
          have hyj : ys[j] = xs[j] := by
            have e1 : ys[j]? = xs[j]? := by
              have := congrArg (fun l => l[0]?) hd
              simpa using this
            rw [List.getElem?_eq_getElem hjl, List.getElem?_eq_getElem hlt] at e1
            exact Option.some.inj e1
          simp [go_sem, hlt, upd_same, AS.hput, upd_upd, hjl, hyl, hyj]
          refine (hp' _ (List.getElem_mem hlt) _).call ?_
          cases h2 : p xs[j]
          · have hil : i < ys.length := by omega
            have hil' : i < xs.length := by omega
            simp [go_sem, upd_same, AS.hput, upd_upd, hyl, hil', List.getElem?_eq_getElem hil]
            have hms : (ys.map fun x => [AV.int x]).set i [AV.int xs[j]] = (ys.set i xs[j]).map fun x => [AV.int x] := by rw [List.map_set]
            rw [hms]
            refine ⟨inR_of (by omega) (by omega), inR_of (by omega) (by omega), ⟨(i + 1, j + 1, ys.set i xs[j]), ⟨by simp only; omega, by simp only; omega, by simp only [List.length_set]; exact hyl⟩, ?_, ?_⟩, by simp; omega, Leads.E (by simp [E_cons, E_nil]) rfl rfl⟩
            · simp only
              rw [filter_next hlt, ← ht, List.take_succ_eq_append_getElem (by simpa using hil)]
              simp [h2, List.take_set_of_le]
            · simp only
              rw [List.drop_set_of_lt (by omega), ← List.drop_drop, hd, List.drop_drop]
          · simp [go_sem, upd_same, AS.hput, upd_upd]
            refine ⟨inR_of (by omega) (by omega), ⟨(i, j + 1, ys), ⟨by simp only; omega, by simp only; omega, hyl⟩, ?_, ?_⟩, by simp; omega, Leads.E (by simp [E_cons, E_nil]) rfl rfl⟩
            · simp only; rw [ht, filter_next hlt]; simp [h2]
            · simp only; rw [← List.drop_drop, hd, List.drop_drop]
        · simp [go_sem, hlt, upd_same, AS.hput, upd_upd]
          rw [List.take_of_length_le (l := xs) (by omega)] at ht
          have hi : i = (xs.filter fun x => !p x).length := by
            have := congrArg List.length ht
            rw [List.length_take] at this
            omega
          refine ⟨by omega, hyl, by omega, by omega, ?_⟩
          have hk' := hk (ys.take i ++ (List.replicate (xs.length - i) 0 ++ ys.drop (i + (xs.length - i)))) (by simp; omega) (by rw [← hi, List.take_append_of_le_length (by simp; omega), List.take_take, Nat.min_self]; exact ht)
          rw [← hi] at hk'
          simpa [List.map_take, List.map_drop] using hk'
end Go.Proofs.YtogdmmccbeipkaaGreat.A
