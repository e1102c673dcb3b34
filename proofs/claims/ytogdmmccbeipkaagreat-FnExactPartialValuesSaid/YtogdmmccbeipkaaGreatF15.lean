/- Contracts: slices.Grow, Concat; variables of clauses. -/
import Derived.Test.YtogdmmccbeipkaaGreatF14
import Derived.Test.YtogdmmccbeipkaaGreatAbsNew
set_option linter.all false
namespace Go.Proofs.YtogdmmccbeipkaaGreat.A
open Go Go.Abs Go.Shelf
set_option pp.maxSteps 3000
set_option pp.deepTerms true
set_option linter.unusedSimpArgs false
set_option maxRecDepth 20000

theorem Grow_f (m : Nat) (hm : m ≤ 1099511627776) (h : Heap) (nx : Nat) : CallsF Tryz.prog 175 [.nils, .int m] h nx 1 [] := by
  refine ⟨⟨_, Tryz.func175, rfl, by kernel_rfl⟩, fun C vs H hv => ?_⟩
  obtain ⟨v, r, rfl, h1, v2, r2, rfl, h2, h3⟩ := hv
  simp only [V] at h1 h2
  simp only [Vs] at h3
  subst h1 h2 h3
  by_cases h0 : m = 0
  · subst h0
    obtain ⟨H2, hst⟩ := thaw_core H (k := 1) (by omega)
    refine Calls.mono (Any8.slices_Grow_room Tryz.growI none 0 0 0 C.w (by omega) (by omega) (by omega) (by omega)) fun e w' ⟨he, hw⟩ => ?_
    refine ⟨_, _, _, _, _, he, ⟨rfl, rfl, rfl⟩, ?_, H2, hst, hw.symm⟩
    refine ⟨by omega, ⟨_, _, rfl⟩, fun k es he => ?_⟩
    simp only [upd, if_true, Option.some.injEq, Blk.mk.injEq] at he
    obtain ⟨rfl, rfl⟩ := he
    exact ⟨Nat.le_refl _, fun _ => ⟨Nat.le_refl _, .inl ⟨by simp [upd], rfl, rfl, rfl⟩⟩⟩
  · have hi : Tryz.prog.info? 3 = some Tryz.t3 := by kernel_rfl
    have hb : Tryz.t3.bytes = 8 := by kernel_rfl
    have hs : Tryz.t3.size = 1 := by kernel_rfl
    have hz : Tryz.t3.zero = some (.int .i64 0) := by kernel_rfl
    have hG := Any8.slices_Grow_grow Tryz.growI Tryz.t3 (.int .i64 0) hi hz (by rw [hs]; omega) none 0 0 m [] C.w (by omega) (by omega) (by rw [hb]; omega) (by omega) (by simp) (fun _ => rfl) (fun a ha => by cases ha)
    refine Calls.mono hG fun e w' ⟨he, hw⟩ => ?_
    have hge := grownCap_ge C.w (0 + m) 0 3
    obtain ⟨H', hstep⟩ := new_block (n := nx) (nx' := nx + 1) (k := 1) (es := []) (vs := []) (w' := w') H (.inl ⟨rfl, rfl⟩) (by omega) (by simp) rfl (by simp) (by rw [hw]; rfl) (by rw [hw]; rfl) (by rw [hw]; rfl) (by rw [hw]; exact ⟨rfl, Nat.le_succ _⟩)
    refine ⟨_, _, _, _, _, he, ⟨rfl, rfl, rfl⟩, V_new_sl (by omega) rfl (Nat.zero_le _) ?_, H', hstep, rfl⟩
    rw [hw]
    have hbs := bsize_alloc C.w.drew (([] : List Value).toArray ++ Builtin.zeroCells (Value.int .i64 0).cells (0 + m - 0) ++ Builtin.zeroCells (Value.int .i64 0).cells (grownCap C.w (0 + m) 0 3 - (0 + m))) 3
    have hcs : (Value.int .i64 0).cells.size = 1 := rfl
    show grownCap C.w (0 + m) 0 3 * 1 ≤ bsize (C.w.drew.alloc _) C.w.drew.heap.size
    rw [show (Tryz.growI_ren.t 25) = 3 from _root_.rfl, hbs]
    simp only [Array.size_append, List.size_toArray, size_zeroCells, hcs, List.length_nil]
    omega

theorem Concat_f (a b : List Int) (hl : a.length + b.length ≤ 1099511627776) (h : Heap) (nx : Nat) : CallsF Tryz.prog 155 [intss [a, b]] h nx 1 ((a ++ b).map fun x => [.int x]) := by
  refine CallsF.of_pure (by omega) (pureE_cells _) (by simp [go_sem]) (in155 ?_) h nx
  simp [go_sem, Tryz.f155, intss]
  refine ⟨{p : Nat × Int // (p.1 = 0 ∧ p.2 = 0) ∨ (p.1 = 1 ∧ p.2 = a.length) ∨ (p.1 = 2 ∧ p.2 = a.length + b.length)}, fun p => ⟨E [(0, intss [a, b]), (2, .nils), (3, .int p.1.2), (9, intss [a, b]), (10, .int 2), (11, .int p.1.1)], Hp [], 0, 36⟩, fun p => 2 - p.1.1, ⟨(0, 0), .inl ⟨rfl, rfl⟩⟩, Leads.E (by simp [E_cons, E_nil, intss]) rfl rfl, ?_⟩
  rintro ⟨⟨i, s⟩, hi⟩
  simp only at hi
  rcases hi with ⟨rfl, rfl⟩ | ⟨rfl, rfl⟩ | ⟨rfl, rfl⟩
  · have c1 : ¬ (a.length : Int) < 0 := by omega
    simp [go_sem, intss, ints, c1]
    exact ⟨inR_of (by omega) (by omega), inR_of (by omega) (by omega), ⟨(1, a.length), .inr (.inl ⟨rfl, rfl⟩)⟩, by simp, Leads.E (by simp [E_cons, E_nil, intss, ints]) rfl rfl⟩
  · have c1 : ¬ (a.length : Int) + b.length < 0 := by omega
    simp [go_sem, intss, ints, c1]
    exact ⟨inR_of (by omega) (by omega), inR_of (by omega) (by omega), ⟨(2, a.length + b.length), .inr (.inr ⟨rfl, rfl⟩)⟩, by simp, Leads.E (by simp [E_cons, E_nil, intss, ints]) rfl rfl⟩
  · simp [go_sem, intss]
    have hG := Grow_f (a.length + b.length) hl (Hp []) 0
    rw [Int.natCast_add] at hG
    refine hG.call ?_
    simp [go_sem, intss]
    refine ⟨{p : Nat × List Int // (p.1 = 0 ∧ p.2 = []) ∨ (p.1 = 1 ∧ p.2 = a) ∨ (p.1 = 2 ∧ p.2 = a ++ b)}, fun p => ⟨E [(0, intss [a, b]), (2, .nils), (6, .sl 0 p.1.2.length 0 p.1.2.length), (25, intss [a, b]), (26, .int 2), (27, .int p.1.1)], Hp [(0, ⟨1, p.1.2.map fun x => [.int x]⟩)], 1, 36⟩, fun p => 2 - p.1.1, ⟨(0, []), .inl ⟨rfl, rfl⟩⟩, Leads.E (by simp [E_cons, E_nil, intss]) rfl rfl, ?_⟩
    rintro ⟨⟨i, s⟩, hi⟩
    simp only at hi
    rcases hi with ⟨rfl, rfl⟩ | ⟨rfl, rfl⟩ | ⟨rfl, rfl⟩
    · simp [go_sem, intss, ints]
      exact ⟨by unfold roomy; omega, inR_of (by omega) (by omega), ⟨(1, a), .inr (.inl ⟨rfl, rfl⟩)⟩, by simp, Leads.E (by simp [E_cons, E_nil, intss, ints]) (by simp) rfl⟩
    · simp [go_sem, intss, ints]
      exact ⟨by unfold roomy; omega, inR_of (by omega) (by omega), ⟨(2, s ++ b), .inr (.inr ⟨rfl, rfl⟩)⟩, by simp, Leads.E (by simp [E_cons, E_nil, intss, ints]) (by simp) rfl⟩
    · simp [go_sem, intss, ints]

theorem Leads.thawE {l l' : List (Nat × AV)} {k : List (Nat × Blk)} {t kk nx N : Nat} (ht : Abs.E l t = .nils) (hk : 0 < kk) (hl : ∀ p ∈ l', Abs.E (lset l t (.sl nx 0 0 0)) p.1 = p.2) :
    Leads ⟨Abs.E l, Hp k, nx, N⟩ ⟨Abs.E l', Hp (lset k nx ⟨kk, []⟩), nx + 1, N⟩ := by
  have h := thaw_leads (A := ⟨Abs.E l, Hp k, nx, N⟩) (t := t) (k := kk) ht hk
  simp only [upd_E, upd_Hp] at h
  exact h.trans (Leads.E hl rfl rfl)

theorem view_ints_take (d : Nat) {h : Heap} {n k L m : Nat} {xs : List Int} (hn : h n = some ⟨k, xs.map fun x => [.int x]⟩) (hL : L = xs.length) : view (d + 1) h (.sl n L 0 m) = ints (xs.take m) := by
  subst hL
  have : ∀ x : Int, view d h (.int x) = .int x := fun x => by cases d <;> rfl
  simp only [view, vw, hn, List.length_map, if_true, List.drop_zero]
  simp [ints, Function.comp_def, this, List.map_take]

/-- The variables of clauses, each as often as it stands there. -/
def absAll (cs : List (List Int)) : List Int := cs.flatMap fun c => c.map absI
def varsM (cs : List (List Int)) : List Int := compactI (sortI (absAll cs)) (sortI (absAll cs)).length
theorem absAll_next {cs : List (List Int)} {i : Nat} (hi : i < cs.length) : absAll (cs.take (i + 1)) = absAll (cs.take i) ++ cs[i].map absI := by
  simp only [absAll, List.take_succ_eq_append_getElem hi, List.flatMap_append]; simp
theorem absAll_le {cs : List (List Int)} {i : Nat} (hi : i < cs.length) : (absAll (cs.take i)).length + cs[i].length ≤ (absAll cs).length := by
  have h1 : cs = cs.take i ++ cs[i] :: cs.drop (i + 1) := by rw [← List.drop_eq_getElem_cons hi, List.take_append_drop]
  have h2 : (absAll cs).length = (absAll (cs.take i)).length + (cs[i].length + (absAll (cs.drop (i + 1))).length) := by
    have h2 := congrArg (fun l => (absAll l).length) h1
    simpa only [absAll, List.flatMap_append, List.flatMap_cons, List.length_append, List.length_map] using h2
  omega

theorem varsOf_f (cs : List (List Int)) (hn : cs.length ≤ 1099511627776) (hl : (absAll cs).length ≤ 1099511627776) (hc : ∀ c ∈ cs, InRs c ∧ Len c) (h : Heap) (nx : Nat) : CallsF Tryz.prog 105 [intss cs] h nx 1 ((varsM cs).map fun x => [.int x]) := by
  refine CallsF.of_pure2 (by omega) (pureE_cells _) (by simp [go_sem]) (in105 ?_) h nx
  simp [go_sem, Tryz.f105, intss]
  refine ⟨{p : Nat × List Int // p.1 ≤ cs.length ∧ p.2 = absAll (cs.take p.1)}, fun p => ⟨E [(0, intss cs), (2, .nils), (3, .sl 0 p.1.2.length 0 p.1.2.length), (8, intss cs), (9, .int cs.length), (10, .int p.1.1)], Hp [(0, ⟨1, p.1.2.map fun x => [.int x]⟩)], 1, 31⟩, fun p => cs.length - p.1.1, ⟨(0, []), by simp [absAll]⟩, Leads.thawE (k := []) (kk := 1) (t := 3) (by simp [E_cons]) (by omega) (by simp [E_cons, E_nil, intss, lset]), ?_⟩
  rintro ⟨⟨i, w⟩, hi, hw⟩
  simp only at hi hw
  by_cases hlt : i < cs.length
  · have hle := absAll_le hlt
    have hcm := hc _ (List.getElem_mem hlt)
    have hci := hcm.1
    have hcl := hcm.2
    unfold Len at hcl
    rw [← hw] at hle
    have hnext := absAll_next hlt
    rw [← hw] at hnext
    simp [go_sem, intss, hlt]
    rw [show ints cs[i] = AV.lst (cs[i].map fun x => [.int x]) from _root_.rfl]
    simp [go_sem]
    refine ⟨{p : Nat × List Int // p.1 ≤ cs[i].length ∧ p.2 = w ++ (cs[i].take p.1).map absI}, fun p => ⟨E [(0, intss cs), (2, .nils), (3, .sl 0 p.1.2.length 0 p.1.2.length), (8, intss cs), (9, .int cs.length), (10, .int i), (14, ints cs[i]), (15, .int cs[i].length), (16, .int p.1.1)], Hp [(0, ⟨1, p.1.2.map fun x => [.int x]⟩)], 1, 31⟩, fun p => cs[i].length - p.1.1, ⟨(0, w), by simp⟩, Leads.E (by simp [E_cons, E_nil, intss, ints]) (by simp) rfl, ?_⟩
    rintro ⟨⟨j, u⟩, hj, hu⟩
    simp only at hj hu
    by_cases hjl : j < cs[i].length
    · have hb : u.length ≤ w.length + j := by rw [hu]; simp; omega
      simp [go_sem, ints, hjl]
      refine (abs_q _ (hci _ (List.getElem_mem hjl)) _ _).call ?_
      simp [go_sem]
      have hnew : u ++ [absI cs[i][j]] = w ++ (cs[i].take (j + 1)).map absI := by
        rw [List.take_succ_eq_append_getElem hjl, List.map_append, ← List.append_assoc, hu]; rfl
      exact ⟨by unfold roomy; omega, inR_of (by omega) (by omega), ⟨(j + 1, u ++ [absI cs[i][j]]), by omega, hnew⟩, by simp; omega, Leads.E (by simp [E_cons, E_nil, intss, ints]) (by simp) rfl⟩
    · have hje : j = cs[i].length := by omega
      have hu' : u = absAll (cs.take (i + 1)) := by rw [hu, hje, List.take_length, hnext]
      simp [go_sem, ints, hjl]
      exact ⟨inR_of (by omega) (by omega), ⟨(i + 1, u), by omega, hu'⟩, by simp; omega, Leads.E (by simp [E_cons, E_nil, intss]; try exact fun _ _ => rfl) (by simp) rfl⟩
  · have hie : i = cs.length := by omega
    have hw' : w = absAll cs := by rw [hw, hie, List.take_length]
    subst hw'
    simp [go_sem, intss, hlt]
    refine Sort_a _ hl 0 _ _ (by simp [go_sem]) _ ?_
    simp [go_sem]
    have hsl : (sortI (absAll cs)).length = (absAll cs).length := by simp [sortI]
    have hC := Compact_a (sortI (absAll cs)) (by unfold Len; omega) 0
    rw [hsl] at hC
    refine hC _ _ (by simp [go_sem]) _ fun ys hy1 hy2 => ?_
    simp [go_sem]
    rw [← hsl] at hy2 ⊢
    refine ⟨0, ys.map fun x => [.int x], ⟨by simp [hy1, varsM]; omega, by simp [go_sem]⟩, ?_⟩
    rw [← List.map_take]
    exact congrArg _ hy2
theorem varsOf_q (cs : List (List Int)) (hn : cs.length ≤ 1099511627776) (hl : (absAll cs).length ≤ 1099511627776) (hc : ∀ c ∈ cs, InRs c ∧ Len c) (h : Heap) (nx : Nat) : CallsQ Tryz.prog 105 [intss cs] h nx (ints (varsM cs)) :=
  CallsQ.of_pure 1 (by simp [go_sem]) ((varsOf_f cs hn hl hc (Hp []) 0).call (view_ints 0 (k := 1) (xs := varsM cs) (by simp [upd]) (by simp))) h nx
end Go.Proofs.YtogdmmccbeipkaaGreat.A
