/- Contracts: the laws' own functions on steps; marks. -/
import Derived.Test.YtogdmmccbeipkaaGreatL2
set_option linter.all false
namespace Go.Proofs.YtogdmmccbeipkaaGreat.A
open Go Go.Abs Go.Shelf
set_option pp.maxSteps 3000
set_option pp.deepTerms true
set_option linter.unusedSimpArgs false
set_option maxRecDepth 20000

theorem toResStep_a (s : Step') (hl : Len s.cl) (h : Heap) (nx : Nat) (K : AV → Heap → Nat → Prop)
    (hK : ∀ h' nx' m, (nx ≤ nx' ∧ nx ≤ m ∧ m < nx') → h' m = some ⟨1, s.cl.map fun x => [.int x]⟩ → (∀ x, x < nx → h' x = h x) → K (.agg [.sl m s.cl.length 0 s.cl.length, .int s.l, .int s.r, .int s.p]) h' nx') :
    CallsA Tryz.prog 40 [.agg (stepC s)] h nx K := by
  refine CallsA.of_pure (K0 := fun r h0 n0 => r = .agg [.sl 3 s.cl.length 0 s.cl.length, .int s.l, .int s.r, .int s.p] ∧ h0 3 = some ⟨1, s.cl.map fun x => [.int x]⟩ ∧ n0 = 4) (by simp [go_sem, stepC]) ?_ fun r h0 n0 ⟨hr, h3, hn⟩ => by
    subst hr hn
    refine hK _ _ (nx + 3) ⟨by omega, by omega, by omega⟩ ?_ fun x hx => glue_old hx
    rw [glue_new h3, shiftE_pure _ _ (pureE_cells _)]
  refine in40 ?_
  simp [go_sem, Tryz.f40, stepC]
  refine (toIntS_f _ hl _ _).call ?_
  simp [go_sem]

def rowS (m : Nat) (s : Step') : Cells := [.sl m s.cl.length 0 s.cl.length, .int s.l, .int s.r, .int s.p]
def rowsS (ms : List Nat) (ss : List Step') : List Cells := List.zipWith rowS ms ss
theorem rowsS_length {ms : List Nat} {ss : List Step'} (h : ms.length = ss.length) : (rowsS ms ss).length = ss.length := by simp [rowsS, h]
theorem rowsS_snoc {ms : List Nat} {ss : List Step'} (h : ms.length = ss.length) (m : Nat) (s : Step') : rowsS (ms ++ [m]) (ss ++ [s]) = rowsS ms ss ++ [rowS m s] := by
  unfold rowsS; rw [List.zipWith_append h]; rfl
def NestS (nx : Nat) (h h' : Heap) (nx' : Nat) (b : Nat) (ms : List Nat) (ss : List Step') : Prop :=
  (nx ≤ nx' ∧ nx ≤ b ∧ b < nx' ∧ b ∉ ms ∧ ∀ m ∈ ms, nx ≤ m ∧ m < nx') ∧ Inner h' (ss.map (·.cl)) ms ∧ h' b = some ⟨4, rowsS ms ss⟩ ∧ ∀ x, x < nx → h' x = h x
theorem toResStepS_a (ss : List Step') (hl : ss.length ≤ 1099511627776) (hc : ∀ s ∈ ss, Len s.cl) (h : Heap) (nx : Nat) (K : AV → Heap → Nat → Prop)
    (hK : ∀ h' nx' b ms, NestS nx h h' nx' b ms ss → K (.sl b ss.length 0 ss.length) h' nx') : CallsA Tryz.prog 12 [stepsA ss] h nx K := by
  refine in12 ?_
  simp [go_sem, Tryz.f12, stepsA, alloc_op]
  refine ⟨hl, {p : Nat × Heap × Nat × List Nat // p.1 ≤ ss.length ∧ (nx + 1 ≤ p.2.2.1 ∧ ∀ m ∈ p.2.2.2, nx + 1 ≤ m ∧ m < p.2.2.1) ∧ Inner p.2.1 ((ss.take p.1).map (·.cl)) p.2.2.2 ∧ p.2.1 nx = some ⟨4, rowsS p.2.2.2 (ss.take p.1) ++ List.replicate (ss.length - p.1) [.nils, .int 0, .int 0, .int 0]⟩ ∧ ∀ x, x < nx → p.2.1 x = h x},
    fun p => ⟨E [(0, stepsA ss), (2, .nils), (3, .sl nx ss.length 0 ss.length), (4, .int p.1.1)], p.1.2.1, p.1.2.2.1, 23⟩, fun p => ss.length - p.1.1, ⟨(0, upd h nx (some ⟨4, List.replicate ss.length [.nils, .int 0, .int 0, .int 0]⟩), nx + 1, []), ?_⟩, Leads.E (by simp [E_cons, E_nil, stepsA]) rfl rfl, ?_⟩
  · refine ⟨by simp, ⟨Nat.le_refl _, by simp⟩, ⟨by simp, by simp, by simp⟩, by simp [upd, rowsS], fun x hx => ?_⟩
    exact upd_ne (by omega)
  rintro ⟨⟨i, h1, n1, ms⟩, hi, ⟨hn1, hms⟩, hin, hb, hold⟩
  simp only at hi hn1 hms hin hb hold
  have hml := hin.len
  rw [List.length_map, List.length_take] at hml
  by_cases hlt : i < ss.length
  · have hcl := hc _ (List.getElem_mem hlt)
    have htk : ss.take (i + 1) = ss.take i ++ [ss[i]] := List.take_succ_eq_append_getElem hlt
    generalize hst : ss[i] = s at *
    have hrl : (rowsS ms (ss.take i)).length = i := by rw [rowsS_length (by rw [List.length_take]; omega), List.length_take]; omega
    simp [go_sem, stepsA, hlt, hst, stepC, hb, hrl]
    refine toResStep_a s hcl _ _ _ fun h2 n2 m ⟨a1, a2, a3⟩ a4 a5 => ?_
    have hbn : h2 nx = h1 nx := a5 nx (by omega)
    simp [go_sem, hbn, hb, hrl, hlt]
    refine ⟨by omega, ?_⟩
    have hrep : List.replicate (ss.length - i) [AV.nils, .int 0, .int 0, .int 0] = [AV.nils, .int 0, .int 0, .int 0] :: List.replicate (ss.length - (i + 1)) [AV.nils, .int 0, .int 0, .int 0] := by
      rw [show ss.length - i = (ss.length - (i + 1)) + 1 by omega, List.replicate_succ]
    have hrow : (rowsS ms (ss.take i) ++ List.replicate (ss.length - i) [AV.nils, .int 0, .int 0, .int 0])[i]? = some [AV.nils, .int 0, .int 0, .int 0] := by
      rw [List.getElem?_append_right (by omega), hrl, hrep]; simp
    have hset : ∀ y : Cells, (rowsS ms (ss.take i) ++ List.replicate (ss.length - i) [AV.nils, .int 0, .int 0, .int 0]).set i y = (rowsS ms (ss.take i) ++ [y]) ++ List.replicate (ss.length - (i + 1)) [AV.nils, .int 0, .int 0, .int 0] := fun y => by
      rw [hrep, List.set_append_right _ _ (by omega), hrl]; simp
    rw [hrow]
    simp [go_sem, hset, hput_op]
    have hmm : m ∉ ms := fun hm => by have := hms m hm; omega
    refine ⟨inR_of (by omega) (by omega), ⟨(i + 1, upd h2 nx (some ⟨4, rowsS ms (ss.take i) ++ [.sl m s.cl.length 0 s.cl.length, .int s.l, .int s.r, .int s.p] :: List.replicate (ss.length - (i + 1)) [.nils, .int 0, .int 0, .int 0]⟩), n2, ms ++ [m]), by simp only; omega, ⟨by simp only; omega, fun x hx => ?_⟩, ?_, ?_, fun x hx => ?_⟩, by simp; omega, Leads.E (by simp [E_cons, E_nil, stepsA]) rfl rfl⟩
    · simp only
      rcases List.mem_append.1 hx with hx | hx
      · have := hms x hx; omega
      · simp at hx; omega
    · simp only
      rw [htk, List.map_append]
      refine hin.snoc (fun x hx => ?_) hmm ?_
      · have := hms x hx
        rw [upd_ne (by omega)]; exact a5 x (by omega)
      · rw [upd_ne (by omega)]; exact a4
    · simp only
      rw [upd_same', htk, rowsS_snoc (by have := hin.len; simpa using this)]; simp [rowS]
    · simp only
      rw [upd_ne (by omega), a5 x (by omega)]
      exact hold x hx
  · have hie : i = ss.length := by omega
    subst hie
    rw [List.take_length] at hin hb
    simp at hb
    simp [go_sem, stepsA]
    exact hK h1 n1 nx ms ⟨⟨by omega, by omega, by omega, fun hm => by have := hms nx hm; omega, fun m hm => by have := hms m hm; omega⟩, hin, hb, hold⟩

/-! Marks. -/
theorem markIntS_a (c : List Int) (n : Nat) (k : Int) (hk : 0 ≤ k ∧ k + c.length ≤ 1000000000) (h : Heap) (nx : Nat) (K : AV → Heap → Nat → Prop) (hn : h n = some ⟨1, c.map fun x => [.int x]⟩)
    (hK : ∀ h', (∀ x, x ≠ n → h' x = h x) → K (.int (k + c.length)) h' nx) : CallsA Tryz.prog 48 [.sl n c.length 0 c.length, .int k] h nx K := by
  refine in48 ?_
  simp [go_sem, Tryz.f48, hn]
  refine ⟨{p : Nat × List Int // p.1 ≤ c.length ∧ p.2.length = c.length}, fun p => ⟨E [(0, .sl n c.length 0 c.length), (1, .int (k + p.1.1)), (4, .int 0), (5, .int p.1.1)], upd h n (some ⟨1, p.1.2.map fun x => [.int x]⟩), nx, 19⟩, fun p => c.length - p.1.1, ⟨(0, c), by simp⟩, Leads.E (by simp [E_cons, E_nil]) (upd_of_eq hn) rfl, ?_⟩
  rintro ⟨⟨i, w⟩, hi, hw⟩
  simp only at hi hw
  by_cases hlt : i < c.length
  · have hlw : i < w.length := by omega
    simp [go_sem, hlt, hw, upd_same', hput_op, List.getElem?_eq_getElem hlw, upd_upd]
    have hms : ∀ y : Int, (w.map fun x => [AV.int x]).set i [AV.int y] = (w.set i y).map fun x => [AV.int x] := fun y => by rw [List.map_set]
    rw [hms]
    exact ⟨inR_of (by omega) (by omega), inR_of (by omega) (by omega), ⟨(i + 1, w.set i (k + i)), by simp only; omega, by simp only [List.length_set]; exact hw⟩, by simp; omega, Leads.E (by simp [E_cons, E_nil]; omega) rfl rfl⟩
  · have : i = c.length := by omega
    subst this
    simp [go_sem]
    exact hK _ fun x hx => upd_ne hx

theorem markIntSS_a (cs : List (List Int)) (ms : List Nat) (b : Nat) (k : Int) (h : Heap) (nx : Nat) (K : AV → Heap → Nat → Prop) (hb : h b = some ⟨1, rowsI ms cs⟩) (hin : Inner h cs ms) (hbm : b ∉ ms) (T : Nat) (hk : 0 ≤ k ∧ k + T ≤ 1000000000) (hT : (cs.map List.length).sum ≤ T) (hl : cs.length ≤ 1000000000)
    (hK : ∀ h' k', 0 ≤ k' ∧ k' ≤ k + T → (∀ x, x ∉ ms → h' x = h x) → K (.int k') h' nx) : CallsA Tryz.prog 47 [.sl b cs.length 0 cs.length, .int k] h nx K := by
  refine in47 ?_
  simp [go_sem, Tryz.f47]
  refine ⟨{p : Nat × Heap × Int // p.1 ≤ cs.length ∧ (0 ≤ p.2.2 ∧ p.2.2 ≤ k + ((cs.take p.1).map List.length).sum) ∧ (∀ x, x ∉ ms.take p.1 → p.2.1 x = h x)}, fun p => ⟨E [(0, .sl b cs.length 0 cs.length), (1, .int p.1.2.2), (4, .int 0), (5, .int p.1.1)], p.1.2.1, nx, 19⟩, fun p => cs.length - p.1.1, ⟨(0, h, k), by simp; omega⟩, Leads.E (by simp [E_cons, E_nil]) rfl rfl, ?_⟩
  rintro ⟨⟨i, h1, k1⟩, hi, hk1, hold⟩
  simp only at hi hk1 hold
  have hml := hin.len
  have hsum : ∀ j, ((cs.take j).map List.length).sum ≤ (cs.map List.length).sum := fun j => by
    have := congrArg (fun l => (l.map List.length).sum) (List.take_append_drop j cs)
    simp only [List.map_append, List.sum_append] at this
    omega
  by_cases hlt : i < cs.length
  · have hlm : i < ms.length := by omega
    have hb1 : h1 b = some ⟨1, rowsI ms cs⟩ := by rw [hold b fun hx => hbm (List.mem_of_mem_take hx)]; exact hb
    have hrow : (rowsI ms cs)[i]? = some [.sl ms[i] cs[i].length 0 cs[i].length] := by
      simp [rowsI, List.getElem?_zipWith, List.getElem?_eq_getElem hlm, List.getElem?_eq_getElem hlt]
    obtain ⟨hrl, hrow2⟩ := List.getElem?_eq_some_iff.1 hrow
    have hmi : ms[i] ∉ ms.take i := fun hx => by
      obtain ⟨j, hj, e⟩ := List.mem_take_iff_getElem.1 hx
      have := (List.pairwise_iff_getElem.1 hin.nodup) j i (by omega) hlm (by omega)
      exact this e
    have hc1 : h1 ms[i] = some ⟨1, cs[i].map fun x => [.int x]⟩ := by
      rw [hold _ hmi]; exact hin.at' i ms[i] cs[i] (List.getElem?_eq_getElem hlm) (List.getElem?_eq_getElem hlt)
    have hs1 := hsum (i + 1)
    rw [List.take_succ_eq_append_getElem hlt] at hs1
    simp only [List.map_append, List.map_cons, List.map_nil, List.sum_append, List.sum_cons, List.sum_nil] at hs1
    simp [go_sem, hlt, hb1, rowsI_length hml, hrow2]
    refine markIntS_a cs[i] ms[i] k1 (by omega) _ _ _ hc1 fun h' hh => ?_
    simp [go_sem]
    refine ⟨inR_of (by omega) (by omega), ⟨(i + 1, h', k1 + cs[i].length), by simp only; omega, ?_, fun x hx => ?_⟩, by simp; omega, Leads.E (by simp [E_cons, E_nil]) rfl rfl⟩
    · simp only
      rw [List.take_succ_eq_append_getElem hlt]
      simp only [List.map_append, List.map_cons, List.map_nil, List.sum_append, List.sum_cons, List.sum_nil]
      omega
    · simp only at hx ⊢
      rw [List.take_succ_eq_append_getElem hlm] at hx
      have h1' : x ∉ ms.take i := fun h => hx (List.mem_append_left _ h)
      have h2' : x ≠ ms[i] := fun h => hx (List.mem_append_right _ (by rw [h]; exact List.mem_singleton.2 rfl))
      rw [hh x h2', hold x h1']
  · have : i = cs.length := by omega
    subst this
    have := hsum cs.length
    simp [go_sem]
    exact hK h1 k1 (by omega) fun x hx => hold x fun h => hx (List.mem_of_mem_take h)
theorem markCnf_a (n : Int) (cs : List (List Int)) (ms : List Nat) (b : Nat) (k : Int) (h : Heap) (nx : Nat) (K : AV → Heap → Nat → Prop) (hb : h b = some ⟨1, rowsI ms cs⟩) (hin : Inner h cs ms) (hbm : b ∉ ms) (hbx : b < nx) (hmx : ∀ m ∈ ms, m < nx) (T : Nat) (hk : 0 ≤ k ∧ k + T ≤ 1000000000) (hT : (cs.map List.length).sum ≤ T) (hl : cs.length ≤ 1000000000)
    (hK : ∀ h' nx' k', nx ≤ nx' → 0 ≤ k' ∧ k' ≤ k + T → (∀ x, x ∉ ms → x < nx → h' x = h x) → K (.int k') h' nx') : CallsA Tryz.prog 17 [.agg [.int n, .sl b cs.length 0 cs.length], .int k] h nx K := by
  refine in17 ?_
  have e1 : ∀ c, upd h nx c b = h b := fun c => upd_ne (by omega)
  simp [go_sem, Tryz.f17, alloc_op, upd_same']
  refine markIntSS_a cs ms b k _ _ _ ((e1 _).trans hb) (hin.mono fun x hx => upd_ne (by have := hmx x hx; omega)) hbm T hk hT hl fun h' k' hk' hh => ?_
  simp [go_sem]
  exact hK h' _ k' (by omega) hk' fun x hx hxn => by rw [hh x hx]; exact upd_ne (by omega)
theorem markResStepS_a (ss : List Step') (ms : List Nat) (b : Nat) (k : Int) (h : Heap) (nx : Nat) (K : AV → Heap → Nat → Prop) (hb : h b = some ⟨4, rowsS ms ss⟩) (hin : Inner h (ss.map (·.cl)) ms) (hbm : b ∉ ms) (T : Nat) (hk : 0 ≤ k ∧ k + T + 3 * ss.length ≤ 1000000000) (hT : (ss.map fun s => s.cl.length).sum ≤ T) (hl : ss.length ≤ 1000000000)
    (hK : ∀ h' k', 0 ≤ k' → (∀ x, x ≠ b → x ∉ ms → h' x = h x) → K (.int k') h' nx) : CallsA Tryz.prog 18 [.sl b ss.length 0 ss.length, .int k] h nx K := by
  refine in18 ?_
  simp [go_sem, Tryz.f18]
  refine ⟨{p : Nat × Heap × Int × List Cells // p.1 ≤ ss.length ∧ (0 ≤ p.2.2.1 ∧ p.2.2.1 ≤ k + ((ss.take p.1).map fun s => s.cl.length).sum + 3 * p.1) ∧ (∀ x, x ≠ b → x ∉ ms.take p.1 → p.2.1 x = h x) ∧ p.2.1 b = some ⟨4, p.2.2.2⟩ ∧ p.2.2.2.length = ss.length ∧ p.2.2.2.drop p.1 = (rowsS ms ss).drop p.1}, fun p => ⟨E [(0, .sl b ss.length 0 ss.length), (1, .int p.1.2.2.1), (4, .int 0), (5, .int p.1.1)], p.1.2.1, nx, 41⟩, fun p => ss.length - p.1.1, ⟨(0, h, k, rowsS ms ss), ?_⟩, Leads.E (by simp [E_cons, E_nil]) rfl rfl, ?_⟩
  · exact ⟨by simp, by simp; omega, fun _ _ _ => rfl, hb, rowsS_length (by have := hin.len; simpa using this), rfl⟩
  rintro ⟨⟨i, h1, k1, rw1⟩, hi, hk1, hold, hb1, hrl, hrd⟩
  simp only at hi hk1 hold hb1 hrl hrd
  have hml := hin.len
  rw [List.length_map] at hml
  have hsum : ∀ j, ((ss.take j).map fun s => s.cl.length).sum ≤ (ss.map fun s => s.cl.length).sum := fun j => by
    have := congrArg (fun l => (l.map fun s : Step' => s.cl.length).sum) (List.take_append_drop j ss)
    simp only [List.map_append, List.sum_append] at this
    omega
  by_cases hlt : i < ss.length
  · have hlm : i < ms.length := by omega
    have hlr : i < rw1.length := by omega
    have hrow : rw1[i] = rowS ms[i] ss[i] := by
      have e := congrArg (fun l => l[0]?) hrd
      simp only [List.getElem?_drop, Nat.add_zero] at e
      rw [List.getElem?_eq_getElem hlr] at e
      simp [rowsS, List.getElem?_zipWith, List.getElem?_eq_getElem hlm, List.getElem?_eq_getElem hlt] at e
      exact e
    have hmi : ms[i] ∉ ms.take i := fun hx => by
      obtain ⟨j, hj, e⟩ := List.mem_take_iff_getElem.1 hx
      have := (List.pairwise_iff_getElem.1 hin.nodup) j i (by omega) hlm (by omega)
      exact this e
    have hmb : ms[i] ≠ b := fun e => hbm (e ▸ List.getElem_mem hlm)
    have hc1 : h1 ms[i] = some ⟨1, ss[i].cl.map fun x => [.int x]⟩ := by
      rw [hold _ hmb hmi]
      exact hin.at' i ms[i] ss[i].cl (List.getElem?_eq_getElem hlm) (by rw [List.getElem?_map, List.getElem?_eq_getElem hlt]; rfl)
    have hs1 := hsum (i + 1)
    have htk : ss.take (i + 1) = ss.take i ++ [ss[i]] := List.take_succ_eq_append_getElem hlt
    rw [htk] at hs1
    simp only [List.map_append, List.map_cons, List.map_nil, List.sum_append, List.sum_cons, List.sum_nil] at hs1
    have hdn : rw1.drop (i + 1) = (rowsS ms ss).drop (i + 1) := by rw [← List.drop_drop, hrd, List.drop_drop]
    have htm : ms.take (i + 1) = ms.take i ++ [ms[i]] := List.take_succ_eq_append_getElem hlm
    generalize hst : ss[i] = s at *
    generalize hmn : ms[i] = m at *
    simp [go_sem, hlt, hb1, hrl, hrow, rowS]
    refine markIntS_a s.cl m k1 (by omega) _ _ _ hc1 fun h' hh => ?_
    have hb2 : h' b = some ⟨4, rw1⟩ := by rw [hh b (Ne.symm hmb)]; exact hb1
    simp [go_sem, hlt, hb2, hrl, hrow, rowS, hput_op, upd_same', upd_upd, hlr]
    refine ⟨inR_of (by omega) (by omega), inR_of (by omega) (by omega), inR_of (by omega) (by omega), inR_of (by omega) (by omega), ⟨(i + 1, upd h' b (some ⟨4, rw1.set i [.sl m s.cl.length 0 s.cl.length, .int (k1 + s.cl.length), .int (k1 + s.cl.length + 1), .int (k1 + s.cl.length + 1 + 1)]⟩), k1 + s.cl.length + 1 + 1 + 1, rw1.set i [.sl m s.cl.length 0 s.cl.length, .int (k1 + s.cl.length), .int (k1 + s.cl.length + 1), .int (k1 + s.cl.length + 1 + 1)]), by simp only; omega, ?_, fun x hx hx2 => ?_, upd_same', by simp only [List.length_set]; exact hrl, ?_⟩, by simp; omega, Leads.E (by simp [E_cons, E_nil]) rfl rfl⟩
    · simp only
      rw [htk]
      simp only [List.map_append, List.map_cons, List.map_nil, List.sum_append, List.sum_cons, List.sum_nil]
      omega
    · simp only at hx2 ⊢
      rw [htm] at hx2
      have h1' : x ∉ ms.take i := fun h => hx2 (List.mem_append_left _ h)
      have h2' : x ≠ m := fun h => hx2 (List.mem_append_right _ (by rw [h]; exact List.mem_singleton.2 rfl))
      rw [upd_ne hx, hh x h2', hold x hx h1']
    · simp only
      rw [List.drop_set_of_lt (by omega)]; exact hdn
  · have : i = ss.length := by omega
    subst this
    simp [go_sem]
    exact hK h1 k1 hk1.1 fun x hx hx2 => hold x hx fun h => hx2 (List.mem_of_mem_take h)
theorem markGateS_a (gs : List G3) (g : Nat) (k : Int) (hk : 0 ≤ k ∧ k + 3 * gs.length ≤ 1000000000) (h : Heap) (nx : Nat) (K : AV → Heap → Nat → Prop) (hg : h g = some ⟨3, gs.map gcell⟩)
    (hK : K (.int (k + 3 * gs.length)) (upd h g (some ⟨3, (markG k gs.length).map gcell⟩)) nx) : CallsA Tryz.prog 19 [.sl g gs.length 0 gs.length, .int k] h nx K := by
  refine in19 ?_
  simp [go_sem, Tryz.f19, hg]
  refine ⟨{p : Nat × List G3 // p.1 ≤ gs.length ∧ p.2.length = gs.length ∧ p.2.take p.1 = markG k p.1}, fun p => ⟨E [(0, .sl g gs.length 0 gs.length), (1, .int (k + 3 * p.1.1)), (4, .int 0), (5, .int p.1.1)], upd h g (some ⟨3, p.1.2.map gcell⟩), nx, 34⟩, fun p => gs.length - p.1.1, ⟨(0, gs), by simp [markG]⟩, Leads.E (by simp [E_cons, E_nil]) (upd_of_eq hg) rfl, ?_⟩
  rintro ⟨⟨i, w⟩, hi, hw, ht⟩
  simp only at hi hw ht
  by_cases hlt : i < gs.length
  · have hlw : i < w.length := by omega
    simp [go_sem, hlt, hw, upd_same', hput_op, List.getElem?_eq_getElem hlw, upd_upd, gcell]
    have hms : (w.map gcell).set i [.int (k + 3 * (i : Int)), .int (k + 3 * (i : Int) + 1), .int (k + 3 * (i : Int) + 1 + 1)] = (w.set i (k + 3 * (i : Int), k + 3 * (i : Int) + 1, k + 3 * (i : Int) + 1 + 1)).map gcell := by rw [List.map_set]; rfl
    rw [hms]
    refine ⟨inR_of (by omega) (by omega), inR_of (by omega) (by omega), inR_of (by omega) (by omega), inR_of (by omega) (by omega), ⟨(i + 1, w.set i (k + 3 * (i : Int), k + 3 * (i : Int) + 1, k + 3 * (i : Int) + 1 + 1)), by simp only; omega, by simp only [List.length_set]; exact hw, ?_⟩, by simp; omega, Leads.E (by simp [E_cons, E_nil]; omega) rfl rfl⟩
    simp only
    rw [List.take_succ_eq_append_getElem (by simpa using hlw), List.take_set_of_le (Nat.le_refl _), ht]
    simp [markG, List.range_succ]
  · have : i = gs.length := by omega
    subst this
    rw [List.take_of_length_le (by omega)] at ht
    subst ht
    simp [go_sem]
    exact hK
end Go.Proofs.YtogdmmccbeipkaaGreat.A
