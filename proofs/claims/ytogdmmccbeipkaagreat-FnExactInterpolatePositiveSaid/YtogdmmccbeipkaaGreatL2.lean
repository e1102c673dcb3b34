/- Contracts: the laws' own functions that make and mark. -/
import Derived.Test.YtogdmmccbeipkaaGreatL1
set_option linter.all false
namespace Go.Proofs.YtogdmmccbeipkaaGreat.A
open Go Go.Abs Go.Shelf
set_option pp.maxSteps 3000
set_option pp.deepTerms true
set_option linter.unusedSimpArgs false
set_option maxRecDepth 20000

theorem toIntS_f (c : List Int) (hl : Len c) (h : Heap) (nx : Nat) : CallsF Tryz.prog 73 [ints c] h nx 1 (c.map fun x => [.int x]) := by
  refine CallsF.of_pure (by omega) (pureE_cells c) (by simp [go_sem]) (in73 ?_) h nx
  have hl' := hl
  unfold Len at hl'
  simp [go_sem, Tryz.f73, ints]
  refine ⟨hl, {p : Nat × List Int // p.1 ≤ c.length ∧ p.2.length = c.length ∧ p.2.take p.1 = c.take p.1}, fun p => ⟨E [(0, ints c), (2, .nils), (3, .sl 0 c.length 0 c.length), (4, .int p.1.1)], Hp [(0, ⟨1, p.1.2.map fun x => [.int x]⟩)], 1, 22⟩, fun p => c.length - p.1.1, ⟨(0, List.replicate c.length 0), by simp⟩, Leads.E (by simp [E_cons, E_nil, ints]) (by simp) rfl, ?_⟩
  rintro ⟨⟨i, w⟩, hi, hw, ht⟩
  simp only at hi hw ht
  by_cases hlt : i < c.length
  · have hlw : i < w.length := by omega
    simp [go_sem, ints, hlt, hw, List.getElem?_eq_getElem hlw]
    have hms : (w.map fun x => [AV.int x]).set i [AV.int c[i]] = (w.set i c[i]).map fun x => [AV.int x] := by rw [List.map_set]
    rw [hms]
    refine ⟨inR_of (by omega) (by omega), ⟨(i + 1, w.set i c[i]), by simp only; omega, by simp only [List.length_set]; exact hw, ?_⟩, by simp; omega, Leads.E (by simp [E_cons, E_nil, ints]) rfl rfl⟩
    simp only
    rw [List.take_succ_eq_append_getElem (by simpa using hlw), List.take_succ_eq_append_getElem hlt, List.take_set_of_le (Nat.le_refl _), ht]
    simp
  · have hwc : w = c := by
      rw [List.take_of_length_le (by omega), List.take_of_length_le (by omega)] at ht; exact ht
    subst hwc
    simp [go_sem, ints, hlt]

/-- Some slices of integers, each under a name of its own. -/
structure Inner (h : Heap) (cs : List (List Int)) (ms : List Nat) : Prop where
  len : ms.length = cs.length
  at' : ∀ (j : Nat) (m : Nat) (c : List Int), ms[j]? = some m → cs[j]? = some c → h m = some ⟨1, c.map fun x => [.int x]⟩
  nodup : ms.Nodup
theorem Inner.snoc {h h' : Heap} {cs : List (List Int)} {ms : List Nat} {m : Nat} {c : List Int} (H : Inner h cs ms) (hh : ∀ x ∈ ms, h' x = h x) (hm : m ∉ ms) (hc : h' m = some ⟨1, c.map fun x => [.int x]⟩) : Inner h' (cs ++ [c]) (ms ++ [m]) := by
  refine ⟨by simp [H.len], fun j m' c' h1 h2 => ?_, ?_⟩
  · have hl := H.len
    rw [List.getElem?_append] at h1 h2
    by_cases hj : j < ms.length
    · rw [if_pos hj] at h1
      rw [if_pos (by omega)] at h2
      rw [hh m' (List.mem_of_getElem? h1)]
      exact H.at' j m' c' h1 h2
    · rw [if_neg hj] at h1
      rw [if_neg (by omega)] at h2
      have : j - ms.length = 0 := by
        have := (List.getElem?_eq_some_iff.1 h1).1
        simp at this; omega
      rw [this] at h1
      rw [show j - cs.length = 0 by omega] at h2
      simp at h1 h2
      subst h1 h2
      exact hc
  · rw [List.nodup_append]
    refine ⟨H.nodup, by simp, fun a ha b hb => ?_⟩
    simp at hb
    subst hb
    intro e; subst e; exact hm ha
def rowsI (ms : List Nat) (cs : List (List Int)) : List Cells := List.zipWith (fun m (c : List Int) => [.sl m c.length 0 c.length]) ms cs
theorem rowsI_length {ms : List Nat} {cs : List (List Int)} (h : ms.length = cs.length) : (rowsI ms cs).length = cs.length := by simp [rowsI, h]
theorem rowsI_snoc {ms : List Nat} {cs : List (List Int)} (h : ms.length = cs.length) (m : Nat) (c : List Int) : rowsI (ms ++ [m]) (cs ++ [c]) = rowsI ms cs ++ [[.sl m c.length 0 c.length]] := by
  unfold rowsI; rw [List.zipWith_append h]; rfl

/-- Lists under names, as a law makes them. -/
def NestI (nx : Nat) (h h' : Heap) (nx' : Nat) (b : Nat) (ms : List Nat) (cs : List (List Int)) : Prop :=
  (nx ≤ nx' ∧ nx ≤ b ∧ b < nx' ∧ b ∉ ms ∧ ∀ m ∈ ms, nx ≤ m ∧ m < nx') ∧ Inner h' cs ms ∧ h' b = some ⟨1, rowsI ms cs⟩ ∧ ∀ x, x < nx → h' x = h x
theorem toIntSS_a (cs : List (List Int)) (hl : cs.length ≤ 1099511627776) (hc : ∀ c ∈ cs, Len c) (h : Heap) (nx : Nat) (K : AV → Heap → Nat → Prop)
    (hK : ∀ h' nx' b ms, NestI nx h h' nx' b ms cs → K (.sl b cs.length 0 cs.length) h' nx') : CallsA Tryz.prog 39 [intss cs] h nx K := by
  refine in39 ?_
  simp [go_sem, Tryz.f39, intss, alloc_op]
  refine ⟨hl, {p : Nat × Heap × Nat × List Nat // p.1 ≤ cs.length ∧ (nx + 1 ≤ p.2.2.1 ∧ ∀ m ∈ p.2.2.2, nx + 1 ≤ m ∧ m < p.2.2.1) ∧ Inner p.2.1 (cs.take p.1) p.2.2.2 ∧ p.2.1 nx = some ⟨1, rowsI p.2.2.2 (cs.take p.1) ++ List.replicate (cs.length - p.1) [.nils]⟩ ∧ ∀ x, x < nx → p.2.1 x = h x},
    fun p => ⟨E [(0, intss cs), (2, .nils), (3, .sl nx cs.length 0 cs.length), (4, .int p.1.1)], p.1.2.1, p.1.2.2.1, 23⟩, fun p => cs.length - p.1.1, ⟨(0, upd h nx (some ⟨1, List.replicate cs.length [.nils]⟩), nx + 1, []), ?_⟩, Leads.E (by simp [E_cons, E_nil, intss]) rfl rfl, ?_⟩
  · refine ⟨by simp, ⟨Nat.le_refl _, by simp⟩, ⟨by simp, by simp, by simp⟩, by simp [upd, rowsI], fun x hx => ?_⟩
    exact upd_ne (by omega)
  rintro ⟨⟨i, h1, n1, ms⟩, hi, ⟨hn1, hms⟩, hin, hb, hold⟩
  simp only at hi hn1 hms hin hb hold
  have hml := hin.len
  rw [List.length_take] at hml
  by_cases hlt : i < cs.length
  · simp [go_sem, intss, hlt]
    refine (toIntS_f cs[i] (hc _ (List.getElem_mem hlt)) _ _).call ?_
    have hbn : upd h1 n1 (some ⟨1, cs[i].map fun x => [AV.int x]⟩) nx = h1 nx := upd_ne (by omega)
    have hrl : (rowsI ms (cs.take i)).length = i := by rw [rowsI_length (by rw [List.length_take]; omega), List.length_take]; omega
    simp [go_sem, hbn, hb, hrl, hlt]
    refine ⟨by omega, ?_⟩
    have hrep : List.replicate (cs.length - i) [AV.nils] = [AV.nils] :: List.replicate (cs.length - (i + 1)) [AV.nils] := by
      rw [show cs.length - i = (cs.length - (i + 1)) + 1 by omega, List.replicate_succ]
    have hrow : (rowsI ms (cs.take i) ++ List.replicate (cs.length - i) [AV.nils])[i]? = some [AV.nils] := by
      rw [List.getElem?_append_right (by omega), hrl, hrep]; simp
    have hset : ∀ y : Cells, (rowsI ms (cs.take i) ++ List.replicate (cs.length - i) [AV.nils]).set i y = (rowsI ms (cs.take i) ++ [y]) ++ List.replicate (cs.length - (i + 1)) [AV.nils] := fun y => by
      rw [hrep, List.set_append_right _ _ (by omega), hrl]; simp
    rw [hrow]
    simp [go_sem, hset, hput_op]
    have htk : cs.take (i + 1) = cs.take i ++ [cs[i]] := List.take_succ_eq_append_getElem hlt
    have hn1m : n1 ∉ ms := fun hm => by have := hms n1 hm; omega
    refine ⟨inR_of (by omega) (by omega), ⟨(i + 1, upd (upd h1 n1 (some ⟨1, cs[i].map fun x => [.int x]⟩)) nx (some ⟨1, rowsI ms (cs.take i) ++ [.sl n1 cs[i].length 0 cs[i].length] :: List.replicate (cs.length - (i + 1)) [.nils]⟩), n1 + 1, ms ++ [n1]), by simp only; omega, ⟨by simp only; omega, fun m hm => ?_⟩, ?_, ?_, fun x hx => ?_⟩, by simp; omega, Leads.E (by simp [E_cons, E_nil, intss]) rfl rfl⟩
    · simp only
      rcases List.mem_append.1 hm with hm | hm
      · have := hms m hm; omega
      · simp at hm; omega
    · simp only
      rw [htk]
      refine hin.snoc (fun x hx => ?_) hn1m ?_
      · have := hms x hx
        rw [upd_ne (by omega), upd_ne (by omega)]
      · rw [upd_ne (by omega), upd_same']
    · simp only
      rw [upd_same', htk, rowsI_snoc hin.len]; simp
    · simp only
      rw [upd_ne (by omega), upd_ne (by omega)]
      exact hold x hx
  · have hie : i = cs.length := by omega
    subst hie
    rw [List.take_length] at hin hb
    simp at hb
    simp [go_sem, intss]
    exact hK h1 n1 nx ms ⟨⟨by omega, by omega, by omega, fun hm => by have := hms nx hm; omega, fun m hm => by have := hms m hm; omega⟩, hin, hb, hold⟩

theorem Inner.mono {h h' : Heap} {cs : List (List Int)} {ms : List Nat} (H : Inner h cs ms) (hh : ∀ x ∈ ms, h' x = h x) : Inner h' cs ms :=
  ⟨H.len, fun j m c h1 h2 => by rw [hh m (List.mem_of_getElem? h1)]; exact H.at' j m c h1 h2, H.nodup⟩
theorem glue_new {nx n : Nat} {h h0 : Heap} {es : List Cells} {k : Nat} (hn : h0 n = some ⟨k, es⟩) : Abs.glue nx h h0 (nx + n) = some ⟨k, shiftE nx es⟩ := by
  rw [glue_at, hn]; rfl
theorem Inner.glue {h h0 : Heap} {cs : List (List Int)} {ms : List Nat} {nx : Nat} (H : Inner h0 cs ms) : Inner (Abs.glue nx h h0) cs (ms.map (nx + ·)) := by
  refine ⟨by rw [List.length_map]; exact H.len, fun j m c h1 h2 => ?_, ?_⟩
  · rw [List.getElem?_map] at h1
    cases hm : ms[j]? with
    | none => rw [hm] at h1; cases h1
    | some m0 =>
      rw [hm] at h1
      simp only [Option.map_some, Option.some.injEq] at h1
      subst h1
      rw [glue_new (H.at' j m0 c hm h2), shiftE_pure _ _ (pureE_cells c)]
  · exact List.Pairwise.map _ (fun a b (h : a ≠ b) => by omega) H.nodup
theorem rowsI_shift (nx : Nat) : ∀ (ms : List Nat) (cs : List (List Int)), shiftE nx (rowsI ms cs) = rowsI (ms.map (nx + ·)) cs
  | [], _ => rfl
  | _ :: _, [] => rfl
  | m :: ms, c :: cs => by
    have := rowsI_shift nx ms cs
    simp only [shiftE, rowsI, List.zipWith_cons_cons, List.map_cons, AV.shiftL, AV.shift] at this ⊢
    rw [this]
theorem glue_old {nx x : Nat} {h h0 : Heap} (hx : x < nx) : Abs.glue nx h h0 x = h x := by simp [Abs.glue, hx]
theorem NestI.glue {h h0 : Heap} {n0 b nx : Nat} {ms : List Nat} {cs : List (List Int)} (H : NestI 0 (Hp []) h0 n0 b ms cs) : NestI nx h (Abs.glue nx h h0) (nx + n0) (nx + b) (ms.map (nx + ·)) cs := by
  obtain ⟨⟨h1, h2, h3, h4, h5⟩, h6, h7, h8⟩ := H
  refine ⟨⟨by omega, by omega, by omega, fun hm => ?_, fun m hm => ?_⟩, h6.glue, ?_, fun x hx => glue_old hx⟩
  · obtain ⟨m, hm2, e⟩ := List.mem_map.1 hm
    have : m = b := by omega
    exact h4 (this ▸ hm2)
  · obtain ⟨m', hm', rfl⟩ := List.mem_map.1 hm
    have := h5 m' hm'
    omega
  · rw [glue_new h7, rowsI_shift]

/-- A law's Cnf under names. -/
theorem toCnf_a (n : Int) (cs : List (List Int)) (hl : cs.length ≤ 1099511627776) (hc : ∀ c ∈ cs, Len c) (h : Heap) (nx : Nat) (K : AV → Heap → Nat → Prop)
    (hK : ∀ h' nx' b ms, NestI nx h h' nx' b ms cs → K (.agg [.int n, .sl b cs.length 0 cs.length]) h' nx') : CallsA Tryz.prog 11 [cnfA n cs] h nx K := by
  refine CallsA.of_pure (K0 := fun r h0 n0 => ∃ b ms, r = .agg [.int n, .sl b cs.length 0 cs.length] ∧ NestI 0 (Hp []) h0 n0 b ms cs) (by simp [go_sem, cnfA]) ?_ fun r h0 n0 ⟨b, ms, hr, hN⟩ => by
    subst hr
    exact hK _ _ _ _ hN.glue
  refine in11 ?_
  simp [go_sem, Tryz.f11, cnfA]
  refine toIntSS_a cs hl hc _ _ _ fun h' nx' b ms ⟨⟨h1, h2, h3, h4, h5⟩, h6, h7, h8⟩ => ?_
  have f2 := h8 2 (by omega)
  have f1 := h8 1 (by omega)
  have f0 := h8 0 (by omega)
  simp [Hp_cons] at f2 f1 f0
  have g1 : ∀ c, upd h' 2 c 1 = h' 1 := fun c => upd_ne (by omega)
  have g0 : ∀ c, upd h' 2 c 0 = h' 0 := fun c => upd_ne (by omega)
  simp [go_sem, f2, f1, f0, g1, g0, hput_op, upd_same']
  have hne : ∀ x, 3 ≤ x → ∀ c d, upd (upd h' 2 c) 1 d x = h' x := fun x hx c d => by rw [upd_ne (by omega), upd_ne (by omega)]
  refine ⟨ms, ⟨by omega, by omega, h3, h4, fun m hm => ⟨by omega, (h5 m hm).2⟩⟩, h6.mono fun x hx => hne x (h5 x hx).1 _ _, (hne b h2 _ _).trans h7, fun x hx => by omega⟩
end Go.Proofs.YtogdmmccbeipkaaGreat.A
