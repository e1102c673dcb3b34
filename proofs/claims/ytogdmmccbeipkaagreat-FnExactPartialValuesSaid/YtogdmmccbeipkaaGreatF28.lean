/- Contracts: gates of the reference's rules. -/
import Derived.Test.YtogdmmccbeipkaaGreatF26
set_option linter.all false
namespace Go.Proofs.YtogdmmccbeipkaaGreat.A
open Go Go.Abs Go.Shelf
set_option pp.maxSteps 3000
set_option pp.deepTerms true
set_option linter.unusedSimpArgs false
set_option maxRecDepth 20000

/-- The work that is made: gates and partial gates under names. -/
def workA (g t a m : Nat) : AV := .agg [.sl g t 0 t, .sl a m 0 m]
theorem l29Put_a (g a m : Nat) (es : List Cells) (t : Nat) (kd x y : Int) (h : Heap) (nx : Nat) (hg : h g = some ⟨3, es⟩) (ht : es.length = t) (hgx : g < nx) (hr : t < 1000000) (K : AV → Heap → Nat → Prop)
    (hk : ∀ h' nx', nx ≤ nx' → (∀ z, z < nx → h' z = upd h g (some ⟨3, es ++ [[.int kd, .int x, .int y]]⟩) z) → K (workA g (t + 1) a m) h' nx') :
    CallsA Tryz.prog 138 [workA g t a m, .int kd, .int x, .int y] h nx K := by
  have e1 : ∀ b, upd h nx b g = h g := fun b => upd_ne (by omega)
  have e2 : ∀ b c, upd (upd h nx b) (nx + 1) c nx = b := fun b c => by rw [upd_ne (by omega), upd_same']
  have e3 : ∀ b c, upd (upd h nx b) (nx + 1) c g = h g := fun b c => by rw [upd_ne (by omega), upd_ne (by omega)]
  have e4 : ∀ b c d, upd (upd (upd h nx b) (nx + 1) c) g d nx = b := fun b c d => by rw [upd_ne (by omega), upd_ne (by omega), upd_same']
  have e5 : ∀ b c d e, upd (upd (upd (upd h nx b) (nx + 1) c) g d) nx e (nx + 1) = c := fun b c d e => by rw [upd_ne (by omega), upd_ne (by omega), upd_same']
  refine in138 ?_
  simp [go_sem, Tryz.f138, workA, alloc_op, hput_op, upd_same', e1, e2, e3, e4, e5, hg, ht]
  refine ⟨by unfold roomy; omega, ?_⟩
  exact hk _ _ (by omega) fun z hz => by
    have h1 : z ≠ nx := by omega
    have h2 : z ≠ nx + 1 := by omega
    simp [upd, h1, h2]

/-- What stays while gates are put. -/
structure Kept (H hh : Heap) (nx g : Nat) (es : List Cells) (row : Cells) : Prop where
  gs : hh g = some ⟨3, es⟩
  w : hh (nx + 1) = some ⟨2, [row]⟩
  rest : ∀ z, z < nx + 4 → z ≠ g → z ≠ nx + 1 → hh z = H z
theorem Kept.put {H hh h' : Heap} {nx g nn : Nat} {es es' : List Cells} {row : Cells} (k : Kept H hh nx g es row) (hf : ∀ z, z < nn → h' z = upd hh g (some ⟨3, es'⟩) z) (hn : nx + 4 ≤ nn) (hg : g < nx) (row' : Cells) : Kept H (upd h' (nx + 1) (some ⟨2, [row']⟩)) nx g es' row' := by
  refine ⟨?_, upd_same', fun z hz h1 h2 => ?_⟩
  · rw [upd_ne (by omega), hf _ (by omega), upd_same']
  · rw [upd_ne h2, hf z (by omega), upd_ne h1, k.rest z hz h1 h2]

/-- The gates that the reference puts for a step. -/
def evenG (cs : List (List Int)) (k : Nat) (s : Step') (t : Nat) (x y : Int) : List G3 :=
  if s.l < 0 then axM k t s else if rightB cs k s.p = false then [(6, x, y)] else if leftB cs k s.p = false then [(5, x, y)] else evenSh t s.p x y
theorem l29Even_a (n : Int) (cs : List (List Int)) (k : Nat) (ok : OkC n cs) (hk : k ≤ cs.length) (g a t : Nat) (es : List Cells) (at' : List Int) (s : Step') (h : Heap) (nx : Nat) (K : AV → Heap → Nat → Prop)
    (hg : h g = some ⟨3, es⟩) (ha : h a = some ⟨1, at'.map fun x => [.int x]⟩) (ht : es.length = t) (hgx : g < nx) (hax : a < nx) (hga : g ≠ a) (hr : t < 100000) (hp : InR s.p)
    (hs : s.l = -1 ∨ (0 ≤ s.l ∧ s.l < at'.length) ∧ 0 ≤ s.r ∧ s.r < at'.length)
    (hK : ∀ h' nx', nx ≤ nx' → (∀ z, z < nx → h' z = upd h g (some ⟨3, es ++ (evenG cs k s t (atI at' s.l) (atI at' s.r)).map gcell⟩) z) → K (workA g (t + (evenG cs k s t (atI at' s.l) (atI at' s.r)).length) a at'.length) h' nx') :
    CallsA Tryz.prog 114 [cnfA n cs, .int k, workA g t a at'.length, .agg (stepC s)] h nx K := by
  refine in114 ?_
  simp [go_sem, Tryz.f114, workA, cnfA, stepC, alloc_op, hput_op, upd_same', hg, ha, ht]
  generalize hH : upd (upd (upd (upd h nx _) (nx + 1) _) (nx + 1 + 1) _) (nx + 1 + 1 + 1) _ = H
  have b0 : H nx = some ⟨2, [[.int n, intss cs]]⟩ := by rw [← hH, upd_ne (by omega), upd_ne (by omega), upd_ne (by omega), upd_same']
  have b1 : H (nx + 1) = some ⟨2, [[.sl g t 0 t, .sl a at'.length 0 at'.length]]⟩ := by rw [← hH, upd_ne (by omega), upd_ne (by omega), upd_same']
  have b2 : H (nx + 1 + 1) = some ⟨4, [[ints s.cl, .int s.l, .int s.r, .int s.p]]⟩ := by rw [← hH, upd_ne (by omega), upd_same']
  have b3 : H (nx + 1 + 1 + 1) = some ⟨2, [[.nils, .nils]]⟩ := by rw [← hH, upd_same']
  have old : ∀ z, z < nx → H z = h z := fun z hz => by rw [← hH, upd_ne (by omega), upd_ne (by omega), upd_ne (by omega), upd_ne (by omega)]
  have bg : H g = some ⟨3, es⟩ := by rw [old g hgx, hg]
  have ba : H a = some ⟨1, at'.map fun x => [.int x]⟩ := by rw [old a hax, ha]
  clear hH
  have one : ∀ (G : List G3) (kd x y : Int), evenG cs k s t (atI at' s.l) (atI at' s.r) = [(kd, x, y)] → ∀ h' nx', nx + 4 ≤ nx' → (∀ z, z < nx + 4 → h' z = upd H g (some ⟨3, es ++ [[.int kd, .int x, .int y]]⟩) z) → ∀ b, K (workA g (t + 1) a at'.length) (upd h' (nx + 1 + 1 + 1) b) nx' := fun _ kd x y e h' nx' hn hh b => by
    rw [e] at hK
    refine hK _ _ (by omega) fun z hz => ?_
    rw [upd_ne (by omega), hh z (by omega)]
    simp only [upd, List.map_cons, List.map_nil, gcell]
    split
    · rfl
    · exact old z hz
  simp [go_sem, b0, b1, b2, b3, bg, ba]
  by_cases c1 : s.l < 0
  · have c1' : s.l = -1 := by omega
    by_cases c2 : s.r < k
    · have e : evenG cs k s t (atI at' s.l) (atI at' s.r) = [(3, 0, 0)] := by simp [evenG, c1, axM, c2]
      simp [go_sem, c1', c2, b0, b1, b2, b3, bg, ba]
      refine l29Put_a g a at'.length es t 3 0 0 _ _ bg ht (by omega) (by omega) _ fun h' nx' hn hh => ?_
      have d3 : h' (nx + 1 + 1 + 1) = some ⟨2, [[.nils, .nils]]⟩ := by rw [hh _ (by omega), upd_ne (by omega), b3]
      simp [go_sem, workA, hput_op, d3, upd_same']
      exact one [] _ _ _ e _ _ (by omega) hh _
    · have e : evenG cs k s t (atI at' s.l) (atI at' s.r) = [(2, 0, 0)] := by simp [evenG, c1, axM, c2]
      simp [go_sem, c1', c2, b0, b1, b2, b3, bg, ba]
      refine l29Put_a g a at'.length es t 2 0 0 _ _ bg ht (by omega) (by omega) _ fun h' nx' hn hh => ?_
      have d3 : h' (nx + 1 + 1 + 1) = some ⟨2, [[.nils, .nils]]⟩ := by rw [hh _ (by omega), upd_ne (by omega), b3]
      simp [go_sem, workA, hput_op, d3, upd_same']
      exact one [] _ _ _ e _ _ (by omega) hh _
  · have c1' : ¬ s.l = -1 := by omega
    have hs' := hs.resolve_left c1'
    have hLa : s.l.toNat < at'.length := by omega
    have hRa : s.r.toNat < at'.length := by omega
    have eL : atI at' s.l = at'[s.l.toNat] := by unfold atI; rw [List.getD_eq_getElem?_getD, List.getElem?_eq_getElem hLa]; rfl
    have eR : atI at' s.r = at'[s.r.toNat] := by unfold atI; rw [List.getD_eq_getElem?_getD, List.getElem?_eq_getElem hRa]; rfl
    simp [go_sem, c1', b0, b1, b2, b3, bg, ba, hLa, hRa, List.getElem?_eq_getElem, hs']
    rw [← eL, ← eR]
    generalize atI at' s.l = x at *
    generalize atI at' s.r = y at *
    refine (l29Left_q n cs k _ ok hk hp _ _).call ?_
    simp [go_sem, b0, b1, b2, b3, bg, ba]
    cases eRt : rightB cs k s.p
    · have e : evenG cs k s t x y = [(6, x, y)] := by simp [evenG, c1, eRt]
      simp [go_sem, b0, b1, b2, b3, bg, ba]
      refine l29Put_a g a at'.length es t 6 x y _ _ bg ht (by omega) (by omega) _ fun h' nx' hn hh => ?_
      have d3 : h' (nx + 1 + 1 + 1) = some ⟨2, [[.nils, .nils]]⟩ := by rw [hh _ (by omega), upd_ne (by omega), b3]
      simp [go_sem, workA, hput_op, d3, upd_same']
      exact one [] _ _ _ e _ _ (by omega) hh _
    cases eLt : leftB cs k s.p
    · have e : evenG cs k s t x y = [(5, x, y)] := by simp [evenG, c1, eRt, eLt]
      simp [go_sem, b0, b1, b2, b3, bg, ba]
      refine l29Put_a g a at'.length es t 5 x y _ _ bg ht (by omega) (by omega) _ fun h' nx' hn hh => ?_
      have d3 : h' (nx + 1 + 1 + 1) = some ⟨2, [[.nils, .nils]]⟩ := by rw [hh _ (by omega), upd_ne (by omega), b3]
      simp [go_sem, workA, hput_op, d3, upd_same']
      exact one [] _ _ _ e _ _ (by omega) hh _
    -- CHAIN
    simp [go_sem, b0, b1, b2, b3, bg, ba]
    have k0 : Kept H H nx g es [.sl g t 0 t, .sl a at'.length 0 at'.length] := ⟨bg, b1, fun _ _ _ _ => rfl⟩
    refine l29Put_a g a at'.length _ (t) 1 s.p 0 _ _ k0.gs (by simp [ht]) (by omega) (by omega) _ fun g0 x0 n0 f0 => ?_
    have p0 := k0.put f0 (by omega) (by omega)
    have w1 : g0 (nx + 1) = some ⟨2, [[.sl g (t) 0 (t), .sl a at'.length 0 at'.length]]⟩ := by rw [f0 _ (by omega), upd_ne (by omega), k0.w]
    have w2 : ∀ r, upd g0 (nx + 1) (some ⟨2, [r]⟩) (nx + 1 + 1) = some ⟨4, [[ints s.cl, .int s.l, .int s.r, .int s.p]]⟩ := fun r => by rw [(p0 r).rest _ (by omega) (by omega) (by omega), b2]
    have w3 : ∀ r, upd g0 (nx + 1) (some ⟨2, [r]⟩) (nx + 1 + 1 + 1) = some ⟨2, [[.nils, .nils]]⟩ := fun r => by rw [(p0 r).rest _ (by omega) (by omega) (by omega), b3]
    have k1 := p0 [.sl g (t + 1) 0 (t + 1), .sl a at'.length 0 at'.length]
    simp [go_sem, workA, hput_op, w1, w2, w3, upd_same']
    refine l29Put_a g a at'.length _ (t + 1) 6 t x _ _ k1.gs (by simp [ht]) (by omega) (by omega) _ fun g1 x1 n1 f1 => ?_
    have p1 := k1.put f1 (by omega) (by omega)
    have w1 : g1 (nx + 1) = some ⟨2, [[.sl g (t + 1) 0 (t + 1), .sl a at'.length 0 at'.length]]⟩ := by rw [f1 _ (by omega), upd_ne (by omega), k1.w]
    have w2 : ∀ r, upd g1 (nx + 1) (some ⟨2, [r]⟩) (nx + 1 + 1) = some ⟨4, [[ints s.cl, .int s.l, .int s.r, .int s.p]]⟩ := fun r => by rw [(p1 r).rest _ (by omega) (by omega) (by omega), b2]
    have w3 : ∀ r, upd g1 (nx + 1) (some ⟨2, [r]⟩) (nx + 1 + 1 + 1) = some ⟨2, [[.nils, .nils]]⟩ := fun r => by rw [(p1 r).rest _ (by omega) (by omega) (by omega), b3]
    have k2 := p1 [.sl g (t + 1 + 1) 0 (t + 1 + 1), .sl a at'.length 0 at'.length]
    simp [go_sem, workA, hput_op, w1, w2, w3, upd_same']
    refine l29Put_a g a at'.length _ (t + 1 + 1) 4 t 0 _ _ k2.gs (by simp [ht]) (by omega) (by omega) _ fun g2 x2 n2 f2 => ?_
    have p2 := k2.put f2 (by omega) (by omega)
    have w1 : g2 (nx + 1) = some ⟨2, [[.sl g (t + 1 + 1) 0 (t + 1 + 1), .sl a at'.length 0 at'.length]]⟩ := by rw [f2 _ (by omega), upd_ne (by omega), k2.w]
    have w2 : ∀ r, upd g2 (nx + 1) (some ⟨2, [r]⟩) (nx + 1 + 1) = some ⟨4, [[ints s.cl, .int s.l, .int s.r, .int s.p]]⟩ := fun r => by rw [(p2 r).rest _ (by omega) (by omega) (by omega), b2]
    have w3 : ∀ r, upd g2 (nx + 1) (some ⟨2, [r]⟩) (nx + 1 + 1 + 1) = some ⟨2, [[.nils, .nils]]⟩ := fun r => by rw [(p2 r).rest _ (by omega) (by omega) (by omega), b3]
    have k3 := p2 [.sl g (t + 1 + 1 + 1) 0 (t + 1 + 1 + 1), .sl a at'.length 0 at'.length]
    simp [go_sem, workA, hput_op, w1, w2, w3, upd_same']
    refine ⟨inR_of (by omega) (by omega), ?_⟩
    refine l29Put_a g a at'.length _ (t + 1 + 1 + 1) 6 (t + 2) y _ _ k3.gs (by simp [ht]) (by omega) (by omega) _ fun g3 x3 n3 f3 => ?_
    have p3 := k3.put f3 (by omega) (by omega)
    have w1 : g3 (nx + 1) = some ⟨2, [[.sl g (t + 1 + 1 + 1) 0 (t + 1 + 1 + 1), .sl a at'.length 0 at'.length]]⟩ := by rw [f3 _ (by omega), upd_ne (by omega), k3.w]
    have w2 : ∀ r, upd g3 (nx + 1) (some ⟨2, [r]⟩) (nx + 1 + 1) = some ⟨4, [[ints s.cl, .int s.l, .int s.r, .int s.p]]⟩ := fun r => by rw [(p3 r).rest _ (by omega) (by omega) (by omega), b2]
    have w3 : ∀ r, upd g3 (nx + 1) (some ⟨2, [r]⟩) (nx + 1 + 1 + 1) = some ⟨2, [[.nils, .nils]]⟩ := fun r => by rw [(p3 r).rest _ (by omega) (by omega) (by omega), b3]
    have k4 := p3 [.sl g (t + 1 + 1 + 1 + 1) 0 (t + 1 + 1 + 1 + 1), .sl a at'.length 0 at'.length]
    simp [go_sem, workA, hput_op, w1, w2, w3, upd_same']
    refine ⟨inR_of (by omega) (by omega), inR_of (by omega) (by omega), ?_⟩
    refine l29Put_a g a at'.length _ (t + 1 + 1 + 1 + 1) 5 (t + 1) (t + 3) _ _ k4.gs (by simp [ht]) (by omega) (by omega) _ fun g4 x4 n4 f4 => ?_
    have w3 : g4 (nx + 1 + 1 + 1) = some ⟨2, [[.nils, .nils]]⟩ := by rw [f4 _ (by omega), upd_ne (by omega), k4.rest _ (by omega) (by omega) (by omega), b3]
    simp [go_sem, workA, hput_op, w3, upd_same']
    have e : evenG cs k s t x y = [(1, s.p, 0), (6, (t : Int), x), (4, (t : Int), 0), (6, (t : Int) + 2, y), (5, (t : Int) + 1, (t : Int) + 3)] := by simp [evenG, c1, eRt, eLt, evenSh]; omega
    rw [e] at hK
    refine hK _ _ (by omega) fun z hz => ?_
    rw [upd_ne (by omega), f4 z (by omega)]
    by_cases hz2 : z = g
    · rw [hz2, upd_same', upd_same']; simp [gcell]
    · rw [upd_ne hz2, upd_ne hz2, k4.rest z (by omega) hz2 (by omega), old z hz]
theorem evenG_length (cs : List (List Int)) (k : Nat) (s : Step') (t : Nat) (x y : Int) : 0 < (evenG cs k s t x y).length ∧ (evenG cs k s t x y).length ≤ 5 := by
  unfold evenG
  (repeat' split) <;> simp [axM, evenSh]
/-- What the reference's rules leave. -/
def specM (G : Step' → Nat → Int → Int → List G3) : List Step' → List G3 × List Int → List G3 × List Int
  | [], st => st
  | s :: r, st => specM G r (st.1 ++ G s st.1.length (atI st.2 s.l) (atI st.2 s.r), st.2 ++ [((st.1.length + (G s st.1.length (atI st.2 s.l) (atI st.2 s.r)).length : Nat) : Int) - 1])
theorem l29Make_q (n : Int) (cs : List (List Int)) (k : Nat) (ss : List Step') (ok : OkC n cs) (oks : OkS ss) (hk : k ≤ cs.length) (hle : ss.length ≤ 200)
    (hi : ∀ i (hi : i < ss.length), ss[i].l = -1 ∨ (0 ≤ ss[i].l ∧ ss[i].l < i) ∧ 0 ≤ ss[i].r ∧ ss[i].r < i) (h : Heap) (nx : Nat) :
    CallsQ Tryz.prog 86 [cnfA n cs, .int k, stepsA ss, .bool true] h nx (.tup [.agg [gatesA (specM (evenG cs k) ss ([], [])).1, ints (specM (evenG cs k) ss ([], [])).2], .bool (decide ((specM (evenG cs k) ss ([], [])).1.length ≤ 200))]) := by
  refine CallsQ.of_pure 2 (by simp [go_sem, cnfA]) (in86 ?_) h nx
  generalize hres : AV.tup _ = R
  simp [go_sem, Tryz.f86, cnfA, stepsA]
  refine ⟨{p : (Nat × Nat) × List G3 × List Int // (p.1.1 ≤ ss.length ∧ p.2.2.length = p.1.1 ∧ p.2.1.length ≤ 5 * p.1.1) ∧ specM (evenG cs k) ss ([], []) = specM (evenG cs k) (ss.drop p.1.1) p.2},
    fun p => ⟨E [(0, cnfA n cs), (1, .int k), (2, stepsA ss), (3, .bool true), (4, .ptr 0 1 0 0), (8, .ptr 1 1 0 0), (9, .bool false), (10, .ptr 4 1 0 0), (11, .int p.1.1.1)],
      Hp [(0, ⟨2, [[.int n, intss cs]]⟩), (1, ⟨2, [[.nils, .nils]]⟩), (2, ⟨3, p.1.2.1.map gcell⟩), (3, ⟨1, p.1.2.2.map fun x => [.int x]⟩), (4, ⟨2, [[.sl 2 p.1.2.1.length 0 p.1.2.1.length, .sl 3 p.1.2.2.length 0 p.1.2.2.length]]⟩)], p.1.1.2 + 5, 52⟩,
    fun p => ss.length - p.1.1.1, ⟨((0, 0), [], []), by simp⟩, Leads.E (by simp [E_cons, E_nil, cnfA, stepsA]) rfl rfl, ?_⟩
  rintro ⟨⟨⟨i, q⟩, g, a⟩, ⟨hi', ha, hg⟩, hrun⟩
  simp only at hi' ha hg hrun
  by_cases hlt : i < ss.length
  · have hP := (oks.cl _ (List.getElem_mem hlt)).2.2.2
    have hds : ss.drop i = ss[i] :: ss.drop (i + 1) := List.drop_eq_getElem_cons hlt
    have hidx := hi i hlt
    generalize hst : ss[i] = s at *
    have hrun' : specM (evenG cs k) ss ([], []) = specM (evenG cs k) (ss.drop (i + 1)) (g ++ evenG cs k s g.length (atI a s.l) (atI a s.r), a ++ [((g.length + (evenG cs k s g.length (atI a s.l) (atI a s.r)).length : Nat) : Int) - 1]) := by
      rw [hrun, hds]; rfl
    simp [go_sem, cnfA, stepsA, hlt, hst, stepC]
    refine l29Even_a n cs k ok hk 2 3 g.length (g.map gcell) a s _ _ _ (by simp [go_sem]) (by simp [go_sem]) (by simp) (by omega) (by omega) (by omega) (by omega) hP (by omega) fun h' nx' hn hh => ?_
    have hG := evenG_length cs k s g.length (atI a s.l) (atI a s.r)
    generalize evenG cs k s g.length (atI a s.l) (atI a s.r) = G at *
    have f0 := hh 0 (by omega)
    have f1 := hh 1 (by omega)
    have f2 := hh 2 (by omega)
    have f3 := hh 3 (by omega)
    have f4 := hh 4 (by omega)
    simp [upd, Hp_cons] at f0 f1 f2 f3 f4
    simp [go_sem, workA, f0, f1, f2, f3, f4, hput_op, upd_ne, upd_same', ha]
    refine ⟨inR_of (by omega) (by omega), by unfold roomy; omega, inR_of (by omega) (by omega), ⟨((i + 1, nx' - 5), g ++ G, a ++ [(g.length : Int) + G.length - 1]), ⟨by simp only; omega, by simp [ha], by simp; omega⟩, hrun'.trans (by rw [show ((g.length + G.length : Nat) : Int) - 1 = (g.length : Int) + G.length - 1 by omega])⟩, by simp; omega, Leads.EO (by simp [E_cons, E_nil, cnfA, stepsA]) (by simp [upd, f0, f1, f2, f3, f4, ha]) (by simp only; omega)⟩
  · have hdn : ss.drop i = [] := List.drop_of_length_le (by omega)
    rw [hdn] at hrun
    have hie : i = ss.length := by omega
    simp [go_sem, cnfA, stepsA, hlt]
    rw [← hres, hrun]
    generalize hH : Hp _ = H
    have v1 : view 2 H (.sl 2 g.length 0 g.length) = gatesA g := view_gates 1 (k := 3) (by rw [← hH]; simp [go_sem]) rfl
    have v2 : view 2 H (.sl 3 a.length 0 a.length) = ints a := view_ints 1 (k := 1) (by rw [← hH]; simp [go_sem]) rfl
    show vw H (view 1 H) _ = _
    simp only [vw, vwL]
    show AV.tup [AV.agg [view 2 H (.sl 2 g.length 0 g.length), view 2 H (.sl 3 a.length 0 a.length)], _] = _
    rw [v1, v2]
    simp [specM]
    exact decide_eq_decide.2 (by omega)
end Go.Proofs.YtogdmmccbeipkaaGreat.A
namespace Go.Proofs.YtogdmmccbeipkaaGreat.A
open Go Go.Abs Go.Shelf
set_option pp.maxSteps 3000
set_option pp.deepTerms true
set_option linter.unusedSimpArgs false
set_option maxRecDepth 20000

theorem even_step {n : Int} {cs : List (List Int)} (h : goodB n cs = true) (k : Nat) {s : Step'} (hs : FitS n s) (hw : weakB s = false) (g : List G3) (a : List Int) :
    stepW cs k (axM k) evenSh s g a = (g ++ evenG cs k s g.length (atI a s.l) (atI a s.r), ((g.length + (evenG cs k s g.length (atI a s.l) (atI a s.r)).length : Nat) : Int) - 1) := by
  unfold stepW evenG
  by_cases c1 : s.l < 0
  · simp only [if_pos c1]
  · have c2 : ¬ s.r < 0 := fun c => by
      unfold weakB at hw
      rw [decide_eq_true (show 0 ≤ s.l by omega), decide_eq_true c] at hw
      cases hw
    simp only [if_neg c1, if_neg c2]
    have hp := hs (by omega) (by omega)
    unfold resW
    rw [sideI_eq h k hp]
    cases h1 : rightB cs k s.p
    · simp
    · cases h2 : leftB cs k s.p
      · simp
      · simp
theorem even_same {n : Int} {cs : List (List Int)} (h : goodB n cs = true) (k : Nat) : ∀ (l : List Step') (st : List G3 × List Int), (∀ s ∈ l, FitS n s) → (∀ s ∈ l, weakB s = false) → specM (evenG cs k) l st = wireM cs k (axM k) evenSh l st
  | [], _, _, _ => rfl
  | s :: r, st, hf, hw => by
    have h0 := even_step h k (hf s (List.mem_cons_self ..)) (hw s (List.mem_cons_self ..)) st.1 st.2
    simp only [specM, wireM]
    rw [h0]
    exact even_same h k r _ (fun t ht => hf t (List.mem_cons_of_mem _ ht)) (fun t ht => hw t (List.mem_cons_of_mem _ ht))

def partialS : Option (List G3 × List Int) → AV
  | none => .tup [.agg [.nils, .nils], .bool false]
  | some (g, a) => .tup [.agg [gatesA g, ints a], .bool (decide (g.length ≤ 200))]
theorem l29Partial_q (n : Int) (cs : List (List Int)) (k : Int) (ss : List Step') (ok : OkC n cs) (oks : OkS ss) (h : Heap) (nx : Nat) :
    CallsQ Tryz.prog 52 [cnfA n cs, .int k, stepsA ss] h nx (partialS (partialM n cs k ss)) := by
  refine CallsQ.of_pure 2 (by simp [go_sem, cnfA]) (in52 ?_) h nx
  simp [go_sem, Tryz.f52, cnfA]
  refine (l29Asked_q n cs k ok _ _).call ?_
  cases h1 : goodB n cs && inB k 0 cs.length
  · have hr : partialM n cs k ss = none := by simp [partialM, h1]
    simp [go_sem, view, vw, vwL, hr, partialS]
  have h1' : goodB n cs = true ∧ inB k 0 cs.length = true := by simpa using h1
  have hk : 0 ≤ k ∧ k ≤ cs.length := by have := h1'.2; simpa [inB] using this
  obtain ⟨kn, rfl⟩ : ∃ m : Nat, k = m := ⟨k.toNat, by omega⟩
  have hkn : kn ≤ cs.length := by omega
  simp [go_sem]
  refine (l7Refutes_q n cs ss ok oks _ _).call ?_
  cases h3 : refutB n cs ss
  · have hr : partialM n cs kn ss = none := by simp [partialM, h3]
    simp [go_sem, view, vw, vwL, hr, partialS]
  have h3' : derivB n cs ss = true ∧ 0 < ss.length := by simp only [refutB, Bool.and_eq_true, decide_eq_true_eq] at h3; exact h3.1
  have hle : ss.length ≤ 200 := by have := h3'.1; simp only [derivB, Bool.and_eq_true, decide_eq_true_eq] at this; exact this.1.1
  have hidx : ∀ i (hi : i < ss.length), ss[i].l = -1 ∨ (0 ≤ ss[i].l ∧ ss[i].l < i) ∧ (ss[i].r = -1 ∨ 0 ≤ ss[i].r ∧ ss[i].r < i) := fun i hi => correct_idx hi rfl (deriv_all h3'.1 i hi)
  simp [go_sem]
  refine ⟨{i : Nat // i ≤ ss.length ∧ (ss.take i).any weakB = false}, fun i => ⟨E [(0, cnfA n cs), (1, .int kn), (2, stepsA ss), (3, .ptr 0 1 0 0), (6, .ptr 1 1 0 0), (7, .bool false), (8, .int i.1)], Hp [(0, ⟨2, [[.int n, intss cs]]⟩), (1, ⟨2, [[.nils, .nils]]⟩)], 2, 47⟩, fun i => ss.length - i.1, ⟨0, by simp⟩, Leads.E (by simp [E_cons, E_nil, cnfA]) rfl rfl, ?_⟩
  rintro ⟨i, hi, hok⟩
  by_cases hlt : i < ss.length
  · have hx := hidx i hlt
    have hnx := fun h1 => any_next hok hlt h1
    have hfd := fun h1 => any_found (p := weakB) hlt h1
    generalize hst : ss[i] = s at *
    simp [go_sem, cnfA, stepsA, hlt, hst, stepC]
    by_cases c1 : 0 ≤ s.l
    · by_cases c2 : s.r = -1
      · have hr : partialM n cs kn ss = none := by
          have := hfd (by simp [weakB, c1, c2])
          simp [partialM, this]
        simp [go_sem, cnfA, stepsA, hlt, hst, stepC, c1, c2, hr, partialS, view, vw, vwL]
      · have hw : weakB s = false := by unfold weakB; rw [decide_eq_true c1, decide_eq_false (by omega)]; rfl
        simp [go_sem, cnfA, stepsA, hlt, hst, stepC, c1, c2]
        exact ⟨inR_of (by omega) (by omega), ⟨i + 1, by omega, hnx hw⟩, by simp; omega, Leads.E (by simp [E_cons, E_nil, cnfA, stepsA]) rfl rfl⟩
    · have hw : weakB s = false := by unfold weakB; rw [decide_eq_false c1]; rfl
      simp [go_sem, cnfA, stepsA, hlt, hst, stepC, c1]
      exact ⟨inR_of (by omega) (by omega), ⟨i + 1, by omega, hnx hw⟩, by simp; omega, Leads.E (by simp [E_cons, E_nil, cnfA, stepsA]) rfl rfl⟩
  · have hany : ss.any weakB = false := any_done hok hlt
    have hno : ∀ s ∈ ss, weakB s = false := fun s hs => by
      have := List.any_eq_false.1 hany s hs
      simpa using this
    have hf : ∀ s ∈ ss, FitS n s := fun s hs => by
      obtain ⟨i, hi, rfl⟩ := List.getElem_of_mem hs
      exact correct_fit hi (deriv_all h3'.1 i hi)
    have hidx' : ∀ i (hi : i < ss.length), ss[i].l = -1 ∨ (0 ≤ ss[i].l ∧ ss[i].l < i) ∧ 0 ≤ ss[i].r ∧ ss[i].r < i := fun i hi => by
      have h5 := hidx i hi
      have h6 := hno _ (List.getElem_mem hi)
      rcases h5 with h5 | ⟨h5, h7⟩
      · exact .inl h5
      · refine .inr ⟨h5, ?_⟩
        rcases h7 with h7 | h7
        · unfold weakB at h6; rw [decide_eq_true h5.1, decide_eq_true (by omega)] at h6; cases h6
        · exact h7
    have hr : partialM n cs kn ss = some (wireM cs kn (axM kn) evenSh ss ([], [])) := by
      unfold partialM
      rw [if_pos (by simp [h1'.1, h1'.2, h3, hany])]; rfl
    simp [go_sem, cnfA, stepsA, hlt]
    refine (l29Make_q n cs kn ss ok oks hkn hle hidx' _ _).call ?_
    rw [even_same h1'.1 kn ss _ hf hno, hr]
    simp [go_sem, view, vw, vwL, partialS]
    exact ⟨rfl, vw_pure _ _ _ (pure_gates _)⟩

def giveE (es : Option (List Bool)) : AV := match es with
  | none => .tup [bools [], .bool false]
  | some l => .tup [bools l, .bool true]
theorem specPartialValues_q (n : Int) (cs : List (List Int)) (k : Int) (ss : List Step') (bits : Int) (ok : OkC n cs) (oks : OkS ss) (h : Heap) (nx : Nat) :
    CallsQ Tryz.prog 23 [cnfA n cs, .int k, stepsA ss, .int bits] h nx (giveE (pvM n cs k ss bits)) := by
  refine CallsQ.of_pure 1 (by simp [go_sem, cnfA]) (in23 ?_) h nx
  simp [go_sem, Tryz.f23, cnfA]
  refine (l29Partial_q n cs k ss ok oks _ _).call ?_
  cases hM : partialM n cs k ss with
  | none =>
    have hr : pvM n cs k ss bits = none := by simp [pvM, hM]
    simp [go_sem, partialS, hr, giveE, view, vw, vwL, bools]
  | some ga =>
    obtain ⟨g, a⟩ := ga
    obtain ⟨hn, hg, ha, hs0, hs, hgl, hat⟩ := partial_facts hM
    have hc : (gatesA g).isCell = true := rfl
    by_cases c1 : g.length ≤ 200
    · simp [go_sem, partialS, c1, hc]
      refine (l6Bits_q n bits hn _ _).call ?_
      cases c2 : bitsB n bits
      · have hr : pvM n cs k ss bits = none := by simp [pvM, hM, c2]
        simp [go_sem, hr, giveE, view, vw, vwL, bools]
      · have hr : pvM n cs k ss bits = some (picked bits g a) := by simp [pvM, hM, c1, c2]
        simp [go_sem]
        refine (l6Values_q g bits hg (by omega) _ _).call ?_
        simp [go_sem, ints]
        refine ⟨{i : Nat // i ≤ a.length}, fun i => ⟨E [(10, .ptr 1 1 0 0), (12, bools (valsM bits g [])), (13, .sl 2 i.1 0 i.1), (14, .int i.1)], Hp [(0, ⟨2, [[.int n, intss cs]]⟩), (1, ⟨2, [[gatesA g, ints a]]⟩), (2, ⟨1, bcells ((picked bits g a).take i.1)⟩)], 3, 56⟩, fun i => a.length - i.1, ⟨0, by omega⟩, Leads.E (by simp [E_cons, E_nil, ints]) (by simp [ints, bcells]) rfl, ?_⟩
        rintro ⟨i, hi⟩
        have hlv : (valsM bits g []).length = g.length := by rw [valsM_length]; simp
        have hlp : (picked bits g a).length = a.length := by simp [picked]
        by_cases hlt : i < a.length
        · have hx := hat _ (List.getElem_mem hlt)
          have hxv : a[i].toNat < (valsM bits g []).length := by omega
          have hlt' : i < (picked bits g a).length := by omega
          have hp : (picked bits g a)[i] = (valsM bits g [])[a[i].toNat] := by
            simp only [picked, List.getElem_map]
            rw [List.getD_eq_getElem?_getD, List.getElem?_eq_getElem hxv]; rfl
          have htk : bcells ((picked bits g a).take (i + 1)) = bcells ((picked bits g a).take i) ++ [[.bool (valsM bits g [])[a[i].toNat]]] := by
            rw [List.take_succ_eq_append_getElem hlt', hp]; simp [bcells]
          have hbl : (bcells ((picked bits g a).take i)).length = i := by simp [bcells]; omega
          simp [go_sem, ints, bools, hlt, hx, hlv, hxv, hbl]
          exact ⟨by unfold roomy; omega, inR_of (by omega) (by omega), ⟨i + 1, by omega⟩, by simp; omega, Leads.E (by simp [E_cons, E_nil, ints, bools]) (by simp [htk]) rfl⟩
        · have : i = a.length := by omega
          subst this
          simp [go_sem, ints]
          rw [hr, List.take_of_length_le (by omega)]
          generalize hH : Hp _ = H
          have v1 : view 1 H (.sl 2 a.length 0 a.length) = bools (picked bits g a) := view_bools 0 (k := 1) (by rw [← hH]; simp [go_sem]; rfl) hlp.symm
          show AV.tup [view 1 H (.sl 2 a.length 0 a.length), _] = _
          rw [v1]
          rfl
    · have hr : pvM n cs k ss bits = none := by simp [pvM, hM, c1]
      simp [go_sem, partialS, c1, hr, hc, giveE, view, vw, vwL, bools]
end Go.Proofs.YtogdmmccbeipkaaGreat.A
