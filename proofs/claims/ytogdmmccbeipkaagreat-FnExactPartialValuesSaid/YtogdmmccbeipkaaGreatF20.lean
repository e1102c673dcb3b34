/- Contracts: wiring, the program. -/
import Derived.Test.YtogdmmccbeipkaaGreatF19
set_option linter.all false
namespace Go.Proofs.YtogdmmccbeipkaaGreat.A
open Go Go.Abs Go.Shelf
set_option pp.maxSteps 3000
set_option pp.deepTerms true
set_option linter.unusedSimpArgs false
set_option maxRecDepth 20000

def rulesA (fa fs : FuncId) : AV := .agg [.fn (.func fa) [] [], .fn (.func fs) [] []]
def resW (cs : List (List Int)) (k : Nat) (sh : Nat → Int → Int → Int → List G3) (s : Step') (t : Nat) (x y : Int) : List G3 :=
  if sideI cs k s.p = -1 then [(6, x, y)] else if sideI cs k s.p = 1 then [(5, x, y)] else sh t s.p x y
theorem resolvent_a (fa fs : FuncId) (sh : Nat → Int → Int → Int → List G3) (hsh : ShOk fs sh) (m g a : Nat) (n : Int) (cs : List (List Int)) (k : Nat) (ok : OkC n cs) (hgood : goodB n cs = true) (hk : k ≤ cs.length) (s : Step') (es : List Cells) (at' : List Int) (t : Nat) (h : Heap) (nx : Nat) (K : AV → Heap → Nat → Prop)
    (hm : h m = some ⟨3, [[splitA n cs k, .sl g t 0 t, .sl a at'.length 0 at'.length]]⟩) (hg : h g = some ⟨3, es⟩) (ha : h a = some ⟨1, at'.map fun x => [.int x]⟩) (ht : es.length = t) (hmg : g ≠ m) (htr : t < 100000) (hmx : m < nx) (hgx : g < nx) (hax : a < nx)
    (hl : 0 ≤ s.l ∧ s.l < at'.length) (hr : 0 ≤ s.r ∧ s.r < at'.length)
    (hk' : ∀ h' nx', nx ≤ nx' → (∀ x, x < nx → h' x = upd (upd h g (some ⟨3, es ++ (resW cs k sh s t (atI at' s.l) (atI at' s.r)).map gcell⟩)) m (some ⟨3, [[splitA n cs k, .sl g (t + (resW cs k sh s t (atI at' s.l) (atI at' s.r)).length) 0 (t + (resW cs k sh s t (atI at' s.l) (atI at' s.r)).length), .sl a at'.length 0 at'.length]]⟩) x) → K (.int ((t + (resW cs k sh s t (atI at' s.l) (atI at' s.r)).length : Nat) - 1)) h' nx') :
    CallsA Tryz.prog 112 [.ptr m 1 0 0, .agg (stepC s), rulesA fa fs] h nx K := by
  have e1 : ∀ b c, upd (upd h nx b) (nx + 1) c m = h m := fun b c => by rw [upd_ne (by omega), upd_ne (by omega)]
  have e2 : ∀ b c, upd (upd h nx b) (nx + 1) c g = h g := fun b c => by rw [upd_ne (by omega), upd_ne (by omega)]
  have e3 : ∀ b c, upd (upd h nx b) (nx + 1) c a = h a := fun b c => by rw [upd_ne (by omega), upd_ne (by omega)]
  have e4 : ∀ b c, upd (upd h nx b) (nx + 1) c nx = b := fun b c => by rw [upd_ne (by omega), upd_same]
  have hll : s.l.toNat < at'.length := by omega
  have hrl : s.r.toNat < at'.length := by omega
  have eL : atI at' s.l = at'[s.l.toNat] := by unfold atI; rw [List.getD_eq_getElem?_getD, List.getElem?_eq_getElem hll]; rfl
  have eR : atI at' s.r = at'[s.r.toNat] := by unfold atI; rw [List.getD_eq_getElem?_getD, List.getElem?_eq_getElem hrl]; rfl
  rw [eL, eR] at hk'
  refine in112 ?_
  simp [go_sem, Tryz.f112, alloc_op, hm, hg, ha, ht, stepC, e1, e2, e3, e4, upd_same, rulesA, hl, hr, hll, hrl]
  generalize at'[s.l.toNat] = x at *
  generalize at'[s.r.toNat] = y at *
  have fin : ∀ (G : List G3) (h0 : Heap), resW cs k sh s t x y = G → (∀ z, z < nx → h0 z = h z) → (∀ kx, kx = t + G.length →
      K (.int ((kx : Nat) - 1)) (upd (upd h0 g (some ⟨3, es ++ G.map gcell⟩)) m (some ⟨3, [[splitA n cs k, .sl g kx 0 kx, .sl a at'.length 0 at'.length]]⟩)) (nx + 1 + 1)) := fun G h0 e h1 kx hkx => by
    subst e hkx
    refine hk' _ _ (by omega) fun z hz => ?_
    simp only [upd]
    split
    · rfl
    · split
      · rfl
      · exact h1 z hz
  have h0z : ∀ b c z, z < nx → upd (upd h nx b) (nx + 1) c z = h z := fun b c z hz => by rw [upd_ne (by omega), upd_ne (by omega)]
  refine (sideOf_q m n cs k _ _ s.p ok hgood hk _ _ ((e1 _ _).trans hm)).call ?_
  by_cases c1 : sideI cs k s.p = -1
  · simp [go_sem, c1]
    refine put_a m g _ _ es t 6 x y _ _ ((e1 _ _).trans hm) ((e2 _ _).trans hg) ht hmg (by omega) _ ?_
    simp [go_sem]
    have := fin [(6, x, y)] _ (by simp [resW, c1]) (h0z (some ⟨4, [[ints s.cl, .int s.l, .int s.r, .int s.p]]⟩) (some ⟨2, [[.fn (.func fa) [] [], .fn (.func fs) [] []]]⟩)) (t + 1) rfl
    simpa [gcell] using this
  · by_cases c2 : sideI cs k s.p = 1
    · simp [go_sem, c2]
      refine put_a m g _ _ es t 5 x y _ _ ((e1 _ _).trans hm) ((e2 _ _).trans hg) ht hmg (by omega) _ ?_
      simp [go_sem]
      have := fin [(5, x, y)] _ (by simp [resW, c2]) (h0z (some ⟨4, [[ints s.cl, .int s.l, .int s.r, .int s.p]]⟩) (some ⟨2, [[.fn (.func fa) [] [], .fn (.func fs) [] []]]⟩)) (t + 1) rfl
      simpa [gcell] using this
    · simp [go_sem, c1, c2, e1, e2, e3, e4, upd_same]
      refine hsh.2 m g _ _ _ x y es t _ _ _ ((e1 _ _).trans hm) ((e2 _ _).trans hg) ht hmg (by omega) ?_
      simp [go_sem]
      exact fin (sh t s.p x y) _ (by simp [resW, c1, c2]) (h0z _ _) _ rfl

/-- What a step puts there, and its gate. -/
def stepW (cs : List (List Int)) (k : Nat) (ax : Nat → Step' → List G3) (sh : Nat → Int → Int → Int → List G3) (s : Step') (g : List G3) (a : List Int) : List G3 × Int :=
  if s.l < 0 then (g ++ ax g.length s, ((g.length + (ax g.length s).length : Nat) : Int) - 1)
  else if s.r < 0 then (g, atI a s.l)
  else (g ++ resW cs k sh s g.length (atI a s.l) (atI a s.r), ((g.length + (resW cs k sh s g.length (atI a s.l) (atI a s.r)).length : Nat) : Int) - 1)
def wireM (cs : List (List Int)) (k : Nat) (ax : Nat → Step' → List G3) (sh : Nat → Int → Int → Int → List G3) : List Step' → List G3 × List Int → List G3 × List Int
  | [], st => st
  | s :: r, st => wireM cs k ax sh r ((stepW cs k ax sh s st.1 st.2).1, st.2 ++ [(stepW cs k ax sh s st.1 st.2).2])

theorem wire_a (fa fs : FuncId) (ax : Nat → Step' → List G3) (B : Nat) (OkA : Step' → Prop) (sh : Nat → Int → Int → Int → List G3) (n : Int) (cs : List (List Int)) (k : Nat) (hax : AxOk fa n cs k ax B OkA) (hsh : ShOk fs sh) (hB : B ≤ 64) (ok : OkC n cs) (hgood : goodB n cs = true) (hk : k ≤ cs.length)
    (ss : List Step') (hss : ss.length ≤ 200) (hOk : ∀ s ∈ ss, OkA s) (hidx : ∀ i (hi : i < ss.length), ss[i].l = -1 ∨ (0 ≤ ss[i].l ∧ ss[i].l < i) ∧ (ss[i].r = -1 ∨ 0 ≤ ss[i].r ∧ ss[i].r < i)) (K : AV → Heap → Nat → Prop)
    (hK : ∀ h' nx' g a, 4 ≤ nx' → wireM cs k ax sh ss ([], []) = (g, a) → a.length = ss.length → g.length ≤ 64 * ss.length → (∀ x ∈ a, 0 ≤ x ∧ x < g.length) → h' 1 = some ⟨3, [[splitA n cs k, .sl 2 g.length 0 g.length, .sl 3 a.length 0 a.length]]⟩ → h' 2 = some ⟨3, g.map gcell⟩ → h' 3 = some ⟨1, a.map fun x => [.int x]⟩ → K (.ptr 1 1 0 0) h' nx') :
    CallsA Tryz.prog 78 [splitA n cs k, stepsA ss, rulesA fa fs] (Hp []) 0 K := by
  refine in78 ?_
  simp [go_sem, Tryz.f78, stepsA, splitA, rulesA]
  refine ⟨{p : (Nat × Nat) × List G3 × List Int // (p.1.1 ≤ ss.length ∧ p.2.2.length = p.1.1 ∧ p.2.1.length ≤ 64 * p.1.1) ∧ (∀ x ∈ p.2.2, 0 ≤ x ∧ x < p.2.1.length) ∧ wireM cs k ax sh ss ([], []) = wireM cs k ax sh (ss.drop p.1.1) p.2},
    fun p => ⟨E [(0, splitA n cs k), (1, stepsA ss), (2, rulesA fa fs), (5, .ptr 0 1 0 0), (6, .sc (.pointer none)), (7, .ptr 1 1 0 0), (14, stepsA ss), (15, .int ss.length), (16, .int p.1.1.1)], Hp [(0, ⟨2, [[.fn (.func fa) [] [], .fn (.func fs) [] []]]⟩), (1, ⟨3, [[splitA n cs k, .sl 2 p.1.2.1.length 0 p.1.2.1.length, .sl 3 p.1.2.2.length 0 p.1.2.2.length]]⟩), (2, ⟨3, p.1.2.1.map gcell⟩), (3, ⟨1, p.1.2.2.map fun x => [.int x]⟩)], p.1.1.2 + 4, 55⟩,
    fun p => ss.length - p.1.1.1, ⟨((0, 0), [], []), by simp⟩, ?_, ?_⟩
  · refine (thaw_cell (m := 1) (k := 3) (kk := 3) (j := 1) (row := [splitA n cs k, .nils, .nils]) (by simp [go_sem, splitA]) rfl (by omega)).trans ?_
    refine (thaw_cell (m := 1) (k := 3) (kk := 1) (j := 2) (row := [splitA n cs k, .sl 2 0 0 0, .nils]) (by simp [upd]) rfl (by omega)).trans ?_
    exact Leads.EO (by simp [E_cons, E_nil, splitA, stepsA, rulesA]) (by simp [upd, Hp_cons]) rfl
  rintro ⟨⟨⟨i, q⟩, g, a⟩, ⟨hi, ha, hg⟩, hat, hrun⟩
  simp only at hi ha hg hat hrun
  by_cases hlt : i < ss.length
  · have hds : ss.drop i = ss[i] :: ss.drop (i + 1) := List.drop_eq_getElem_cons hlt
    have hid := hidx i hlt
    have hok := hOk _ (List.getElem_mem hlt)
    generalize hst : ss[i] = s at *
    have hstep : wireM cs k ax sh ss ([], []) = wireM cs k ax sh (ss.drop (i + 1)) ((stepW cs k ax sh s g a).1, a ++ [(stepW cs k ax sh s g a).2]) := by
      rw [hrun, hds]; rfl
    simp [go_sem, stepsA, splitA, rulesA, hlt, hst, stepC]
    refine (isAxiom_q s _ _).call ?_
    -- the end of a round
    have fin : ∀ (G : List G3) (now : Int), stepW cs k ax sh s g a = (g ++ G, now) → G.length ≤ 64 → 0 ≤ now ∧ now < g.length + G.length →
        (((i + 1 ≤ ss.length ∧ (a ++ [now]).length = i + 1 ∧ (g ++ G).length ≤ 64 * (i + 1)) ∧ (∀ x ∈ a ++ [now], 0 ≤ x ∧ x < ((g ++ G).length : Int)) ∧ wireM cs k ax sh ss ([], []) = wireM cs k ax sh (ss.drop (i + 1)) (g ++ G, a ++ [now]))) := fun G now e hG hn => by
      rw [e] at hstep
      refine ⟨⟨by omega, by simp [ha], by simp; omega⟩, fun x hx => ?_, hstep⟩
      rw [List.length_append]
      rcases List.mem_append.1 hx with hx | hx
      · have := hat x hx; omega
      · simp only [List.mem_singleton] at hx; subst hx; omega
    by_cases c1 : s.l < 0
    · simp [go_sem, c1]
      refine hax.2 1 2 (.sl 3 a.length 0 a.length) s (g.map gcell) g.length _ _ _ hok (by simp [go_sem, splitA]) (by simp [go_sem]) (by simp) (by omega) (by omega) (by omega) (by omega) fun h' nx' hnx hh => ?_
      have hA := hax.1 g.length s hok
      generalize hG : ax g.length s = G at *
      have f0 := hh 0 (by omega)
      have f1 := hh 1 (by omega)
      have f2 := hh 2 (by omega)
      have f3 := hh 3 (by omega)
      simp [upd, Hp_cons] at f0 f1 f2 f3
      simp [go_sem, f0, f1, f2, f3, hput_op, upd_ne, upd_same]
      refine ⟨by unfold roomy; omega, inR_of (by omega) (by omega), ⟨((i + 1, nx' - 4), g ++ G, a ++ [(g.length : Int) + G.length - 1]), fin G _ (by simp [stepW, c1, hG]) (by omega) (by omega)⟩, by simp; omega, Leads.EO (by simp [E_cons, E_nil, splitA, stepsA, rulesA]) (by simp [upd, f0, f2, splitA]) (by simp only; omega)⟩
    · have c1' : 0 ≤ s.l := by omega
      have hLa : s.l.toNat < a.length := by omega
      have eL : atI a s.l = a[s.l.toNat] := by unfold atI; rw [List.getD_eq_getElem?_getD, List.getElem?_eq_getElem hLa]; rfl
      have mL := hat _ (List.getElem_mem hLa)
      simp [go_sem, c1]
      refine (isWeakening_q s _ _).call ?_
      by_cases c2 : s.r < 0
      · have hli : s.l < i := by omega
        simp [go_sem, c1, c2, c1', ha, hli, hLa]
        refine ⟨by unfold roomy; omega, inR_of (by omega) (by omega), ⟨((i + 1, q + 1), g ++ [], a ++ [a[s.l.toNat]]), fin [] _ (by simp [stepW, c1, c2, eL]) (by simp) (by simp; omega)⟩, by simp; omega, Leads.EH (by simp [E_cons, E_nil, splitA, stepsA, rulesA]) (by simp [Hp_cons, splitA, ha]) (by first | omega | (simp only; omega) | rfl)⟩
      · have hR0 : 0 ≤ s.r ∧ s.r < i := by omega
        simp [go_sem, c1, c2, c1']
        refine resolvent_a fa fs sh hsh 1 2 3 n cs k ok hgood hk s (g.map gcell) a g.length _ _ _ (by simp [go_sem, splitA]) (by simp [go_sem]) (by simp [go_sem]) (by simp) (by omega) (by omega) (by omega) (by omega) (by omega) (by omega) (by omega) fun h' nx' hnx hh => ?_
        have hA : 0 < (resW cs k sh s g.length (atI a s.l) (atI a s.r)).length ∧ (resW cs k sh s g.length (atI a s.l) (atI a s.r)).length ≤ 5 := by
          unfold resW
          split
          · simp
          · split
            · simp
            · exact hsh.1 _ _ _ _
        have hW : stepW cs k ax sh s g a = (g ++ resW cs k sh s g.length (atI a s.l) (atI a s.r), ((g.length + (resW cs k sh s g.length (atI a s.l) (atI a s.r)).length : Nat) : Int) - 1) := by simp [stepW, c1, c2]
        generalize hG : resW cs k sh s g.length (atI a s.l) (atI a s.r) = G at *
        have f0 := hh 0 (by omega)
        have f1 := hh 1 (by omega)
        have f2 := hh 2 (by omega)
        have f3 := hh 3 (by omega)
        simp [upd, Hp_cons] at f0 f1 f2 f3
        simp [go_sem, f0, f1, f2, f3, hput_op, upd_ne, upd_same]
        refine ⟨by unfold roomy; omega, inR_of (by omega) (by omega), ⟨((i + 1, nx' - 4), g ++ G, a ++ [(g.length : Int) + G.length - 1]), fin G _ (by rw [hW]; simp) (by omega) (by omega)⟩, by simp; omega, Leads.EO (by simp [E_cons, E_nil, splitA, stepsA, rulesA]) (by simp [upd, f0, f2, splitA]) (by simp only; omega)⟩
  · have hdn : ss.drop i = [] := List.drop_of_length_le (by omega)
    rw [hdn] at hrun
    have hie : i = ss.length := by omega
    simp [go_sem, stepsA, splitA, rulesA, hlt]
    exact hK _ _ g a (by omega) hrun (by omega) (by rw [hie] at hg; exact hg) hat (by simp [go_sem, splitA]) (by simp [go_sem]) (by simp [go_sem])
end Go.Proofs.YtogdmmccbeipkaaGreat.A
