/- The law of PartialValues, walked. -/
import Derived.Test.YtogdmmccbeipkaaGreatL4
import Derived.Test.YtogdmmccbeipkaaGreatL6
set_option linter.all false
namespace Go.Proofs.YtogdmmccbeipkaaGreat.A
open Go Go.Abs Go.Shelf
set_option pp.maxSteps 3000
set_option pp.deepTerms true
set_option linter.unusedSimpArgs false
set_option maxRecDepth 20000
set_option maxHeartbeats 4000000

/-- A function that hands back a new list or nothing, called on what names hold. -/
theorem outE_call {f : FuncId} {kk : Nat} {A0 : List AV} {o : Option (List Cells)} (hk : 0 < kk) (hp : ∀ es, o = some es → AV.pureE es = true ∧ ∀ e ∈ es, AV.noIL e = true) (hf : CallsA Tryz.prog f A0 (Hp []) 0 (fun r h0 _ => OutE kk o r h0))
    {args : List AV} {h : Heap} {nx : Nat} (hv : (args.map fun a => view (1 + 1) h a) = A0) (K : AV → Heap → Nat → Prop)
    (h0 : o = none → K (.tup [.nils, .bool false]) h nx)
    (h1 : ∀ es, o = some es → K (.tup [.sl nx es.length 0 es.length, .bool true]) (upd h nx (some ⟨kk, es⟩)) (nx + 1)) : CallsA Tryz.prog f args h nx K := by
  cases o with
  | none =>
    refine (CallsQ.of_view 1 rfl (r := .tup [.nils, .bool false]) ?_).call (h0 rfl)
    rw [hv]
    exact hf.mono fun r h0 n0 hO => hO
  | some es =>
    have hT : CallsT Tryz.prog f args h nx kk es := by
      refine CallsT.of_view 1 hk (hp es rfl).1 (hp es rfl).2 ?_
      rw [hv]
      refine hf.mono fun r h0 n0 hO => ?_
      obtain ⟨m, ys, ⟨hr, hm⟩, ht⟩ := hO
      exact ⟨m, ys, ⟨hr, hm⟩, ht⟩
    exact hT.call (h1 es rfl)
theorem bcells_length (b : List Bool) : (bcells b).length = b.length := by simp [bcells]
theorem pure_bc {o : Option (List Bool)} (es : List Cells) (h : o.map bcells = some es) : AV.pureE es = true ∧ ∀ e ∈ es, AV.noIL e = true := by
  cases o with
  | none => cases h
  | some b =>
    have h : bcells b = es := Option.some.inj h
    subst h
    refine ⟨by have := pure_bools b; simpa [bools, bcells, AV.pure] using this, fun e he => ?_⟩
    obtain ⟨x, _, rfl⟩ := List.mem_map.1 he
    rfl
theorem pv_length {n : Int} {cs : List (List Int)} {k : Int} {ss : List Step'} {bits : Int} {gs : List Bool} (h : pvM n cs k ss bits = some gs) : gs.length ≤ 200 := by
  unfold pvM at h
  split at h
  · cases h
  · rename_i g a hM
    split at h
    · have := partial_facts hM
      have h := Option.some.inj h
      subst h
      simp only [picked, List.length_map]; omega
    · cases h

theorem pvLaw_a (n : Int) (cs : List (List Int)) (k : Int) (ss : List Step') (bits : Int) (hn : InR n) (ic : InC cs) (is : InS ss) :
    CallsA Tryz.prog 5 [cnfA n cs, .int k, stepsA ss, .int bits] (Hp []) 0 fun r _ _ => r = .bool true := by
  refine in5 ?_
  simp [go_sem, Tryz.f5, cnfA]
  refine (szCnf_q n cs 1048576 (by omega) ic.len (fun c hc => (ic.cl c hc).2) _ _).call ?_
  by_cases h1 : szAll List.length cs 1048576 < 0
  · simp [go_sem, h1]
  have b1 := szAll_bound (f := List.length) (cs := cs) (l := 1048576) (by omega)
  simp [go_sem, h1]
  refine (szResStepS_q ss _ ⟨by omega, by omega⟩ is.len (fun s hs => (is.cl s hs).1.2) _ _).call ?_
  by_cases h2 : szAll (fun s : Step' => s.cl.length) ss (szAll List.length cs 1048576) < 0
  · simp [go_sem, h2]
  have b2 := szAll_bound (f := fun s : Step' => s.cl.length) (cs := ss) (l := szAll List.length cs 1048576) (by omega)
  have ok : OkC n cs := ⟨hn, by omega, fun c hc => ⟨(ic.cl c hc).1, by have := b1.2.2 c hc; unfold Len; omega⟩⟩
  have oks : OkS ss := ⟨by omega, fun s hs => ⟨⟨(is.cl s hs).1.1, by have := b2.2.2 s hs; unfold Len; omega⟩, (is.cl s hs).2⟩⟩
  have hlc : ∀ c ∈ cs, Len c := fun c hc => (ok.cl c hc).2
  have hls : ∀ s ∈ ss, Len s.cl := fun s hs => (oks.cl s hs).1.2
  simp [go_sem, h2]
  refine (toCnf_q n cs ok.len hlc _ _).call ?_
  simp [go_sem]
  refine (toResStepS_q ss oks.len hls _ _).call ?_
  simp [go_sem]
  refine (specPartialValues_q n cs k ss bits ok oks _ _).call ?_
  simp [go_sem]
  have hsum1 : (cs.map List.length).sum ≤ 1048576 := by have := szAll_sum (f := List.length) (cs := cs) (l := 1048576) (by omega); omega
  have hsum2 : (ss.map fun s => s.cl.length).sum ≤ 1048576 := by have := szAll_sum (f := fun s : Step' => s.cl.length) (cs := ss) (l := szAll List.length cs 1048576) (by omega); omega
  cases hM : pvM n cs k ss bits with
  | none =>
    simp [go_sem, giveE]
    refine toCnf_a n cs ok.len hlc _ _ _ fun h1 n1 bC mC hC => ?_
    obtain ⟨⟨hC1, hC2, hC3, hC4, hC5⟩, hC6, hC7, hC8⟩ := hC
    have hC0 := hC8 0 (by omega)
    simp [Hp_cons] at hC0
    simp [go_sem, hC0, alloc_op, upd_same', hput_op, upd_upd]
    generalize hH2 : upd h1 n1 (some ⟨2, [[AV.int n, .sl bC cs.length 0 cs.length]]⟩) = H2
    have x0 : H2 n1 = some ⟨2, [[AV.int n, .sl bC cs.length 0 cs.length]]⟩ := by rw [← hH2]; exact upd_same'
    have old2 : ∀ x, x < n1 → H2 x = h1 x := fun x hx => by rw [← hH2]; exact upd_ne (by omega)
    refine toResStepS_a ss oks.len hls _ _ _ fun H3 n3 bS mS hS => ?_
    obtain ⟨⟨hS1, hS2, hS3, hS4, hS5⟩, hS6, hS7, hS8⟩ := hS
    have x03 : H3 n1 = some ⟨2, [[AV.int n, .sl bC cs.length 0 cs.length]]⟩ := by rw [hS8 n1 (by omega)]; exact x0
    have old3 : ∀ x, x < n1 → H3 x = h1 x := fun x hx => by rw [hS8 x (by omega)]; exact old2 x hx
    have f03 : H3 0 = some ⟨2, [[AV.int n, intss cs]]⟩ := by rw [old3 0 (by omega)]; exact hC0
    have vC : ∀ (h' : Heap), (∀ x, x = bC ∨ x ∈ mC → h' x = H3 x) → h' bC = some ⟨1, rowsI mC cs⟩ ∧ Inner h' cs mC := fun h' hh => by
      have hold : ∀ x, x = bC ∨ x ∈ mC → h' x = h1 x := fun x hx => by
        rw [hh x hx]
        rcases hx with hx | hx
        · subst hx; exact old3 _ hC3
        · exact old3 x (hC5 x hx).2
      exact ⟨by rw [hold bC (.inl rfl)]; exact hC7, hC6.mono fun x hx => hold x (.inr hx)⟩
    simp [go_sem, x03]
    refine outE_call (by omega) pure_bc (partialValues_a n cs k ss bits ok oks) (by
      have v := vC H3 fun _ _ => rfl
      simp only [List.map_cons, List.map_nil, view_int]
      rw [view_cnf v.1 v.2, view_nestS hS7 hS6]) _ (fun _ => ?_) (fun gs hgs => by simp [hM] at hgs)
    simp [go_sem]
    refine (eqBoolS_nil _ _).call ?_
    simp [go_sem, x03, f03]
    refine ⟨_, toCnf_q n cs ok.len hlc _ _, _, CallsQ.of_view 1 rfl (r := .bool true) (by
      have v := vC H3 fun _ _ => rfl
      simp only [List.map_cons, List.map_nil]
      rw [view_cnf v.1 v.2, show view (1 + 1) H3 (cnfA n cs) = cnfA n cs from vw_pure _ _ _ (by simp [go_sem, cnfA])]
      exact (eqCnf_q n cs (by omega) (fun c hc => by have := b1.2.2 c hc; omega) _ _).call rfl), ?_⟩
    simp [go_sem]
    refine (toResStepS_q ss oks.len hls _ _).call ?_
    simp [go_sem]
    refine (CallsQ.of_view 1 rfl (r := .bool true) (by
      simp only [List.map_cons, List.map_nil]
      rw [view_nestS hS7 hS6, show view (1 + 1) H3 (stepsA ss) = stepsA ss from vw_pure _ _ _ (by simp [go_sem])]
      exact (eqResStepS_q ss (by omega) (fun s hs => by have := b2.2.2 s hs; omega) _ _).call rfl)).call ?_
    simp [go_sem, x03, f03]
    have v3 := vC H3 fun _ _ => rfl
    refine markCnf_a n cs mC bC 1 _ _ _ v3.1 v3.2 hC4 (by omega) (fun m hm => by have := hC5 m hm; omega) 1048576 (by omega) hsum1 (by omega) fun H4 n4 k4 a1 a2 a3 => ?_
    have f04 : H4 0 = some ⟨2, [[AV.int n, intss cs]]⟩ := by rw [a3 0 (fun hm => by have := hC5 0 hm; omega) (by omega)]; exact f03
    have eS : ∀ x, x = bS ∨ x ∈ mS → H4 x = H3 x := fun x hx => by
      have hb : n1 + 1 ≤ x ∧ x < n3 := by
        rcases hx with hx | hx
        · omega
        · exact hS5 x hx
      exact a3 x (fun hm => by have := hC5 x hm; omega) hb.2
    simp [go_sem]
    refine markResStepS_a ss mS bS k4 _ _ _ ((eS bS (.inl rfl)).trans hS7) (hS6.mono fun x hx => eS x (.inr hx)) hS4 1048576 (by omega) hsum2 (by omega) fun H5 k5 c1 c2 => ?_
    have f05 : H5 0 = some ⟨2, [[AV.int n, intss cs]]⟩ := by
      have hne : (0 : Nat) ≠ bS := by omega
      rw [c2 0 hne (fun hm => by have := hS5 0 hm; omega)]; exact f04
    have c1' : ¬ k5 < 0 := by omega
    simp [go_sem, c1']
    refine (eqBoolS_nil _ _).call ?_
    simp [go_sem]
    refine (markBoolS_nil _ _ _).call ?_
    simp [go_sem]
    refine (heldBoolS_nil _ _ _).call ?_
    simp [go_sem, f05]
    refine (toCnf_q n cs ok.len hlc _ _).call ?_
    simp [go_sem]
    refine (toResStepS_q ss oks.len hls _ _).call ?_
    simp [go_sem]
    refine outE_call (by omega) pure_bc (partialValues_a n cs k ss bits ok oks) (view_args (by simp [go_sem, cnfA]) 1 _) _ (fun _ => ?_) (fun gs hgs => by simp [hM] at hgs)
    simp [go_sem]
    refine (eqBoolS_nil _ _).call ?_
    simp [go_sem]
    refine (heldBoolS_nil _ _ _).call ?_
    simp [go_sem]
  | some gs =>
    have hgl := pv_length hM
    simp [go_sem, giveE]
    refine toCnf_a n cs ok.len hlc _ _ _ fun h1 n1 bC mC hC => ?_
    obtain ⟨⟨hC1, hC2, hC3, hC4, hC5⟩, hC6, hC7, hC8⟩ := hC
    have hC0 := hC8 0 (by omega)
    simp [Hp_cons] at hC0
    simp [go_sem, hC0, alloc_op, upd_same', hput_op, upd_upd]
    generalize hH2 : upd h1 n1 (some ⟨2, [[AV.int n, .sl bC cs.length 0 cs.length]]⟩) = H2
    have x0 : H2 n1 = some ⟨2, [[AV.int n, .sl bC cs.length 0 cs.length]]⟩ := by rw [← hH2]; exact upd_same'
    have old2 : ∀ x, x < n1 → H2 x = h1 x := fun x hx => by rw [← hH2]; exact upd_ne (by omega)
    refine toResStepS_a ss oks.len hls _ _ _ fun H3 n3 bS mS hS => ?_
    obtain ⟨⟨hS1, hS2, hS3, hS4, hS5⟩, hS6, hS7, hS8⟩ := hS
    have x03 : H3 n1 = some ⟨2, [[AV.int n, .sl bC cs.length 0 cs.length]]⟩ := by rw [hS8 n1 (by omega)]; exact x0
    have old3 : ∀ x, x < n1 → H3 x = h1 x := fun x hx => by rw [hS8 x (by omega)]; exact old2 x hx
    have f03 : H3 0 = some ⟨2, [[AV.int n, intss cs]]⟩ := by rw [old3 0 (by omega)]; exact hC0
    have vC : ∀ (h' : Heap), (∀ x, x = bC ∨ x ∈ mC → h' x = H3 x) → h' bC = some ⟨1, rowsI mC cs⟩ ∧ Inner h' cs mC := fun h' hh => by
      have hold : ∀ x, x = bC ∨ x ∈ mC → h' x = h1 x := fun x hx => by
        rw [hh x hx]
        rcases hx with hx | hx
        · subst hx; exact old3 _ hC3
        · exact old3 x (hC5 x hx).2
      exact ⟨by rw [hold bC (.inl rfl)]; exact hC7, hC6.mono fun x hx => hold x (.inr hx)⟩
    simp [go_sem, x03]
    refine outE_call (by omega) pure_bc (partialValues_a n cs k ss bits ok oks) (by
      have v := vC H3 fun _ _ => rfl
      simp only [List.map_cons, List.map_nil, view_int]
      rw [view_cnf v.1 v.2, view_nestS hS7 hS6]) _ (fun hgs => by simp [hM] at hgs) (fun gs' hgs => ?_)
    simp only [hM, Option.map_some, Option.some.injEq] at hgs
    subst hgs
    rw [bcells_length]
    simp [go_sem]
    generalize hG3 : upd H3 n3 (some ⟨1, bcells gs⟩) = G3
    have g3 : G3 n3 = some ⟨1, bcells gs⟩ := by rw [← hG3]; exact upd_same'
    have o3 : ∀ x, x < n3 → G3 x = H3 x := fun x hx => by rw [← hG3]; exact upd_ne (by omega)
    have xg3 : G3 n1 = some ⟨2, [[AV.int n, .sl bC cs.length 0 cs.length]]⟩ := by rw [o3 n1 (by omega)]; exact x03
    have fg3 : G3 0 = some ⟨2, [[AV.int n, intss cs]]⟩ := by rw [o3 0 (by omega)]; exact f03
    have vg : G3 bC = some ⟨1, rowsI mC cs⟩ ∧ Inner G3 cs mC := vC G3 fun x hx => by
      rcases hx with hx | hx
      · exact o3 x (by omega)
      · have := hC5 x hx; exact o3 x (by omega)
    have sg : G3 bS = some ⟨4, rowsS mS ss⟩ ∧ Inner G3 (ss.map (·.cl)) mS := ⟨by rw [o3 bS hS3]; exact hS7, hS6.mono fun x hx => o3 x (hS5 x hx).2⟩
    have eqG : ∀ (h' : Heap) (nx' : Nat), h' n3 = some ⟨1, bcells gs⟩ → CallsQ Tryz.prog 25 [.sl n3 gs.length 0 gs.length, bools gs] h' nx' (.bool true) := fun h' nx' hg => CallsQ.of_view 0 rfl (by
      simp only [List.map_cons, List.map_nil]
      rw [view_bools 0 hg rfl, show view (0 + 1) h' (bools gs) = bools gs from vw_pure _ _ _ (pure_bools gs)]
      exact (eqBoolS_q gs (by omega) _ _).call rfl)
    refine (eqG _ _ g3).call ?_
    simp [go_sem, xg3, fg3]
    refine ⟨_, toCnf_q n cs ok.len hlc _ _, _, CallsQ.of_view 1 rfl (r := .bool true) (by
      simp only [List.map_cons, List.map_nil]
      rw [view_cnf vg.1 vg.2, show view (1 + 1) G3 (cnfA n cs) = cnfA n cs from vw_pure _ _ _ (by simp [go_sem, cnfA])]
      exact (eqCnf_q n cs (by omega) (fun c hc => by have := b1.2.2 c hc; omega) _ _).call rfl), ?_⟩
    simp [go_sem]
    refine (toResStepS_q ss oks.len hls _ _).call ?_
    simp [go_sem]
    refine (CallsQ.of_view 1 rfl (r := .bool true) (by
      simp only [List.map_cons, List.map_nil]
      rw [view_nestS sg.1 sg.2, show view (1 + 1) G3 (stepsA ss) = stepsA ss from vw_pure _ _ _ (by simp [go_sem])]
      exact (eqResStepS_q ss (by omega) (fun s hs => by have := b2.2.2 s hs; omega) _ _).call rfl)).call ?_
    simp [go_sem, xg3, fg3]
    refine markCnf_a n cs mC bC 1 _ _ _ vg.1 vg.2 hC4 (by omega) (fun m hm => by have := hC5 m hm; omega) 1048576 (by omega) hsum1 (by omega) fun H4 n4 k4 a1 a2 a3 => ?_
    have f04 : H4 0 = some ⟨2, [[AV.int n, intss cs]]⟩ := by rw [a3 0 (fun hm => by have := hC5 0 hm; omega) (by omega)]; exact fg3
    have g04 : H4 n3 = some ⟨1, bcells gs⟩ := by rw [a3 n3 (fun hm => by have := hC5 n3 hm; omega) (by omega)]; exact g3
    have eS : ∀ x, x = bS ∨ x ∈ mS → H4 x = G3 x := fun x hx => by
      have hb : n1 + 1 ≤ x ∧ x < n3 := by
        rcases hx with hx | hx
        · omega
        · exact hS5 x hx
      exact a3 x (fun hm => by have := hC5 x hm; omega) (by omega)
    simp [go_sem]
    refine markResStepS_a ss mS bS k4 _ _ _ ((eS bS (.inl rfl)).trans sg.1) (sg.2.mono fun x hx => eS x (.inr hx)) hS4 1048576 (by omega) hsum2 (by omega) fun H5 k5 c1 c2 => ?_
    have f05 : H5 0 = some ⟨2, [[AV.int n, intss cs]]⟩ := by
      have hne : (0 : Nat) ≠ bS := by omega
      rw [c2 0 hne (fun hm => by have := hS5 0 hm; omega)]; exact f04
    have g05 : H5 n3 = some ⟨1, bcells gs⟩ := by
      have hne : n3 ≠ bS := by omega
      rw [c2 n3 hne (fun hm => by have := hS5 n3 hm; omega)]; exact g04
    have c1' : ¬ k5 < 0 := by omega
    simp [go_sem, c1']
    refine (eqG _ _ g05).call ?_
    simp [go_sem]
    refine markBoolS_a gs n3 1 (by omega) _ _ _ g05 ?_
    simp [go_sem]
    generalize hH6 : upd H5 n3 (some ⟨1, bcells (markB 1 gs.length)⟩) = H6
    have g06 : H6 n3 = some ⟨1, bcells (markB 1 gs.length)⟩ := by rw [← hH6]; exact upd_same'
    have f06 : H6 0 = some ⟨2, [[AV.int n, intss cs]]⟩ := by rw [← hH6, upd_ne (by omega)]; exact f05
    have mlen : (markB 1 gs.length).length = gs.length := by simp [markB]
    have held : ∀ (h' : Heap) (nx' : Nat), h' n3 = some ⟨1, bcells (markB 1 gs.length)⟩ → CallsQ Tryz.prog 27 [.sl n3 gs.length 0 gs.length, .int 1] h' nx' (.int (1 + gs.length)) := fun h' nx' hg => CallsQ.of_view 0 rfl (by
      simp only [List.map_cons, List.map_nil, view_int]
      have hv := view_bools (k := 1) 0 (h := h') (n := n3) (L := gs.length) (xs := markB 1 gs.length) hg mlen.symm
      rw [hv]
      exact (heldBoolS_q 1 gs.length (by omega) (by omega) _ _).call rfl)
    refine (held _ _ g06).call ?_
    have q1 : ¬ (1 + (gs.length : Int)) < 0 := by omega
    simp [go_sem, f06, q1]
    refine (toCnf_q n cs ok.len hlc _ _).call ?_
    simp [go_sem]
    refine (toResStepS_q ss oks.len hls _ _).call ?_
    simp [go_sem]
    refine outE_call (by omega) pure_bc (partialValues_a n cs k ss bits ok oks) (view_args (by simp [go_sem, cnfA]) 1 _) _ (fun hgs => by simp [hM] at hgs) (fun gs' hgs => ?_)
    simp only [hM, Option.map_some, Option.some.injEq] at hgs
    subst hgs
    rw [bcells_length]
    simp [go_sem]
    refine (CallsQ.of_view 0 rfl (r := .bool true) (by
      simp only [List.map_cons, List.map_nil]
      rw [view_bools 0 (xs := gs) (k := 1) (h := upd H6 n4 (some ⟨1, bcells gs⟩)) upd_same' rfl, show view (0 + 1) _ (bools gs) = bools gs from vw_pure _ _ _ (pure_bools gs)]
      exact (eqBoolS_q gs (by omega) _ _).call rfl)).call ?_
    simp [go_sem]
    refine (held _ _ (by rw [upd_ne (by omega)]; exact g06)).call ?_
    simp [go_sem, q1]
end Go.Proofs.YtogdmmccbeipkaaGreat.A
