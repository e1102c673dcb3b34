/- The rows of the laws on a Cnf, a number and steps. -/
import Derived.Test.YtogdmmccbeipkaaGreatL3
import Derived.Test.YtogdmmccbeipkaaGreatAbsRead
import Derived.Test.YtogdmmccbeipkaaGreatRows
import Derived.JoinedOf
import Derived.Handed
set_option linter.all false
namespace Go.Proofs.YtogdmmccbeipkaaGreat.A
open Go Go.Abs Go.ChangeShapes Go.WideShapes
set_option maxRecDepth 100000

/-- What can be read of the arguments. -/
structure InC (cs : List (List Int)) : Prop where
  len : cs.length ≤ 9223372036854775807
  cl : ∀ c ∈ cs, InRs c ∧ c.length ≤ 9223372036854775807
structure InS (ss : List Step') : Prop where
  len : ss.length ≤ 9223372036854775807
  cl : ∀ s ∈ ss, (InRs s.cl ∧ s.cl.length ≤ 9223372036854775807) ∧ InR s.l ∧ InR s.r ∧ InR s.p
def toStep (s : Row4) : Step' := ⟨s.cl, s.l, s.r, s.p⟩

theorem own : ownKnob Tryz.checked.prog.godebug = none := by kernel_rfl
theorem laidOut : laidOutB Tryz.prog = true := by kernel_rfl
theorem c3 : Tryz.prog.cellsOf 3 = 1 := by kernel_rfl
theorem c50 : Tryz.prog.cellsOf 50 = 1 := by kernel_rfl
theorem c22 : Tryz.prog.cellsOf 22 = 1 := by kernel_rfl
theorem c24 : Tryz.prog.cellsOf 24 = 2 := by kernel_rfl
theorem c52 : Tryz.prog.cellsOf 52 = 4 := by kernel_rfl
theorem V_args {W : World} {H : Type} {enc : TypeId × Value → H} {v0 v2 : Value} {d0 d2 : DataW H} {p0 p2 : List MemPlace} {b0 b2 : Nat}
    (k0 : Value.okWide Tryz.prog W .any b0 24 v0) (k2 : Value.okWide Tryz.prog W .any b2 25 v2) (h0 : DataW.Trod enc Tryz.prog W 0 (fun _ => true) true 24 v0 d0 p0) (h2 : DataW.Trod enc Tryz.prog W 0 (fun _ => true) true 25 v2 d2 p2) :
    ∃ n cs ss, InR n ∧ InC cs ∧ InS ss ∧ V (rest0 W) (Hp []) 0 (cnfA n cs) v0 ∧ V (rest0 W) (Hp []) 0 (stepsA ss) v2 := by
  obtain ⟨f0, t0⟩ := h0
  obtain ⟨f2, t2⟩ := h2
  obtain ⟨n, cs, a1, a2, a3, a4⟩ := rd_cnf Tryz.underlying3 c3 Tryz.underlying50 c50 Tryz.underlying22 c22 Tryz.underlying24 c24 rfl k0 t0
  obtain ⟨a, len, cap, rfl⟩ := okWide_slice Tryz.underlying25 k2
  obtain ⟨ss, b1, b2, b3⟩ := rd_rows (v := .slice a len cap) Tryz.underlying3 c3 Tryz.underlying50 c50 Tryz.underlying52 c52 rfl Tryz.underlying25 (by simpa [Value.cells] using t2)
  refine ⟨n, cs, ss.map toStep, a2, ⟨a4, a3⟩, ⟨by simpa using b3, fun s hs => ?_⟩, a1, ?_⟩
  · obtain ⟨s', hs', rfl⟩ := List.mem_map.1 hs
    exact b2 s' hs'
  · have e : stepsA (ss.map toStep) = .lst (ss.map Row4.cells) := by
      simp only [stepsA, List.map_map]; rfl
    rw [e]; exact b1

/-- A law on a Cnf, a number and steps: its row out of its walk. -/
theorem law3_lifted {f : FuncId} {fn : Func} {s : ChangeSpec} (hfn : Tryz.checked.prog.funcs[f]? = some fn) (hpar : fn.params = #[24, 3, 25]) (hres : fn.resultTypes = #[4]) (noInit : Tryz.checked.prog.inits.idxOf? f = none) (hvars : s.vars = [])
    (hs1 : ∀ (H : Type) (d0 d1 d2 : DataW H), (s.fn H ([d0, d1, d2] ++ [])).results = [.lit (.bool true)]) (hs2 : ∀ (H : Type) (d0 d1 d2 : DataW H), (s.fn H ([d0, d1, d2] ++ [])).args = [d0, d1, d2]) (hs3 : ∀ (H : Type) (d0 d1 d2 : DataW H), (s.fn H ([d0, d1, d2] ++ [])).vars = [])
    (law : ∀ n cs k ss, InR n → InC cs → InS ss → CallsA Tryz.prog f [cnfA n cs, .int k, stepsA ss] (Hp []) 0 fun r _ _ => r = .bool true)
    {conds : List PathCond} {apart fresh handsOn again : Bool} {os : Os} {H : Type} {enc : TypeId × Value → H} (started : os.Started)
    (witness : ∃ (w : World) (tape : Tape) (i : Input), w.os = os ∧ (w.forCall tape i).Shaped Tryz.checked.prog ∧ i.vars = [] ∧ Input.okWide Tryz.checked.prog (w.forCall tape i) .any w.heap.size f i ∧
      s.pre6 enc Tryz.checked.prog fn conds apart (w.forCall tape i).memory i.args ∧ Assume.holds {} Tryz.checked.prog (lone (Frame.enter Tryz.checked.prog f i.args .normal) [] (w.forCall tape i))) :
    ReturnsInHanded {} Tryz.checked os f .any (s.pre6 enc Tryz.checked.prog fn conds apart) (s.post enc Tryz.checked.prog fn apart fresh handsOn again) := by
  refine returnsInHanded_of_change (C := Tryz.checked) own started noInit hfn witness ?_
  intro W base args ds gs before hval0 hW _ _
  have hval : ∀ (j : Nat) t v, fn.params[j]? = some t → args[j]? = some v → Value.okWide Tryz.prog W .any base t v := hval0
  have hW' := hW
  obtain ⟨p, q, hA0, hV, rfl, _, _⟩ := hW
  have hA : DataW.TrodAll enc Tryz.prog W 0 (fun _ => true) true fn.params.toList args.toList ds p := hA0
  rw [hpar] at hA hval
  obtain ⟨v0, v1, v2, d0, d1, d2, p0, p1, p2, hargs, hds, hp, h0, h1, h2⟩ := trodAll_three hA
  rw [hvars] at hV
  obtain ⟨rfl, rfl⟩ := trodVars_none hV
  subst hargs hds hp
  obtain ⟨n, cs, ss, a1, a2, a3, a4, a5⟩ := V_args (hval 0 24 v0 rfl rfl) (hval 2 25 v2 rfl rfl) h0 h2
  obtain ⟨k, rfl⟩ := okWide_int Tryz.underlying3 (hval 1 3 v1 rfl rfl)
  refine Calls.mono ((law n cs k ss a1 a2 a3).2 (rest0 W) [v0, .int .i64 k, v2] (rest0_rel W) ⟨_, _, rfl, a4, _, _, rfl, rfl, _, _, rfl, a5, rfl⟩) fun e W' ⟨r, h', nx', C', v, he, hr, hv, _, hst, hw⟩ => ?_
  subst hr hw
  simp only [V] at hv
  subst hv
  refine ⟨_, he, ?_⟩
  exact law_post (tb := 4) laidOut (by rw [hpar]; decide +kernel) hres Tryz.underlying4 hvars (hs1 H d0 d1 d2) (hs2 H d0 d1 d2) (hs3 H d0 d1 d2) hW' (rest_below hst)
end Go.Proofs.YtogdmmccbeipkaaGreat.A
