/- The rows of the laws on a Cnf, a number, steps and a number. -/
import Derived.Test.YtogdmmccbeipkaaGreatR1
import Derived.Carry
set_option linter.all false
namespace Go.Proofs.YtogdmmccbeipkaaGreat.A
open Go Go.Abs Go.ChangeShapes Go.WideShapes Go.RowKit
set_option maxRecDepth 100000

/-- A law on a Cnf, a number, steps and a number: its row out of its walk. -/
theorem law4_lifted {f : FuncId} {fn : Func} {s : ChangeSpec} (hfn : Tryz.checked.prog.funcs[f]? = some fn) (hpar : fn.params = #[24, 3, 25, 3]) (hres : fn.resultTypes = #[4]) (noInit : Tryz.checked.prog.inits.idxOf? f = none) (hvars : s.vars = [])
    (hs1 : ∀ (H : Type) (d0 d1 d2 d3 : DataW H), (s.fn H ([d0, d1, d2, d3] ++ [])).results = [.lit (.bool true)]) (hs2 : ∀ (H : Type) (d0 d1 d2 d3 : DataW H), (s.fn H ([d0, d1, d2, d3] ++ [])).args = [d0, d1, d2, d3]) (hs3 : ∀ (H : Type) (d0 d1 d2 d3 : DataW H), (s.fn H ([d0, d1, d2, d3] ++ [])).vars = [])
    (law : ∀ n cs k ss j, InR n → InC cs → InS ss → CallsA Tryz.prog f [cnfA n cs, .int k, stepsA ss, .int j] (Hp []) 0 fun r _ _ => r = .bool true)
    {conds : List PathCond} {apart fresh handsOn again : Bool} {os : Os} {H : Type} {enc : TypeId × Value → H} (started : os.Started)
    (witness : ∃ (w : World) (tape : Tape) (i : Input), w.os = os ∧ (w.forCall tape i).Shaped Tryz.checked.prog ∧ i.vars = [] ∧ Input.okWide Tryz.checked.prog (w.forCall tape i) .any w.heap.size f i ∧
      s.pre6 enc Tryz.checked.prog fn conds apart (w.forCall tape i).memory i.args ∧ Assume.holds {} Tryz.checked.prog (lone (Frame.enter Tryz.checked.prog f i.args .normal) [] (w.forCall tape i))) :
    ReturnsInHanded {} Tryz.checked os f .any (s.pre6 enc Tryz.checked.prog fn conds apart) (s.post enc Tryz.checked.prog fn apart fresh handsOn again) := by
  refine returnsInHanded_of_change (C := Tryz.checked) own started noInit hfn witness ?_
  intro W base args ds gs before hval0 hW _ _
  have hval : ∀ (j : Nat) t v, fn.params[j]? = some t → args[j]? = some v → Value.okWide Tryz.prog W .any base t v := hval0
  have hW' := hW
  obtain ⟨p, q, hA0, hV, rfl, _, _⟩ := hW
  have hA : DataW.TrodAll enc Tryz.prog W 0 (fun _ => true) true fn.params.toList args.toList ds p := hA0
  rw [hpar] at hA hval
  obtain ⟨v0, v1, v2, v3, d0, d1, d2, d3, p0, p1, p2, p3, hargs, hds, hp, h0, h1, h2, h3⟩ := trodAll_four hA
  rw [hvars] at hV
  obtain ⟨rfl, rfl⟩ := trodVars_none hV
  subst hargs hds hp
  obtain ⟨n, cs, ss, a1, a2, a3, a4, a5⟩ := V_args (hval 0 24 v0 rfl rfl) (hval 2 25 v2 rfl rfl) h0 h2
  obtain ⟨k, rfl⟩ := okWide_int Tryz.underlying3 (hval 1 3 v1 rfl rfl)
  obtain ⟨j, rfl⟩ := okWide_int Tryz.underlying3 (hval 3 3 v3 rfl rfl)
  refine Calls.mono ((law n cs k ss j a1 a2 a3).2 (rest0 W) [v0, .int .i64 k, v2, .int .i64 j] (rest0_rel W) ⟨_, _, rfl, a4, _, _, rfl, rfl, _, _, rfl, a5, _, _, rfl, rfl, rfl⟩) fun e W' ⟨r, h', nx', C', v, he, hr, hv, _, hst, hw⟩ => ?_
  subst hr hw
  simp only [V] at hv
  subst hv
  refine ⟨_, he, ?_⟩
  exact law_post (tb := 4) laidOut (by rw [hpar]; decide +kernel) hres Tryz.underlying4 hvars (hs1 H d0 d1 d2 d3) (hs2 H d0 d1 d2 d3) (hs3 H d0 d1 d2 d3) hW' (rest_below hst)
end Go.Proofs.YtogdmmccbeipkaaGreat.A
