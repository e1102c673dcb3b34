/- Regions whose order is drawn: one evaluation in the order of the text serves every order. -/
import Derived.Test.YtogdmmccbeipkaaGreatAbsOp
import Derived.StillTail
set_option linter.all false
namespace Go.Abs
open Go

section
variable {P : Program} {ops : Array Oper} {md : Region.Mode}

/-- An operation that leaves the names alone, whatever it is carried out beside. -/
def QuietC (P : Program) (o : Oper) (A : AS) (av : AV) : Prop :=
  ∀ (C : Ctx) (a : Act), HeapRel C A.heap A.nx → (∀ x ∈ o.op.operands.toList, V C A.heap A.nx (A.ev x) (a.eval x)) → ∀ (next : Act → World → Prop) (Q : Exit → Act → World → Prop),
    (∀ C' v, V C' A.heap A.nx av v → HeapRel C' A.heap A.nx → Step C A.heap A.nx C' A.heap A.nx → next (a.put o.dst v) C'.w) → o.wp P a C.w next Q

theorem aopQ_sound {o : Oper} {A : AS} {K : AS → Prop} (hok : opOk P o.op = true) (h : aopQ P (tiOf P) o.dst o.op K A) : ∃ av, K (A.put o.dst av) ∧ QuietC P o A av := by
  unfold aopQ at h
  split at h
  · rename_i t len ps ho
    obtain ⟨av, hk, hx⟩ := slit_wp ho hok h
    refine ⟨av, hk, fun C a H hv next Q hnext => ?_⟩
    obtain ⟨C', v, hr, hV, H', hst⟩ := hx C a _ _ H hv
    exact upon_of_value hr (hnext C' v hV H' hst)
  · rename_i f args ts ho
    unfold acallQ at h
    split at h
    · rename_i g a1 c1 hf
      obtain ⟨r, ⟨⟨fn, hfn, hbody, hname⟩, h⟩, hk⟩ := h
      refine ⟨r, hk, fun C a H hv next Q hnext => ?_⟩
      have hfv := hv f (by simp [ho, Op.operands, Call.operands])
      rw [hf] at hfv
      obtain ⟨vs, us, hfe, hvs, hus⟩ := hfv
      have hargs := Vs_append _ _ _ _ hvs (Vs_append _ _ _ _ (Vs_map (C := C) (hp := A.heap) (nx := A.nx) (A := A) (a := a) args.toList fun x hx => hv x (by
        simp only [ho, Op.operands, Call.operands, Array.toList_append, List.mem_append]; right; exact hx)) hus)
      have hc := h C _ H hargs
      unfold Oper.wp
      have hrun : (execOp a.eval o).run P C.w = .ok (.enter g ⟨vs ++ (args.toList.map a.eval ++ us)⟩) C.w := by
        have hnone : ¬ fn.body = none := by intro hb; rw [hb] at hbody; cases hbody
        have hname' : ¬ fn.name = "runtime.NumGoroutine" := by simpa using hname
        simp [execOp, ho, resolve, hfe, Deferred.ofValue, invoke, callFunc, hfn, hname', hnone, Result.andThen]
        try (apply Array.ext'; simp)
      rw [hrun, Oper.upon_enter]
      refine hc.mono fun e w' ⟨rv, h', nx', C', v, he, ⟨e1, e2, e3⟩, hV, H', hst, hw⟩ => ?_
      subst he hw e1 e2 e3
      exact hnext C' v hV H' hst
    · exact h.elim
  · obtain ⟨av, hk, hq⟩ := aev_quiet hok h
    refine ⟨av, hk, fun C a H hv next Q hnext => ?_⟩
    obtain ⟨v, hr, hV⟩ := hq C a H hv
    exact upon_of_value hr (hnext C v hV H Step.refl)

def wantB (ops : Array Oper) (o : Oper) (A : AS) : Option Bool :=
  match awant (ops.toList.map (·.dst)) o.guard A with
  | .yes => some true
  | .no => some false
  | .ask _ b want => some (b == want)
  | .bad => none

/-- Operation number i comes up. -/
def aqOp (P : Program) (ops : Array Oper) (i : Nat) (K : AS → Prop) (A : AS) : Prop :=
  match ops[i]? with
  | none => K A
  | some o => match wantB ops o A with
    | some true => ∃ av, QuietC P o A av ∧ K (A.put o.dst av)
    | some false => K (A.put o.dst (.tup []))
    | none => False

theorem aqOp_mono {i : Nat} {A : AS} {K K' : AS → Prop} (h : ∀ A, K A → K' A) (hh : aqOp P ops i K A) : aqOp P ops i K' A := by
  unfold aqOp at *
  split
  · rename_i hi; rw [hi] at hh; exact h _ hh
  · rename_i o hi
    rw [hi] at hh
    simp only at hh
    split <;> rename_i hw <;> rw [hw] at hh <;> simp only at hh
    · obtain ⟨av, h1, h2⟩ := hh; exact ⟨av, h1, h _ h2⟩
    · exact h _ hh

theorem put_same {A : AS} {t : Tmp} {v : AV} (h : A.env t = v) : A.put (some t) v = A := by
  subst h
  obtain ⟨e, hp, nx, N⟩ := A
  simp only [AS.put, AS.mk.injEq, and_true]
  funext s
  simp only [upd]
  split
  · rename_i hs; rw [hs]
  · rfl

theorem put_comm {A : AS} {d1 d2 : Option Tmp} (v u : AV) (h : ∀ d, d1 = some d → d2 ≠ some d) : (A.put d1 v).put d2 u = (A.put d2 u).put d1 v := by
  cases d1 with
  | none => rfl
  | some d1 => cases d2 with
    | none => rfl
    | some d2 =>
      have hne : d2 ≠ d1 := fun e => h d1 rfl (by rw [e])
      simp only [AS.put, AS.mk.injEq, and_true]
      funext s
      simp only [upd]
      by_cases h1 : s = d1 <;> by_cases h2 : s = d2 <;> simp [h1, h2, hne, Ne.symm hne]

theorem put_ev {A : AS} {d : Option Tmp} {v : AV} {x : Operand} (h : ∀ t, d = some t → x ≠ .tmp t) : (A.put d v).ev x = A.ev x := by
  cases d with
  | none => rfl
  | some t =>
    cases x with
    | tmp s =>
      have : s ≠ t := fun e => h t rfl (by rw [e])
      simp [AS.ev, AS.put, upd, this]
    | _ => rfl

theorem put_heap (A : AS) (d : Option Tmp) (v : AV) : (A.put d v).heap = A.heap ∧ (A.put d v).nx = A.nx ∧ (A.put d v).N = A.N := by cases d <;> exact ⟨rfl, rfl, rfl⟩

theorem QuietC.put {o : Oper} {A : AS} {av : AV} (hq : QuietC P o A av) {d : Option Tmp} {v : AV} (h : ∀ t, d = some t → t ∉ o.looksAt ops) : QuietC P o (A.put d v) av := by
  obtain ⟨e1, e2, _⟩ := put_heap A d v
  unfold QuietC
  rw [e1, e2]
  intro C a H hv next Q hnext
  refine hq C a H (fun x hx => ?_) next Q hnext
  have := hv x hx
  rwa [put_ev fun t ht hxt => h t ht (by
    subst hxt
    exact List.mem_append_left _ (List.mem_filterMap.2 ⟨.tmp t, hx, rfl⟩))] at this

theorem QuietC.of_put {o : Oper} {A : AS} {av : AV} {d : Option Tmp} {v : AV} (hq : QuietC P o (A.put d v) av) (h : ∀ t, d = some t → t ∉ o.looksAt ops) : QuietC P o A av := by
  obtain ⟨e1, e2, _⟩ := put_heap A d v
  unfold QuietC at *
  rw [e1, e2] at hq
  intro C a H hv next Q hnext
  refine hq C a H (fun x hx => ?_) next Q hnext
  have := hv x hx
  rwa [put_ev fun t ht hxt => h t ht (by
    subst hxt
    exact List.mem_append_left _ (List.mem_filterMap.2 ⟨.tmp t, hx, rfl⟩))]

theorem wantB_put {o : Oper} {A : AS} {d : Option Tmp} {v : AV} (h : ∀ t, d = some t → t ∉ o.looksAt ops) : wantB ops o (A.put d v) = wantB ops o A := by
  have key : awant (ops.toList.map (·.dst)) o.guard (A.put d v) = awant (ops.toList.map (·.dst)) o.guard A := by
    unfold awant awantD
    cases hg : o.guard with
    | none => rfl
    | some g =>
      obtain ⟨j, want⟩ := g
      simp only [List.getElem?_map, Array.getElem?_toList]
      cases hj : ops[j]? with
      | none => rfl
      | some oj =>
        simp only [Option.map_some]
        cases hdst : oj.dst with
        | none => rfl
        | some t =>
          have : (A.put d v).env t = A.env t := by
            have := put_ev (A := A) (d := d) (v := v) (x := .tmp t) fun s hs e => h s hs (by
              cases e
              refine List.mem_append_right _ ?_
              simp [hg, hj, hdst])
            exact this
          simp only [this]
  unfold wantB
  rw [key]

/-- Operation o leaves av in its slot. -/
def YieldsA (P : Program) (ops : Array Oper) (o : Oper) (av : AV) (A : AS) : Prop :=
  (wantB ops o A = some true ∧ QuietC P o A av) ∨ (wantB ops o A = some false ∧ av = .tup [])

theorem YieldsA.aqOp {i : Nat} {o : Oper} {av : AV} {A : AS} (hi : ops[i]? = some o) (hy : YieldsA P ops o av A) {K : AS → Prop} (h : K (A.put o.dst av)) : aqOp P ops i K A := by
  unfold Abs.aqOp
  simp only [hi]
  rcases hy with ⟨hw, hq⟩ | ⟨hw, rfl⟩
  · simp only [hw]; exact ⟨av, hq, h⟩
  · simp only [hw]; exact h

theorem yieldsA_of {i : Nat} {o : Oper} {A : AS} {K : AS → Prop} (hi : ops[i]? = some o) (h : aqOp P ops i K A) : ∃ av, YieldsA P ops o av A ∧ K (A.put o.dst av) := by
  unfold aqOp at h
  simp only [hi] at h
  split at h
  · rename_i hw; obtain ⟨av, h1, h2⟩ := h; exact ⟨av, .inl ⟨hw, h1⟩, h2⟩
  · rename_i hw; exact ⟨_, .inr ⟨hw, rfl⟩, h⟩
  · exact h.elim

theorem aqOp_put {j : Nat} {oi oj : Oper} {v : AV} (hj : ops[j]? = some oj) (hap : oi.apart ops oj = true) {K : AS → Prop} {A : AS}
    (hy : YieldsA P ops oi v A) (h : aqOp P ops j K (A.put oi.dst v)) : aqOp P ops j (fun A' => YieldsA P ops oi v A' ∧ K (A'.put oi.dst v)) A := by
  obtain ⟨h1, h2, h3⟩ := Oper.apart_spec hap
  have keep : ∀ u, YieldsA P ops oi v (A.put oj.dst u) := fun u => by
    rcases hy with ⟨hw, hq⟩ | ⟨hw, e⟩
    · exact .inl ⟨by rw [wantB_put h3]; exact hw, hq.put h3⟩
    · exact .inr ⟨by rw [wantB_put h3]; exact hw, e⟩
  unfold aqOp at *
  simp only [hj] at *
  rw [wantB_put h1] at h
  split <;> rename_i hw <;> rw [hw] at h <;> simp only at h
  · obtain ⟨u, hq, hk⟩ := h
    exact ⟨u, hq.of_put h1, keep u, by rw [← put_comm v u h2]; exact hk⟩
  · exact ⟨keep _, by rw [← put_comm v _ h2]; exact h⟩

/-- Whatever order is picked for the operations before n; then L. -/
def anyA (P : Program) (md : Region.Mode) (ops : Array Oper) (n : Nat) (L : Array Bool → AS → Prop) : Nat → Array Bool → AS → Prop
  | 0, listed, A => L listed A
  | f + 1, listed, A => Region.ready md ops listed ≠ [] ∧ ∀ i ∈ Region.ready md ops listed, i < n ∧ aqOp P ops i (anyA P md ops n L f (listed.setIfInBounds i true)) A

theorem anyA_first {n i : Nat} {oi : Oper} {v : AV} {L : Array Bool → AS → Prop} (hi : ops[i]? = some oi) (T : Array Bool → Prop)
    (hT : ∀ listed, T listed → ∀ j ∈ Region.ready md ops listed, j < n → T (listed.setIfInBounds j true))
    (hn : ∀ listed, T listed → i < n → listed.getD i true = false → ∀ t, n ≤ t → t ∉ Region.ready md ops listed) (hin : i < n)
    (hdone : ∀ listed A, L listed A → ∀ j ∈ Region.ready md ops listed, n ≤ j) :
    ∀ (f : Nat) (listed : Array Bool) (A : AS), T listed →
      (∀ j oj, ops[j]? = some oj → j ≠ i → listed.getD j true = false → (∀ e ∈ oj.after, Region.binds md e = true → e.on ≠ i) → oi.apart ops oj = true) →
      i ∈ Region.ready md ops listed → YieldsA P ops oi v A →
      anyA P md ops n L f (listed.setIfInBounds i true) (A.put oi.dst v) → anyA P md ops n L (f + 1) listed A := by
  intro f
  induction f with
  | zero =>
    intro listed A inv _ hr hy H
    have hun := (mem_ready.1 hr).1
    refine ⟨fun h => (by rw [h] at hr; cases hr), fun j hj => ?_⟩
    have hjn : j < n := by
      rcases Nat.lt_or_ge j n with h | h
      · exact h
      · exact absurd hj (hn listed inv hin hun j h)
    refine ⟨hjn, ?_⟩
    by_cases hji : j = i
    · subst hji; exact hy.aqOp hi H
    · have := hdone _ _ H j (ready_mono hj hji)
      omega
  | succ f ih =>
    intro listed A inv hfree hr hy H
    have hun := (mem_ready.1 hr).1
    refine ⟨fun h => (by rw [h] at hr; cases hr), fun j hj => ?_⟩
    have hjn : j < n := by
      rcases Nat.lt_or_ge j n with h | h
      · exact h
      · exact absurd hj (hn listed inv hin hun j h)
    refine ⟨hjn, ?_⟩
    by_cases hji : j = i
    · subst hji; exact hy.aqOp hi H
    · have h1 := (H.2 j (ready_mono hj hji)).2
      obtain ⟨hjun, oj, hoj, hall⟩ := mem_ready.1 hj
      have hnot : ∀ e ∈ oj.after, Region.binds md e = true → e.on ≠ i := fun e he hb heq => by
        have h1 := hall e he hb
        rw [heq, getD_both hun] at h1
        cases h1
      have h2 := aqOp_put hoj (hfree j oj hoj hji hjun hnot) hy h1
      have hfree' : ∀ k ok, ops[k]? = some ok → k ≠ i → (listed.setIfInBounds j true).getD k true = false →
          (∀ e ∈ ok.after, Region.binds md e = true → e.on ≠ i) → oi.apart ops ok = true := fun k ok hk hki hun hno => by
        refine hfree k ok hk hki ?_ hno
        by_cases hjk : j = k
        · subst hjk; exact hjun
        · rw [getD_set_ne true hjk] at hun; exact hun
      refine aqOp_mono (fun A' h3 => ih (listed.setIfInBounds j true) A' (hT listed inv j hj hjn) hfree' (ready_mono hr (Ne.symm hji)) h3.1 ?_) h2
      rw [Array.setIfInBounds_comm _ _ hji]
      exact h3.2

/-- The state of a list of quiet operations, in the order of the text. -/
theorem aopsQ_next {o : Oper} {l : List Oper} {A : AS} {K : AS → Prop} {k : Nat} (hk : ops[k]? = some o) (hok : opOk P o.op = true) (h : aopsQ P (tiOf P) (ops.toList.map (·.dst)) K (o :: l) A) :
    aqOp P ops k (aopsQ P (tiOf P) (ops.toList.map (·.dst)) K l) A := by
  unfold aqOp
  simp only [hk]
  simp only [aopsQ] at h
  unfold wantB
  cases hw : awant (ops.toList.map (·.dst)) o.guard A with
  | yes =>
    rw [hw] at h
    obtain ⟨av, h1, h2⟩ := aopQ_sound hok h
    exact ⟨av, h2, h1⟩
  | no => rw [hw] at h; exact h
  | bad => rw [hw] at h; exact h.elim
  | ask t b want =>
    rw [hw] at h
    have ht : A.env t = .bool b := by
      unfold awant awantD at hw
      split at hw
      · cases hw
      · split at hw
        · rename_i t' _
          cases he : A.env t' <;> rw [he] at hw <;> simp only [awantV] at hw <;> cases hw
          exact he
        · cases hw
    simp only [awhen] at h
    have hp := put_same ht
    cases b <;> cases want <;> simp only [aask, askip] at h <;> rw [hp] at h
    · obtain ⟨av, h1, h2⟩ := aopQ_sound hok h; exact ⟨av, h2, h1⟩
    · exact h
    · exact h
    · obtain ⟨av, h1, h2⟩ := aopQ_sound hok h; exact ⟨av, h2, h1⟩

/-- The concrete side of a guard. -/
theorem wanted_of (ops : Array Oper) (o : Oper) {C : Ctx} {A : AS} {a : Act} (r : Rel C A a) :
    match awant (ops.toList.map (·.dst)) o.guard A with
    | .yes => Region.wanted o (yielded ops a.tmps) = true
    | .no => Region.wanted o (yielded ops a.tmps) = false
    | .ask t b want => A.env t = .bool b ∧ Region.wanted o (yielded ops a.tmps) = (b == want)
    | .bad => True := by
  unfold awant awantD Region.wanted
  cases hg : o.guard with
  | none => rfl
  | some g =>
    obtain ⟨j, want⟩ := g
    simp only [List.getElem?_map, Array.getElem?_toList]
    cases hj : ops[j]? with
    | none => simp
    | some oj =>
      simp only [Option.map_some]
      cases hdst : oj.dst with
      | none => simp
      | some t =>
        simp only
        have hv := r.env t
        cases he : A.env t <;> simp only [awantV]
        case bool b =>
          rw [he] at hv
          have hv : a.tmps.getD t undef = .bool b := hv
          refine ⟨he, ?_⟩
          have hget : a.tmps[t]? = some (.bool b) := by
            cases hq : a.tmps[t]? with
            | none => simp [Array.getD_eq_getD_getElem?, hq, undef] at hv
            | some v => simpa [Array.getD_eq_getD_getElem?, hq] using hv
          simp [yielded, hj, hdst, hget]
        case tup vs =>
          rw [he] at hv
          obtain ⟨us, hv, _⟩ := hv
          have hget : yielded ops a.tmps j = none := by
            unfold yielded
            rw [hj]
            simp only [Option.bind_some, hdst]
            cases hq : a.tmps[t]? with
            | none => rfl
            | some v =>
              have : v = .tuple ⟨us⟩ := by simpa [Array.getD_eq_getD_getElem?, hq] using hv
              rw [this]
          rw [hget]
          rfl

/-- From the abstract orders to the concrete ones. -/
theorem wpAny_of_anyA {n g : Nat} {L : Array Bool → AS → Prop} {Q' : Exit → Act → World → Prop} {C0 : Ctx} {A0 : AS} (hd : ∀ o ∈ ops.toList, ∀ d, o.dst = some d → d < A0.N)
    (hL : ∀ listed A C a, L listed A → Rel C A a → A.N = A0.N → Step C0 A0.heap A0.nx C A.heap A.nx → wpAny P md ops Q' g listed a C.w) :
    ∀ (f : Nat) (listed : Array Bool) (A : AS) (C : Ctx) (a : Act), anyA P md ops n L f listed A → Rel C A a → A.N = A0.N → Step C0 A0.heap A0.nx C A.heap A.nx → wpAny P md ops Q' (f + g) listed a C.w
  | 0, listed, A, C, a, h, r, hN, hs => by rw [Nat.zero_add]; exact hL _ _ _ _ h r hN hs
  | f + 1, listed, A, C, a, h, r, hN, hs => by
    rw [show f + 1 + g = (f + g) + 1 by omega]
    refine ⟨fun h0 => absurd h0 h.1, fun i hi => ?_⟩
    have hq := (h.2 i hi).2
    unfold wpOp
    split
    · rename_i ho
      unfold aqOp at hq
      rw [ho] at hq
      exact wpAny_of_anyA hd hL f _ A C a hq r hN hs
    · rename_i o ho
      have hdo : ∀ d, o.dst = some d → d < A.N := fun d hdd => by rw [hN]; exact hd o (by rw [← Array.getElem?_toList] at ho; exact List.mem_of_getElem? ho) d hdd
      have hput : ∀ C' v av, V C' A.heap A.nx av v → HeapRel C' A.heap A.nx → Step C A.heap A.nx C' A.heap A.nx →
          anyA P md ops n L f (listed.setIfInBounds i true) (A.put o.dst av) → wpAny P md ops Q' (f + g) (listed.setIfInBounds i true) (a.put o.dst v) C'.w := by
        intro C' v av hV H' hst hk
        obtain ⟨e1, e2, e3⟩ := put_heap A o.dst av
        have r' : Rel C' (A.put o.dst av) (a.put o.dst v) := Rel.put (A := { A with heap := A.heap, nx := A.nx }) (r.step hst H') hV _ hdo
        exact wpAny_of_anyA hd hL f _ _ C' _ hk r' (e3.trans hN) (by rw [e1, e2]; exact hs.trans hst)
      obtain ⟨av, hy, hk⟩ := yieldsA_of ho hq
      have hwc : ∀ b, wantB ops o A = some b → Region.wanted o (yielded ops a.tmps) = b := by
        intro b hb
        have := wanted_of ops o r
        unfold wantB at hb
        split at hb <;> rename_i hw <;> rw [hw] at this <;> simp only at this <;> cases hb
        · exact this
        · exact this
        · exact this.2
      rcases hy with ⟨hw, hq'⟩ | ⟨hw, rfl⟩
      · rw [if_pos (hwc true hw)]
        exact .inl (hq' C a r.heap (fun x _ => V_ev r.env x) _ _ fun C' v hV H' hst => hput C' v av hV H' hst hk)
      · rw [if_neg (by rw [hwc false hw]; simp)]
        exact hput C undef (.tup []) ⟨[], rfl, rfl⟩ r.heap Step.refl hk

theorem anyA_lex {K : AS → Prop} (hok : ∀ o ∈ ops.toList, opOk P o.op = true) : ∀ (l : List Oper) (k : Nat) (listed : Array Bool) (A : AS), (∀ j, l[j]? = ops[k + j]?) →
    Region.lexFrom md ops l.length k listed = true → aopsQ P (tiOf P) (ops.toList.map (·.dst)) K l A →
    anyA P md ops ops.size (fun listed' A' => Region.ready md ops listed' = [] ∧ K A') l.length listed A
  | [], _, _, _, _, hB, h => ⟨by simpa [Region.lexFrom] using hB, h⟩
  | o :: l, k, listed, A, hl, hB, h => by
    have h0 : ops[k]? = some o := by simpa using (hl 0).symm
    have hk : k < ops.size := (Array.getElem?_eq_some_iff.1 h0).1
    simp only [List.length_cons, Region.lexFrom, Bool.and_eq_true] at hB
    obtain ⟨⟨hr, hf⟩, hB'⟩ := hB
    have hmem : o ∈ ops.toList := by rw [← Array.getElem?_toList] at h0; exact List.mem_of_getElem? h0
    obtain ⟨av, hy, hK⟩ := yieldsA_of h0 (aopsQ_next h0 (hok o hmem) h)
    refine anyA_first h0 (fun _ => True) (fun _ _ _ _ _ => trivial) (fun listed _ _ _ t ht htr => ?_) hk (fun listed A hL j hj => by rw [hL.1] at hj; cases hj) l.length listed A trivial (Region.free_spec h0 hf) (by simpa using hr) hy
      (anyA_lex hok l (k + 1) _ _ (fun j => by have := hl (j + 1); simpa [Nat.add_assoc, Nat.add_comm 1 j] using this) hB' hK)
    obtain ⟨_, o', ho', _⟩ := mem_ready.1 htr
    have := (Array.getElem?_eq_some_iff.1 ho').1
    omega

theorem anyA_lexTail {n g : Nat} {K : AS → Prop} (hok : ∀ o ∈ ops.toList, opOk P o.op = true) (hs : Region.sinkB md ops n = true) (hc : Region.chainB md ops n = true) (hn : n < ops.size) :
    ∀ (l : List Oper) (k : Nat) (listed : Array Bool) (A : AS), (∀ j, j < l.length → l[j]? = ops[k + j]?) → k + l.length = n → HeadInv md ops n listed →
    Region.lexHead md ops g l.length k listed = true → aopsQ P (tiOf P) (ops.toList.map (·.dst)) K l A →
    anyA P md ops n (fun listed' A' => Region.seqB md ops g n listed' = true ∧ K A') l.length listed A
  | [], k, listed, A, _, hk, _, hB, h => by
    have : k = n := by simpa using hk
    subst this
    exact ⟨by simpa [Region.lexHead] using hB, h⟩
  | o :: l, k, listed, A, hl, hk, inv, hB, h => by
    have h0 : ops[k]? = some o := by simpa using (hl 0 (by simp)).symm
    simp only [List.length_cons, Region.lexHead, Bool.and_eq_true] at hB
    obtain ⟨⟨hr, hf⟩, hB'⟩ := hB
    have hkn : k < n := by simp only [List.length_cons] at hk; omega
    have hr' : k ∈ Region.ready md ops listed := by simpa using hr
    have hmem : o ∈ ops.toList := by rw [← Array.getElem?_toList] at h0; exact List.mem_of_getElem? h0
    obtain ⟨av, hy, hK⟩ := yieldsA_of h0 (aopsQ_next h0 (hok o hmem) h)
    exact anyA_first h0 (HeadInv md ops n) (fun listed inv j hj hjn => inv.set hj hjn) (fun listed inv hin hun t ht => tail_waits hs hc hn inv _ k rfl hin hun t ht) hkn (fun listed' A' hL => seqB_ready hL.1) l.length listed A inv (Region.free_spec h0 hf) hr' hy
      (anyA_lexTail hok hs hc hn l (k + 1) _ _ (fun j hj => by have := hl (j + 1) (by simp; omega); simpa [Nat.add_assoc, Nat.add_comm 1 j] using this) (by simp only [List.length_cons] at hk; omega) (inv.set hr' hkn) hB' hK)
end
end Go.Abs
