/- Drawn regions in which the operations that turn memory come in one order, and the others look at no memory of the names. -/
import Derived.Test.YtogdmmccbeipkaaGreatAbsDraw
set_option linter.all false
namespace Go.Abs
open Go

section
variable {P : Program} {ops : Array Oper} {md : Region.Mode}

/-- What one operation does to a state. -/
inductive Ef where
  | q (av : AV)
  | t (av : AV) (h : Heap) (n : Nat)

def Ef.app : Ef → Option Tmp → AS → AS
  | .q av, d, A => A.put d av
  | .t av h n, d, A => AS.put { A with heap := h, nx := n } d av

/-- In every memory. -/
def EffQ (P : Program) (o : Oper) (A : AS) (av : AV) : Prop :=
  ∀ A1 : AS, (∀ x ∈ o.op.operands.toList, A1.ev x = A.ev x) → (∀ d, o.dst = some d → d < A1.N) → OpWp P o A1 fun A' => A' = A1.put o.dst av
/-- In this one. -/
def EffT (P : Program) (o : Oper) (A : AS) (av : AV) (h : Heap) (n : Nat) : Prop :=
  ∀ A1 : AS, (∀ x ∈ o.op.operands.toList, A1.ev x = A.ev x) → A1.heap = A.heap → A1.nx = A.nx → (∀ d, o.dst = some d → d < A1.N) → OpWp P o A1 fun A' => A' = AS.put { A1 with heap := h, nx := n } o.dst av

def YieldsM (P : Program) (ops : Array Oper) (o : Oper) (A : AS) : Ef → Prop
  | .q av => (wantB ops o A = some true ∧ EffQ P o A av) ∨ (wantB ops o A = some false ∧ av = .tup [])
  | .t av h n => wantB ops o A = some true ∧ isT o.op = true ∧ EffT P o A av h n

def mOp (P : Program) (ops : Array Oper) (i : Nat) (K : AS → Prop) (A : AS) : Prop :=
  match ops[i]? with
  | none => K A
  | some o => ∃ e, YieldsM P ops o A e ∧ K (e.app o.dst A)

theorem mOp_mono {i : Nat} {A : AS} {K K' : AS → Prop} (h : ∀ A, K A → K' A) (hh : mOp P ops i K A) : mOp P ops i K' A := by
  unfold mOp at *
  split
  · rename_i hi; rw [hi] at hh; exact h _ hh
  · rename_i o hi
    rw [hi] at hh
    obtain ⟨e, h1, h2⟩ := hh
    exact ⟨e, h1, h _ h2⟩

theorem ev_mem (A : AS) (h : Heap) (n : Nat) (x : Operand) : AS.ev { A with heap := h, nx := n } x = A.ev x := by cases x <;> rfl

theorem app_ev {e : Ef} {d : Option Tmp} {A : AS} {x : Operand} (h : ∀ t, d = some t → x ≠ .tmp t) : (e.app d A).ev x = A.ev x := by
  cases e with
  | q av => exact put_ev h
  | t av hp n => exact (put_ev h).trans (ev_mem A hp n x)

theorem wantB_mem {o : Oper} (A : AS) (h : Heap) (n : Nat) : wantB ops o { A with heap := h, nx := n } = wantB ops o A := rfl
theorem wantB_app {o : Oper} {e : Ef} {d : Option Tmp} {A : AS} (h : ∀ t, d = some t → t ∉ o.looksAt ops) : wantB ops o (e.app d A) = wantB ops o A := by
  cases e with
  | q av => exact wantB_put h
  | t av hp n => exact wantB_put h

theorem app_N (e : Ef) (d : Option Tmp) (A : AS) : (e.app d A).N = A.N := by
  cases e <;> cases d <;> rfl
theorem q_heap (av : AV) (d : Option Tmp) (A : AS) : ((Ef.q av).app d A).heap = A.heap ∧ ((Ef.q av).app d A).nx = A.nx := by cases d <;> exact ⟨rfl, rfl⟩

theorem op_ne {o : Oper} {d : Option Tmp} (h : ∀ t, d = some t → t ∉ o.looksAt ops) {x : Operand} (hx : x ∈ o.op.operands.toList) : ∀ t, d = some t → x ≠ .tmp t :=
  fun t ht hxt => h t ht (by subst hxt; exact List.mem_append_left _ (List.mem_filterMap.2 ⟨.tmp t, hx, rfl⟩))

/-- An effect at a state that the other operation has turned, and back. -/
theorem YieldsM.turn {o : Oper} {A : AS} {e e2 : Ef} {d : Option Tmp} (hap : ∀ t, d = some t → t ∉ o.looksAt ops) (hT : (∃ av, e2 = .q av) ∨ ∃ av, e = .q av) :
    YieldsM P ops o (e2.app d A) e ↔ YieldsM P ops o A e := by
  have hev : ∀ x ∈ o.op.operands.toList, (e2.app d A).ev x = A.ev x := fun x hx => app_ev (op_ne hap hx)
  cases e with
  | q av =>
    simp only [YieldsM, wantB_app hap]
    have : EffQ P o (e2.app d A) av ↔ EffQ P o A av :=
      ⟨fun h A1 h1 h2 => h A1 (fun x hx => (h1 x hx).trans (hev x hx).symm) h2, fun h A1 h1 h2 => h A1 (fun x hx => (h1 x hx).trans (hev x hx)) h2⟩
    rw [this]
  | t av h n =>
    rcases hT with ⟨av2, rfl⟩ | ⟨av2, he⟩
    · obtain ⟨e1, e2⟩ := q_heap av2 d A
      simp only [YieldsM, wantB_app hap]
      have : EffT P o ((Ef.q av2).app d A) av h n ↔ EffT P o A av h n := by
        unfold EffT
        rw [e1, e2]
        exact ⟨fun h A1 h1 => h A1 fun x hx => (h1 x hx).trans (hev x hx).symm, fun h A1 h1 => h A1 fun x hx => (h1 x hx).trans (hev x hx)⟩
      rw [this]
    · cases he

theorem app_comm {A : AS} {d1 d2 : Option Tmp} {e1 e2 : Ef} (h : ∀ d, d1 = some d → d2 ≠ some d) (hT : (∃ av, e1 = .q av) ∨ ∃ av, e2 = .q av) : e2.app d2 (e1.app d1 A) = e1.app d1 (e2.app d2 A) := by
  have mem : ∀ (A : AS) (d : Option Tmp) (v : AV) (hp : Heap) (n : Nat), ({ A.put d v with heap := hp, nx := n } : AS) = AS.put { A with heap := hp, nx := n } d v := fun A d v hp n => by cases d <;> rfl
  cases e1 with
  | q a1 => cases e2 with
    | q a2 => exact put_comm a1 a2 h
    | t a2 h2 n2 =>
      show AS.put { A.put d1 a1 with heap := h2, nx := n2 } d2 a2 = AS.put (AS.put { A with heap := h2, nx := n2 } d2 a2) d1 a1
      rw [mem]; exact put_comm a1 a2 h
  | t a1 h1 n1 => cases e2 with
    | q a2 =>
      show AS.put (AS.put { A with heap := h1, nx := n1 } d1 a1) d2 a2 = AS.put { A.put d2 a2 with heap := h1, nx := n1 } d1 a1
      rw [mem]; exact put_comm a1 a2 h
    | t a2 h2 n2 => rcases hT with ⟨_, h⟩ | ⟨_, h⟩ <;> cases h

theorem mOp_put {j : Nat} {oi oj : Oper} {e : Ef} (hj : ops[j]? = some oj) (hap : oi.apart ops oj = true) (hTT : ¬ (isT oi.op = true ∧ isT oj.op = true)) {K : AS → Prop} {A : AS}
    (hy : YieldsM P ops oi A e) (h : mOp P ops j K (e.app oi.dst A)) : mOp P ops j (fun A' => YieldsM P ops oi A' e ∧ K (e.app oi.dst A')) A := by
  obtain ⟨h1, h2, h3⟩ := Oper.apart_spec hap
  unfold mOp at *
  simp only [hj] at *
  obtain ⟨e2, hy2, hk⟩ := h
  have hT : (∃ av, e = .q av) ∨ ∃ av, e2 = .q av := by
    cases e with
    | q av => exact .inl ⟨av, rfl⟩
    | t av hp n => cases e2 with
      | q av => exact .inr ⟨av, rfl⟩
      | t av2 hp2 n2 => exact absurd ⟨hy.2.1, hy2.2.1⟩ hTT
  have hT' : (∃ av, e2 = .q av) ∨ ∃ av, e = .q av := hT.symm
  refine ⟨e2, (YieldsM.turn h1 hT).1 hy2, (YieldsM.turn h3 hT').2 hy, ?_⟩
  rw [← app_comm h2 hT]
  exact hk

def anyM (P : Program) (md : Region.Mode) (ops : Array Oper) (K : AS → Prop) : Nat → Array Bool → AS → Prop
  | 0, listed, A => Region.ready md ops listed = [] ∧ K A
  | f + 1, listed, A => Region.ready md ops listed ≠ [] ∧ ∀ i ∈ Region.ready md ops listed, mOp P ops i (anyM P md ops K f (listed.setIfInBounds i true)) A

/-- What is listed has all that it waits for listed, and so have the first k. -/
structure Closed (md : Region.Mode) (ops : Array Oper) (k : Nat) (listed : Array Bool) : Prop where
  size : listed.size = ops.size
  closed : ∀ j oj, ops[j]? = some oj → listed.getD j false = true → ∀ e ∈ oj.after, Region.binds md e = true → listed.getD e.on false = true
  first : ∀ j, j < k → listed.getD j false = true

theorem Closed.set {k i : Nat} {listed : Array Bool} (inv : Closed md ops k listed) (hi : i ∈ Region.ready md ops listed) : Closed md ops k (listed.setIfInBounds i true) := by
  obtain ⟨_, oi, hoi, hall⟩ := mem_ready.1 hi
  refine ⟨by simp [inv.size], fun j oj hj hl e he hb => ?_, fun j hj => getD_set_true (inv.first j hj)⟩
  by_cases hij : i = j
  · subst hij
    have : oj = oi := Option.some.inj (hj.symm.trans hoi)
    subst this
    exact getD_set_true (hall e he hb)
  · rw [getD_set_ne false hij] at hl
    exact getD_set_true (inv.closed j oj hj hl e he hb)

theorem turnsAt_spec {i : Nat} {o : Oper} (ho : ops[i]? = some o) : tchainB.turnsAt ops i = isT o.op := by unfold tchainB.turnsAt; rw [ho]

/-- Before one that turns memory is listed, all earlier ones are. -/
theorem chain_listed (hc : tchainB ops = true) {k : Nat} {listed : Array Bool} (inv : Closed .any ops k listed) : ∀ (t : Nat) (ot : Oper), ops[t]? = some ot → isT ot.op = true → (∀ e ∈ ot.after, Region.binds .any e = true → listed.getD e.on false = true) →
    ∀ (s : Nat) (os : Oper), s < t → ops[s]? = some os → isT os.op = true → listed.getD s false = true := by
  intro t
  induction t using Nat.strongRecOn with
  | _ t ih =>
    intro ot hot hT hall s os hs hos hTs
    have htl : t < ops.size := (Array.getElem?_eq_some_iff.1 hot).1
    have h1 := List.all_eq_true.1 (List.all_eq_true.1 hc t (List.mem_range.2 htl)) s (List.mem_range.2 hs)
    rw [turnsAt_spec hot, turnsAt_spec hos, hT, hTs] at h1
    simp only [Bool.and_self, Bool.not_true, Bool.false_or, List.any_eq_true, List.mem_range, Bool.and_eq_true, decide_eq_true_eq] at h1
    obtain ⟨m, hm, ⟨hsm, hTm⟩, hw⟩ := h1
    obtain ⟨ot', hot', e, he, hb, hon⟩ := Region.waitsFor_spec hw
    have : ot' = ot := Option.some.inj (hot'.symm.trans hot)
    subst this
    have hml : listed.getD m false = true := by rw [← hon]; exact hall e he hb
    rcases Nat.lt_or_ge s m with hlt | hge
    · cases hom : ops[m]? with
      | none => unfold tchainB.turnsAt at hTm; rw [hom] at hTm; cases hTm
      | some om =>
        rw [turnsAt_spec hom] at hTm
        exact ih m hm om hom hTm (fun e he hb => inv.closed m om hom hml e he hb) s os hlt hos hTs
    · have : s = m := by omega
      rw [this]; exact hml

theorem anyM_first {K : AS → Prop} {i : Nat} {oi : Oper} {e : Ef} (hc : tchainB ops = true) (hi : ops[i]? = some oi) :
    ∀ (f : Nat) (listed : Array Bool) (A : AS), Closed .any ops i listed →
      (∀ j oj, ops[j]? = some oj → j ≠ i → listed.getD j true = false → (∀ e ∈ oj.after, Region.binds .any e = true → e.on ≠ i) → oi.apart ops oj = true) →
      i ∈ Region.ready .any ops listed → YieldsM P ops oi A e →
      anyM P .any ops K f (listed.setIfInBounds i true) (e.app oi.dst A) → anyM P .any ops K (f + 1) listed A := by
  have here : ∀ {K : AS → Prop} {A : AS}, YieldsM P ops oi A e → K (e.app oi.dst A) → mOp P ops i K A := fun hy hk => by
    unfold mOp; simp only [hi]; exact ⟨e, hy, hk⟩
  intro f
  induction f with
  | zero =>
    intro listed A inv _ hr hy H
    refine ⟨fun h => (by rw [h] at hr; cases hr), fun j hj => ?_⟩
    by_cases hji : j = i
    · subst hji; exact here hy H
    · have := H.1
      have hj' := ready_mono hj hji
      rw [this] at hj'
      cases hj'
  | succ f ih =>
    intro listed A inv hfree hr hy H
    have hun := (mem_ready.1 hr).1
    refine ⟨fun h => (by rw [h] at hr; cases hr), fun j hj => ?_⟩
    by_cases hji : j = i
    · subst hji; exact here hy H
    · have h1 := H.2 j (ready_mono hj hji)
      obtain ⟨hjun, oj, hoj, hall⟩ := mem_ready.1 hj
      have hnot : ∀ e ∈ oj.after, Region.binds .any e = true → e.on ≠ i := fun e he hb heq => by
        have h1 := hall e he hb
        rw [heq, getD_both hun] at h1
        cases h1
      have hij : i < j := by
        rcases Nat.lt_or_ge j i with h | h
        · have := inv.first j h
          rw [getD_both hjun] at this; cases this
        · omega
      have hTT : ¬ (isT oi.op = true ∧ isT oj.op = true) := fun ⟨h2, h3⟩ => by
        have := chain_listed hc inv j oj hoj h3 hall i oi hij hi h2
        rw [getD_both hun] at this; cases this
      have h2 := mOp_put hoj (hfree j oj hoj hji hjun hnot) hTT hy h1
      have hfree' : ∀ k ok, ops[k]? = some ok → k ≠ i → (listed.setIfInBounds j true).getD k true = false →
          (∀ e ∈ ok.after, Region.binds .any e = true → e.on ≠ i) → oi.apart ops ok = true := fun k ok hk hki hun hno => by
        refine hfree k ok hk hki ?_ hno
        by_cases hjk : j = k
        · subst hjk; exact hjun
        · rw [getD_set_ne true hjk] at hun; exact hun
      refine mOp_mono (fun A' h3 => ih (listed.setIfInBounds j true) A' (inv.set hj) hfree' (ready_mono hr (Ne.symm hji)) h3.1 ?_) h2
      rw [Array.setIfInBounds_comm _ _ hji]
      exact h3.2

theorem aev_congr {T : Tab} {op : Op} {A A1 : AS} {k : AV → Prop} (hev : ∀ x ∈ op.operands.toList, A1.ev x = A.ev x) (hh : A1.heap = A.heap) (h : aev T op A k) : aev T op A1 k := by
  unfold aev at h ⊢
  split at h
  case _ x => simpa only [hev x (by simp [Op.operands])] using h
  case _ x => simpa only [hev x (by simp [Op.operands])] using h
  case _ c x y => simpa only [hev c (by simp [Op.operands]), hev x (by simp [Op.operands]), hev y (by simp [Op.operands])] using h
  case _ op t x y u => simpa only [hev x (by simp [Op.operands]), hev y (by simp [Op.operands])] using h
  case _ op t x => simpa only [hev x (by simp [Op.operands])] using h
  case _ t x =>
    simp only [hev x (by simp [Op.operands])]
    unfold aload at h ⊢
    rw [hh]; exact h
  case _ s x f => simpa only [hev x (by simp [Op.operands]), hh] using h
  case _ s x f => simpa only [hev x (by simp [Op.operands])] using h
  case _ t x i =>
    simp only [hev x (by simp [Op.operands]), hev i (by simp [Op.operands])]
    unfold aindexAddr at h ⊢
    rw [hh]; exact h
  case _ t x lo hi =>
    have e1 : lo.map A1.ev = lo.map A.ev := by
      cases lo with
      | none => rfl
      | some y => simp only [Option.map_some, hev y (by simp [Op.operands])]
    have e2 : hi.map A1.ev = hi.map A.ev := by
      cases hi with
      | none => rfl
      | some y => simp only [Option.map_some, hev y (by simp [Op.operands])]
    simpa only [hev x (by simp [Op.operands]), e1, e2, hh] using h
  case _ x => simpa only [hev x (by simp [Op.operands]), hh] using h
  case _ x i => simpa only [hev x (by simp [Op.operands])] using h
  case _ f a c =>
    have e1 : a.toList.map A1.ev = a.toList.map A.ev := List.map_congr_left fun x hx => hev x (by simp only [Op.operands, Array.toList_append, List.mem_append]; exact .inl hx)
    have e2 : c.toList.map A1.ev = c.toList.map A.ev := List.map_congr_left fun x hx => hev x (by simp only [Op.operands, Array.toList_append, List.mem_append]; exact .inr hx)
    simpa only [e1, e2] using h
  case _ t ps =>
    have e1 : (ps.toList.map fun p => (p.1, A1.ev p.2)) = ps.toList.map fun p => (p.1, A.ev p.2) := List.map_congr_left fun p hp => by
      rw [hev p.2 (by simp only [Op.operands, Array.toList_map, List.mem_map]; exact ⟨p, hp, rfl⟩)]
    simpa only [e1] using h
  case _ b args ts =>
    have e1 : args.toList.map A1.ev = args.toList.map A.ev := List.map_congr_left fun x hx => hev x (by
      simp only [Op.operands, Call.operands, Array.toList_append, List.mem_append]; right; exact hx)
    simpa only [e1] using h
  case _ => exact h

theorem put_env_eq {A : AS} (h : Heap) (n : Nat) : ({ A with heap := h, nx := n } : AS) = ⟨A.env, h, n, A.N⟩ := rfl

theorem aopT_eff {T : Tab} {dst : Option Tmp} {op : Op} {A : AS} {K : AS → Prop} (hT : isT op = true) (hnc : ∀ f args ts, op = .call ⟨.value f, args, ts⟩ → False) (h : aop P T dst op K A) :
    ∃ av hp n, K (AS.put { A with heap := hp, nx := n } dst av) ∧ ∀ A1 : AS, (∀ x ∈ op.operands.toList, A1.ev x = A.ev x) → A1.heap = A.heap → A1.nx = A.nx →
      aop P T dst op (fun A' => A' = AS.put { A1 with heap := hp, nx := n } dst av) A1 := by
  unfold isT at hT
  split at hT
  · exact absurd rfl (fun e => hnc _ _ _ e)
  · rename_i args ts
    unfold aop at h ⊢
    simp only at h ⊢
    split at h
    · rename_i s x t r hargs hts
      unfold aelems at h
      have fin : ∀ xs, aappTo (T (T t).elem).size A (A.ev s) dst K xs → ∃ av hp n, K (AS.put { A with heap := hp, nx := n } dst av) ∧ ∀ A1 : AS, A1.ev s = A.ev s → A1.heap = A.heap → A1.nx = A.nx →
          aappTo (T (T t).elem).size A1 (A1.ev s) dst (fun A' => A' = AS.put { A1 with heap := hp, nx := n } dst av) xs := by
        intro xs h
        unfold aappTo at h
        split at h
        · rename_i hs
          unfold aappNil at h
          split at h
          · refine ⟨_, A.heap, A.nx, h, fun A1 e1 e2 e3 => ?_⟩
            rw [e1, hs]; unfold aappTo aappNil; simp only [← e2, ← e3]
          · obtain ⟨hc, h⟩ := h
            refine ⟨_, _, _, h, fun A1 e1 e2 e3 => ?_⟩
            rw [e1, hs]; unfold aappTo aappNil AS.alloc; simp only [e2, e3]; exact ⟨hc, trivial⟩
        · rename_i n tip off len hs
          unfold ablk at h
          split at h
          · rename_i b hb
            unfold aappBlk at h
            obtain ⟨hc, h⟩ := h
            refine ⟨_, _, A.nx, h, fun A1 e1 e2 e3 => ?_⟩
            rw [e1, hs]; unfold aappTo ablk aappBlk AS.hput; simp only [e2, hb, ← e3]; exact ⟨hc, trivial⟩
          · exact h.elim
        · exact h.elim
      have e0 : ∀ A1 : AS, (∀ y ∈ (Op.call ⟨.builtin .append, args, ts⟩).operands.toList, A1.ev y = A.ev y) → A1.ev s = A.ev s ∧ A1.ev x = A.ev x := fun A1 hev => by
        have hm : ∀ y ∈ args.toList, A1.ev y = A.ev y := fun y hy => hev y (by simp only [Op.operands, Call.operands, Array.toList_append, List.mem_append]; right; exact hy)
        rw [hargs] at hm
        exact ⟨hm s (by simp), hm x (by simp)⟩
      split at h
      · rename_i es hx
        obtain ⟨av, hp, n, hk, hall⟩ := fin _ h
        refine ⟨av, hp, n, hk, fun A1 hev e2 e3 => ?_⟩
        obtain ⟨e1, e4⟩ := e0 A1 hev
        unfold aelems; rw [e4, hx]; exact hall A1 e1 e2 e3
      · rename_i hx
        obtain ⟨av, hp, n, hk, hall⟩ := fin _ h
        refine ⟨av, hp, n, hk, fun A1 hev e2 e3 => ?_⟩
        obtain ⟨e1, e4⟩ := e0 A1 hev
        unfold aelems; rw [e4, hx]; exact hall A1 e1 e2 e3
      · rename_i n0 tip off len hx
        unfold ablk at h
        split at h
        · rename_i b hb
          obtain ⟨hc, h⟩ := h
          obtain ⟨av, hp, n, hk, hall⟩ := fin _ h
          refine ⟨av, hp, n, hk, fun A1 hev e2 e3 => ?_⟩
          obtain ⟨e1, e4⟩ := e0 A1 hev
          unfold aelems ablk; rw [e4, hx]; simp only [e2, hb]; exact ⟨hc, hall A1 e1 e2 e3⟩
        · exact h.elim
      · exact h.elim
    · exact h.elim
  · rename_i t
    refine ⟨_, _, _, h, fun A1 hev e2 e3 => ?_⟩
    unfold aop AS.alloc; simp only [e2, e3]
  · rename_i t x
    obtain ⟨hc, h⟩ := h
    refine ⟨_, _, _, h, fun A1 hev e2 e3 => ?_⟩
    unfold aop AS.alloc; simp only [e2, e3, hev x (by simp [Op.operands])]; exact ⟨hc, trivial⟩
  · rename_i t p x
    unfold aop at h ⊢
    simp only at h ⊢
    unfold astore at h
    split at h
    · rename_i n tip i j hp
      unfold ablk at h
      split at h
      · rename_i b hb
        unfold astoreB at h
        obtain ⟨hc, h⟩ := h
        unfold astoreE at h
        split at h
        · rename_i e he
          obtain ⟨hc2, h⟩ := h
          refine ⟨_, _, A.nx, h, fun A1 hev e2 e3 => ?_⟩
          rw [hev p (by simp [Op.operands]), hev x (by simp [Op.operands]), hp]
          unfold astore ablk astoreB astoreE AS.hput
          simp only [e2, hb, he, ← e3]
          exact ⟨hc, hc2, trivial⟩
        · exact h.elim
      · exact h.elim
    · exact h.elim
  · cases hT

theorem aopM_eff {o : Oper} {A : AS} {K : AS → Prop} (hok : opOk P o.op = true) (h : aopM P (tiOf P) o.dst o.op K A) :
    ∃ e : Ef, K (e.app o.dst A) ∧ ((∃ av, e = .q av ∧ EffQ P o A av) ∨ ∃ av h n, e = .t av h n ∧ isT o.op = true ∧ EffT P o A av h n) := by
  unfold aopM at h
  split at h
  · rename_i t len ps ho
    obtain ⟨av, hk, hx⟩ := slit_wp ho hok h
    refine ⟨.q av, hk, .inl ⟨av, rfl, fun A1 hev hd C a r next Q hnext => ?_⟩⟩
    obtain ⟨C', v, hr, hV, H', hst⟩ := hx C a _ _ r.heap fun x hx => by rw [← hev x hx]; exact V_ev r.env x
    obtain ⟨e1, e2, e3⟩ := put_heap A1 o.dst av
    exact upon_of_value hr (hnext _ C' _ rfl (Rel.put (A := { A1 with heap := A1.heap, nx := A1.nx }) (r.step hst H') hV _ hd) (by rw [e1, e2]; exact hst) e3)
  · rename_i f args ts ho
    unfold acallD at h
    split at h
    · rename_i g a1 c1 hf
      obtain ⟨rv, h', n', hc, hk⟩ := h
      refine ⟨.t rv h' n', hk, .inr ⟨rv, h', n', rfl, by rw [ho]; rfl, fun A1 hev hh hn hd => opwp_call ho hd ?_⟩⟩
      have e1 : A1.ev f = A.ev f := hev f (by simp [ho, Op.operands, Call.operands])
      have e2 : args.toList.map A1.ev = args.toList.map A.ev := List.map_congr_left fun x hx => hev x (by
        simp only [ho, Op.operands, Call.operands, Array.toList_append, List.mem_append]; right; exact hx)
      rw [e1, e2, hf]
      unfold acall
      rw [hh, hn]
      exact ⟨hc.1, fun C vs H hv => (hc.2 C vs H hv).mono fun e w' ⟨r, h'', nx', C', v, b1, ⟨q1, q2, q3⟩, b3⟩ => ⟨r, h'', nx', C', v, b1, by subst q1 q2 q3; rfl, b3⟩⟩
    · exact h.elim
  · split at h
    · rename_i hT
      have key : ∃ av hp n, K (AS.put { A with heap := hp, nx := n } o.dst av) ∧ ∀ A1 : AS, (∀ x ∈ o.op.operands.toList, A1.ev x = A.ev x) → A1.heap = A.heap → A1.nx = A.nx →
          aop P (tiOf P) o.dst o.op (fun A' => A' = AS.put { A1 with heap := hp, nx := n } o.dst av) A1 :=
        aopT_eff hT (by assumption) h
      obtain ⟨av, hp, n, hk, hall⟩ := key
      exact ⟨.t av hp n, hk, .inr ⟨av, hp, n, rfl, hT, fun A1 hev hh hn hd => aop_sound hok hd (hall A1 hev hh hn)⟩⟩
    · obtain ⟨av, hr, hk⟩ := h
      refine ⟨.q av, hk, .inl ⟨av, rfl, fun A1 hev hd => ?_⟩⟩
      have h1 : aev (tiOf P) o.op A1 fun u => u = av := aev_congr (A := { A with heap := A1.heap, nx := A1.nx }) (fun x hx => (hev x hx).trans (ev_mem A _ _ x).symm) rfl (hr A1.heap A1.nx)
      obtain ⟨av', e, hq⟩ := aev_quiet hok h1
      subst e
      exact OpWp.of_quiet hq hd rfl

theorem aopsM_next {o : Oper} {l : List Oper} {A : AS} {K : AS → Prop} {k : Nat} (hk : ops[k]? = some o) (hok : opOk P o.op = true) (h : aopsM P (tiOf P) (ops.toList.map (·.dst)) K (o :: l) A) :
    ∃ e, YieldsM P ops o A e ∧ aopsM P (tiOf P) (ops.toList.map (·.dst)) K l (e.app o.dst A) := by
  have yes : wantB ops o A = some true → aopM P (tiOf P) o.dst o.op (aopsM P (tiOf P) (ops.toList.map (·.dst)) K l) A → ∃ e, YieldsM P ops o A e ∧ aopsM P (tiOf P) (ops.toList.map (·.dst)) K l (e.app o.dst A) := by
    intro hw h
    obtain ⟨e, hk, he⟩ := aopM_eff hok h
    refine ⟨e, ?_, hk⟩
    rcases he with ⟨av, rfl, hq⟩ | ⟨av, hp, n, rfl, hT, ht⟩
    · exact .inl ⟨hw, hq⟩
    · exact ⟨hw, hT, ht⟩
  have no : wantB ops o A = some false → aopsM P (tiOf P) (ops.toList.map (·.dst)) K l (A.put o.dst (.tup [])) → ∃ e, YieldsM P ops o A e ∧ aopsM P (tiOf P) (ops.toList.map (·.dst)) K l (e.app o.dst A) :=
    fun hw h => ⟨.q (.tup []), .inr ⟨hw, rfl⟩, h⟩
  simp only [aopsM] at h
  cases hw : awant (ops.toList.map (·.dst)) o.guard A with
  | yes => rw [hw] at h; exact yes (by unfold wantB; rw [hw]) h
  | no => rw [hw] at h; exact no (by unfold wantB; rw [hw]) h
  | bad => rw [hw] at h; exact h.elim
  | ask t b want =>
    rw [hw] at h
    have ht : A.env t = .bool b := by
      unfold awant awantD at hw
      split at hw
      · cases hw
      · split at hw
        · rename_i t' _
          cases he : A.env t' <;> rw [he] at hw <;> simp only [awantV] at hw <;> cases hw
          exact he
        · cases hw
    have hwb : wantB ops o A = some (b == want) := by unfold wantB; rw [hw]
    simp only [awhen] at h
    have hp := put_same ht
    cases b <;> cases want <;> simp only [aask, askip] at h <;> rw [hp] at h
    · exact yes hwb h
    · exact no hwb h
    · exact no hwb h
    · exact yes hwb h

theorem anyM_lex {K : AS → Prop} (hc : tchainB ops = true) (hok : ∀ o ∈ ops.toList, opOk P o.op = true) : ∀ (l : List Oper) (k : Nat) (listed : Array Bool) (A : AS), (∀ j, l[j]? = ops[k + j]?) → Closed .any ops k listed →
    Region.lexFrom .any ops l.length k listed = true → aopsM P (tiOf P) (ops.toList.map (·.dst)) K l A → anyM P .any ops K l.length listed A
  | [], _, _, _, _, _, hB, h => ⟨by simpa [Region.lexFrom] using hB, h⟩
  | o :: l, k, listed, A, hl, inv, hB, h => by
    have h0 : ops[k]? = some o := by simpa using (hl 0).symm
    simp only [List.length_cons, Region.lexFrom, Bool.and_eq_true] at hB
    obtain ⟨⟨hr, hf⟩, hB'⟩ := hB
    have hr' : k ∈ Region.ready .any ops listed := by simpa using hr
    have hmem : o ∈ ops.toList := by rw [← Array.getElem?_toList] at h0; exact List.mem_of_getElem? h0
    obtain ⟨e, hy, hK⟩ := aopsM_next h0 (hok o hmem) h
    have inv' : Closed .any ops (k + 1) (listed.setIfInBounds k true) := by
      obtain ⟨h1, h2, h3⟩ := inv.set hr'
      refine ⟨h1, h2, fun j hj => ?_⟩
      by_cases hjk : j = k
      · subst hjk
        have hlt : j < listed.size := by rw [inv.size]; exact (Array.getElem?_eq_some_iff.1 h0).1
        simp [hlt]
      · exact h3 j (by omega)
    exact anyM_first hc h0 l.length listed A inv (Region.free_spec h0 hf) hr' hy
      (anyM_lex hc hok l (k + 1) _ _ (fun j => by have := hl (j + 1); simpa [Nat.add_assoc, Nat.add_comm 1 j] using this) inv' hB' hK)

theorem wpAny_of_anyM {K : AS → Prop} {Q' : Exit → Act → World → Prop} {C0 : Ctx} {A0 : AS} (hd : ∀ o ∈ ops.toList, ∀ d, o.dst = some d → d < A0.N)
    (hL : ∀ A C a, K A → Rel C A a → A.N = A0.N → Step C0 A0.heap A0.nx C A.heap A.nx → Q' .normal a C.w) :
    ∀ (f : Nat) (listed : Array Bool) (A : AS) (C : Ctx) (a : Act), anyM P .any ops K f listed A → Rel C A a → A.N = A0.N → Step C0 A0.heap A0.nx C A.heap A.nx → wpAny P .any ops Q' f listed a C.w
  | 0, listed, A, C, a, h, r, hN, hs => ⟨h.1, hL A C a h.2 r hN hs⟩
  | f + 1, listed, A, C, a, h, r, hN, hs => by
    refine ⟨fun h0 => absurd h0 h.1, fun i hi => ?_⟩
    have hq := h.2 i hi
    unfold wpOp
    split
    · rename_i ho
      unfold mOp at hq
      rw [ho] at hq
      exact wpAny_of_anyM hd hL f _ A C a hq r hN hs
    · rename_i o ho
      have hdo : ∀ d, o.dst = some d → d < A.N := fun d hdd => by rw [hN]; exact hd o (by rw [← Array.getElem?_toList] at ho; exact List.mem_of_getElem? ho) d hdd
      unfold mOp at hq
      rw [ho] at hq
      obtain ⟨e, hy, hk⟩ := hq
      have hwc : ∀ b, wantB ops o A = some b → Region.wanted o (yielded ops a.tmps) = b := by
        intro b hb
        have := wanted_of ops o r
        unfold wantB at hb
        split at hb <;> rename_i hw <;> rw [hw] at this <;> simp only at this <;> cases hb
        · exact this
        · exact this
        · exact this.2
      have hgo : (OpWp P o A fun A' => A' = e.app o.dst A) → o.wp P a C.w (wpAny P .any ops Q' f (listed.setIfInBounds i true)) Q' := by
        intro hop
        refine hop C a r _ _ fun A' C' a' hA' r' hst hN' => ?_
        subst hA'
        exact wpAny_of_anyM hd hL f _ _ C' a' hk r' (hN'.trans hN) (hs.trans hst)
      cases e with
      | q av =>
        rcases hy with ⟨hw, hq'⟩ | ⟨hw, rfl⟩
        · rw [if_pos (hwc true hw)]
          exact .inl (hgo (hq' A (fun _ _ => rfl) hdo))
        · rw [if_neg (by rw [hwc false hw]; simp)]
          obtain ⟨e1, e2, e3⟩ := put_heap A o.dst (.tup [])
          exact wpAny_of_anyM hd hL f _ _ C _ hk (Rel.put (av := .tup []) (v := undef) r ⟨[], rfl, rfl⟩ _ hdo) (e3.trans hN) (by show Step C0 A0.heap A0.nx C (A.put o.dst (.tup [])).heap (A.put o.dst (.tup [])).nx; rw [e1, e2]; exact hs)
      | t av hp n =>
        rw [if_pos (hwc true hy.1)]
        exact .inl (hgo (hy.2.2 A (fun _ _ => rfl) rfl rfl hdo))
end
end Go.Abs
