/- Drawn regions in which all that turns memory stores into one name, and the others look at no memory of that name. -/
import Derived.Test.YtogdmmccbeipkaaGreatAbsMix
set_option linter.all false
namespace Go.Abs
open Go

section
variable {P : Program} {ops : Array Oper} {md : Region.Mode} {n0 : Nat}

/-- Heaps that differ in the block of one name alone. -/
def Off (n0 : Nat) (h1 h2 : Heap) : Prop := (h1 n0 ≠ none ↔ h2 n0 ≠ none) ∧ ∀ m, m ≠ n0 → h1 m = h2 m
theorem Off.refl (h : Heap) : Off n0 h h := ⟨Iff.rfl, fun _ _ => rfl⟩
theorem Off.symm {h1 h2 : Heap} (o : Off n0 h1 h2) : Off n0 h2 h1 := ⟨o.1.symm, fun m hm => (o.2 m hm).symm⟩
theorem Off.trans {h1 h2 h3 : Heap} (o : Off n0 h1 h2) (p : Off n0 h2 h3) : Off n0 h1 h3 := ⟨o.1.trans p.1, fun m hm => (o.2 m hm).trans (p.2 m hm)⟩
theorem Off.upd_of {h1 h2 : Heap} (o : Off n0 h1 h2) (hs : (h2 n0).isSome = true) : ∃ b, h1 = upd h2 n0 (some b) := by
  have : h1 n0 ≠ none := o.1.2 (by intro e; rw [e] at hs; cases hs)
  obtain ⟨b, hb⟩ := Option.ne_none_iff_exists'.1 this
  refine ⟨b, funext fun m => ?_⟩
  simp only [upd]
  split
  · rename_i e; rw [e]; exact hb
  · rename_i e; exact o.2 m e

/-- What one operation does to a state. -/
inductive EfS where
  | q (av : AV)
  | t (av : AV) (h : Heap)

def EfS.app : EfS → Option Tmp → AS → AS
  | .q av, d, A => A.put d av
  | .t av h, d, A => AS.put { A with heap := h } d av

/-- In every memory of that name. -/
def EffSQ (P : Program) (n0 : Nat) (o : Oper) (A : AS) (av : AV) : Prop :=
  ∀ A1 : AS, (∀ x ∈ o.op.operands.toList, A1.ev x = A.ev x) → Off n0 A1.heap A.heap → A1.nx = A.nx → (∀ d, o.dst = some d → d < A1.N) → OpWp P o A1 fun A' => A' = A1.put o.dst av
/-- In this one. -/
def EffST (P : Program) (o : Oper) (A : AS) (av : AV) (h : Heap) : Prop :=
  ∀ A1 : AS, (∀ x ∈ o.op.operands.toList, A1.ev x = A.ev x) → A1.heap = A.heap → A1.nx = A.nx → (∀ d, o.dst = some d → d < A1.N) → OpWp P o A1 fun A' => A' = AS.put { A1 with heap := h } o.dst av

def YieldsS (P : Program) (n0 : Nat) (ops : Array Oper) (o : Oper) (A : AS) : EfS → Prop
  | .q av => (wantB ops o A = some true ∧ EffSQ P n0 o A av) ∨ (wantB ops o A = some false ∧ av = .tup [])
  | .t av h => wantB ops o A = some true ∧ isT o.op = true ∧ EffST P o A av h ∧ Off n0 h A.heap

def sOp (P : Program) (n0 : Nat) (ops : Array Oper) (i : Nat) (K : AS → Prop) (A : AS) : Prop :=
  match ops[i]? with
  | none => K A
  | some o => ∃ e, YieldsS P n0 ops o A e ∧ K (e.app o.dst A)

theorem sOp_mono {i : Nat} {A : AS} {K K' : AS → Prop} (h : ∀ A, K A → K' A) (hh : sOp P n0 ops i K A) : sOp P n0 ops i K' A := by
  unfold sOp at *
  split
  · rename_i hi; rw [hi] at hh; exact h _ hh
  · rename_i o hi
    rw [hi] at hh
    obtain ⟨e, h1, h2⟩ := hh
    exact ⟨e, h1, h _ h2⟩

theorem appS_ev {e : EfS} {d : Option Tmp} {A : AS} {x : Operand} (h : ∀ t, d = some t → x ≠ .tmp t) : (e.app d A).ev x = A.ev x := by
  cases e with
  | q av => exact put_ev h
  | t av hp => exact (put_ev h).trans (ev_mem A hp A.nx x)
theorem wantB_appS {o : Oper} {e : EfS} {d : Option Tmp} {A : AS} (h : ∀ t, d = some t → t ∉ o.looksAt ops) : wantB ops o (e.app d A) = wantB ops o A := by
  cases e with
  | q av => exact wantB_put h
  | t av hp => exact wantB_put h
theorem qS_heap (av : AV) (d : Option Tmp) (A : AS) : ((EfS.q av).app d A).heap = A.heap := by cases d <;> rfl
theorem appS_nx (e : EfS) (d : Option Tmp) (A : AS) : (e.app d A).nx = A.nx := by cases e <;> cases d <;> rfl
theorem tS_heap (av : AV) (h : Heap) (d : Option Tmp) (A : AS) : ((EfS.t av h).app d A).heap = h := by cases d <;> rfl

/-- An effect at a state that the other operation has turned, and back. -/
theorem YieldsS.turn {o : Oper} {A : AS} {e e2 : EfS} {d : Option Tmp} (hap : ∀ t, d = some t → t ∉ o.looksAt ops) (hT : (∃ av, e2 = .q av) ∨ ∃ av, e = .q av) (hoff : Off n0 (e2.app d A).heap A.heap) :
    YieldsS P n0 ops o (e2.app d A) e ↔ YieldsS P n0 ops o A e := by
  have hev : ∀ x ∈ o.op.operands.toList, (e2.app d A).ev x = A.ev x := fun x hx => appS_ev (op_ne hap hx)
  have hnx := appS_nx e2 d A
  cases e with
  | q av =>
    simp only [YieldsS, wantB_appS hap]
    have : EffSQ P n0 o (e2.app d A) av ↔ EffSQ P n0 o A av :=
      ⟨fun h A1 h1 h2 h3 h4 => h A1 (fun x hx => (h1 x hx).trans (hev x hx).symm) (h2.trans hoff.symm) (h3.trans hnx.symm) h4, fun h A1 h1 h2 h3 h4 => h A1 (fun x hx => (h1 x hx).trans (hev x hx)) (h2.trans hoff) (h3.trans hnx) h4⟩
    rw [this]
  | t av h =>
    rcases hT with ⟨av2, rfl⟩ | ⟨av2, he⟩
    · have e1 := qS_heap av2 d A
      simp only [YieldsS, wantB_appS hap, e1]
      have : EffST P o ((EfS.q av2).app d A) av h ↔ EffST P o A av h := by
        unfold EffST
        rw [e1, hnx]
        exact ⟨fun h A1 h1 => h A1 fun x hx => (h1 x hx).trans (hev x hx).symm, fun h A1 h1 => h A1 fun x hx => (h1 x hx).trans (hev x hx)⟩
      rw [this]
    · cases he

theorem appS_comm {A : AS} {d1 d2 : Option Tmp} {e1 e2 : EfS} (h : ∀ d, d1 = some d → d2 ≠ some d) (hT : (∃ av, e1 = .q av) ∨ ∃ av, e2 = .q av) : e2.app d2 (e1.app d1 A) = e1.app d1 (e2.app d2 A) := by
  have mem : ∀ (A : AS) (d : Option Tmp) (v : AV) (hp : Heap), ({ A.put d v with heap := hp } : AS) = AS.put { A with heap := hp } d v := fun A d v hp => by cases d <;> rfl
  cases e1 with
  | q a1 => cases e2 with
    | q a2 => exact put_comm a1 a2 h
    | t a2 h2 =>
      show AS.put { A.put d1 a1 with heap := h2 } d2 a2 = AS.put (AS.put { A with heap := h2 } d2 a2) d1 a1
      rw [mem]; exact put_comm a1 a2 h
  | t a1 h1 => cases e2 with
    | q a2 =>
      show AS.put (AS.put { A with heap := h1 } d1 a1) d2 a2 = AS.put { A.put d2 a2 with heap := h1 } d1 a1
      rw [mem]; exact put_comm a1 a2 h
    | t a2 h2 => rcases hT with ⟨_, h⟩ | ⟨_, h⟩ <;> cases h

theorem YieldsS.off {o : Oper} {A : AS} {e : EfS} {d : Option Tmp} (h : YieldsS P n0 ops o A e) : Off n0 (e.app d A).heap A.heap := by
  cases e with
  | q av => rw [qS_heap]; exact Off.refl _
  | t av hp => rw [tS_heap]; exact h.2.2.2

theorem sOp_put {j : Nat} {oi oj : Oper} {e : EfS} (hj : ops[j]? = some oj) (hap : oi.apart ops oj = true) (hTT : ¬ (isT oi.op = true ∧ isT oj.op = true)) {K : AS → Prop} {A : AS}
    (hy : YieldsS P n0 ops oi A e) (h : sOp P n0 ops j K (e.app oi.dst A)) : sOp P n0 ops j (fun A' => YieldsS P n0 ops oi A' e ∧ K (e.app oi.dst A')) A := by
  obtain ⟨h1, h2, h3⟩ := Oper.apart_spec hap
  unfold sOp at *
  simp only [hj] at *
  obtain ⟨e2, hy2, hk⟩ := h
  have hT : (∃ av, e = .q av) ∨ ∃ av, e2 = .q av := by
    cases e with
    | q av => exact .inl ⟨av, rfl⟩
    | t av hp => cases e2 with
      | q av => exact .inr ⟨av, rfl⟩
      | t av2 hp2 => exact absurd ⟨hy.2.1, hy2.2.1⟩ hTT
  have hT' : (∃ av, e2 = .q av) ∨ ∃ av, e = .q av := hT.symm
  have hy2' := (YieldsS.turn h1 hT hy.off).1 hy2
  refine ⟨e2, hy2', (YieldsS.turn h3 hT' hy2'.off).2 hy, ?_⟩
  rw [← appS_comm h2 hT]
  exact hk

def anyS (P : Program) (n0 : Nat) (md : Region.Mode) (ops : Array Oper) (K : AS → Prop) : Nat → Array Bool → AS → Prop
  | 0, listed, A => Region.ready md ops listed = [] ∧ K A
  | f + 1, listed, A => Region.ready md ops listed ≠ [] ∧ ∀ i ∈ Region.ready md ops listed, sOp P n0 ops i (anyS P n0 md ops K f (listed.setIfInBounds i true)) A

theorem anyS_first {K : AS → Prop} {i : Nat} {oi : Oper} {e : EfS} (hc : tchainB ops = true) (hi : ops[i]? = some oi) :
    ∀ (f : Nat) (listed : Array Bool) (A : AS), Closed .any ops i listed →
      (∀ j oj, ops[j]? = some oj → j ≠ i → listed.getD j true = false → (∀ e ∈ oj.after, Region.binds .any e = true → e.on ≠ i) → oi.apart ops oj = true) →
      i ∈ Region.ready .any ops listed → YieldsS P n0 ops oi A e →
      anyS P n0 .any ops K f (listed.setIfInBounds i true) (e.app oi.dst A) → anyS P n0 .any ops K (f + 1) listed A := by
  have here : ∀ {K : AS → Prop} {A : AS}, YieldsS P n0 ops oi A e → K (e.app oi.dst A) → sOp P n0 ops i K A := fun hy hk => by
    unfold sOp; simp only [hi]; exact ⟨e, hy, hk⟩
  intro f
  induction f with
  | zero =>
    intro listed A inv _ hr hy H
    refine ⟨fun h => (by rw [h] at hr; cases hr), fun j hj => ?_⟩
    by_cases hji : j = i
    · subst hji; exact here hy H
    · have := H.1
      have hj' := ready_mono hj hji
      rw [this] at hj'
      cases hj'
  | succ f ih =>
    intro listed A inv hfree hr hy H
    have hun := (mem_ready.1 hr).1
    refine ⟨fun h => (by rw [h] at hr; cases hr), fun j hj => ?_⟩
    by_cases hji : j = i
    · subst hji; exact here hy H
    · have h1 := H.2 j (ready_mono hj hji)
      obtain ⟨hjun, oj, hoj, hall⟩ := mem_ready.1 hj
      have hnot : ∀ e ∈ oj.after, Region.binds .any e = true → e.on ≠ i := fun e he hb heq => by
        have h1 := hall e he hb
        rw [heq, getD_both hun] at h1
        cases h1
      have hij : i < j := by
        rcases Nat.lt_or_ge j i with h | h
        · have := inv.first j h
          rw [getD_both hjun] at this; cases this
        · omega
      have hTT : ¬ (isT oi.op = true ∧ isT oj.op = true) := fun ⟨h2, h3⟩ => by
        have := chain_listed hc inv j oj hoj h3 hall i oi hij hi h2
        rw [getD_both hun] at this; cases this
      have h2 := sOp_put hoj (hfree j oj hoj hji hjun hnot) hTT hy h1
      have hfree' : ∀ k ok, ops[k]? = some ok → k ≠ i → (listed.setIfInBounds j true).getD k true = false →
          (∀ e ∈ ok.after, Region.binds .any e = true → e.on ≠ i) → oi.apart ops ok = true := fun k ok hk hki hun hno => by
        refine hfree k ok hk hki ?_ hno
        by_cases hjk : j = k
        · subst hjk; exact hjun
        · rw [getD_set_ne true hjk] at hun; exact hun
      refine sOp_mono (fun A' h3 => ih (listed.setIfInBounds j true) A' (inv.set hj) hfree' (ready_mono hr (Ne.symm hji)) h3.1 ?_) h2
      rw [Array.setIfInBounds_comm _ _ hji]
      exact h3.2


theorem aopS_eff {o : Oper} {A : AS} {K : AS → Prop} (hn0 : (A.heap n0).isSome = true) (hok : opOk P o.op = true) (h : aopS P (tiOf P) n0 o.dst o.op K A) :
    ∃ e : EfS, K (e.app o.dst A) ∧ ((∃ av, e = .q av ∧ EffSQ P n0 o A av) ∨ ∃ av h, e = .t av h ∧ isT o.op = true ∧ EffST P o A av h ∧ Off n0 h A.heap) := by
  unfold aopS at h
  split at h
  · rename_i t p x ho
    obtain ⟨hp, h⟩ := h
    rw [ho] at hok
    have key := aopT_eff (dst := o.dst) (op := .store t p x) rfl (fun _ _ _ e => by cases e) h
    have hoff : ∀ av hp' n, (aop P (tiOf P) o.dst (.store t p x) (fun A' => A' = AS.put { A with heap := hp', nx := n } o.dst av) A) → Off n0 hp' A.heap ∧ n = A.nx := by
      intro av hp' n h1
      unfold aop at h1
      simp only at h1
      unfold astore at h1
      split at h1
      · rename_i m tip i j hpe
        rw [hpe] at hp
        have hm : m = n0 := hp
        subst hm
        unfold ablk at h1
        split at h1
        · rename_i b hb
          unfold astoreB at h1
          obtain ⟨_, h1⟩ := h1
          unfold astoreE at h1
          split at h1
          · obtain ⟨_, h1⟩ := h1
            have e1 := congrArg AS.heap h1
            have e2 := congrArg AS.nx h1
            have g1 : ∀ (B : AS) (d : Option Tmp) (v : AV), (B.put d v).heap = B.heap := fun B d v => by cases d <;> rfl
            have g2 : ∀ (B : AS) (d : Option Tmp) (v : AV), (B.put d v).nx = B.nx := fun B d v => by cases d <;> rfl
            rw [g1] at e1
            rw [g2] at e2
            simp only [AS.hput, g1, g2] at e1 e2
            refine ⟨?_, e2.symm⟩
            rw [← e1]
            refine ⟨?_, fun k hk => by simp [upd, hk]⟩
            simp [upd, hb]
          · exact h1.elim
        · exact h1.elim
      · exact h1.elim
    obtain ⟨av, hp', n, hk, hall⟩ := key
    obtain ⟨ho1, ho2⟩ := hoff av hp' n (hall A (fun _ _ => rfl) rfl rfl)
    subst ho2
    refine ⟨.t av hp', hk, .inr ⟨av, hp', rfl, by rw [ho]; rfl, fun A1 hev hh hn hd => ?_, ho1⟩⟩
    have := hall A1 (by rw [ho] at hev; exact hev) hh hn
    have h2 := aop_sound (o := o) (by rw [ho]; exact hok) hd (by rw [ho]; exact this)
    rw [← hn] at h2
    exact h2
  · rename_i f args ts ho
    unfold acallS at h
    split at h
    · rename_i g a1 c1 hf
      obtain ⟨rv, hc, hk⟩ := h
      refine ⟨.q rv, hk, .inl ⟨rv, rfl, fun A1 hev hh hn hd => opwp_call ho hd ?_⟩⟩
      have e1 : A1.ev f = A.ev f := hev f (by simp [ho, Op.operands, Call.operands])
      have e2 : args.toList.map A1.ev = args.toList.map A.ev := List.map_congr_left fun x hx => hev x (by
        simp only [ho, Op.operands, Call.operands, Array.toList_append, List.mem_append]; right; exact hx)
      rw [e1, e2, hf]
      unfold acall
      obtain ⟨b, hb⟩ := hh.upd_of hn0
      have hcb := hc b
      rw [← hb, ← hn] at hcb
      exact ⟨hcb.1, fun C vs H hv => (hcb.2 C vs H hv).mono fun e w' ⟨r, h'', nx', C', v, b1, ⟨q1, q2, q3⟩, b3⟩ => ⟨r, h'', nx', C', v, b1, by subst q1 q2 q3; rfl, b3⟩⟩
    · exact h.elim
  · obtain ⟨av, hr, hk⟩ := h
    refine ⟨.q av, hk, .inl ⟨av, rfl, fun A1 hev hh hn hd => ?_⟩⟩
    obtain ⟨b, hb⟩ := hh.upd_of hn0
    have h1 : aev (tiOf P) o.op A1 fun u => u = av := aev_congr (A := { A with heap := upd A.heap n0 (some b) }) (fun x hx => (hev x hx).trans (ev_mem A _ A.nx x).symm) hb (hr b)
    obtain ⟨av', e, hq⟩ := aev_quiet hok h1
    subst e
    exact OpWp.of_quiet hq hd rfl

theorem aopsS_next {o : Oper} {l : List Oper} {A : AS} {K : AS → Prop} {k : Nat} (hn0 : (A.heap n0).isSome = true) (hk : ops[k]? = some o) (hok : opOk P o.op = true) (h : aopsS P (tiOf P) n0 (ops.toList.map (·.dst)) K (o :: l) A) :
    ∃ e, YieldsS P n0 ops o A e ∧ aopsS P (tiOf P) n0 (ops.toList.map (·.dst)) K l (e.app o.dst A) := by
  have yes : wantB ops o A = some true → aopS P (tiOf P) n0 o.dst o.op (aopsS P (tiOf P) n0 (ops.toList.map (·.dst)) K l) A → ∃ e, YieldsS P n0 ops o A e ∧ aopsS P (tiOf P) n0 (ops.toList.map (·.dst)) K l (e.app o.dst A) := by
    intro hw h
    obtain ⟨e, hk, he⟩ := aopS_eff hn0 hok h
    refine ⟨e, ?_, hk⟩
    rcases he with ⟨av, rfl, hq⟩ | ⟨av, hp, rfl, hT, ht⟩
    · exact .inl ⟨hw, hq⟩
    · exact ⟨hw, hT, ht⟩
  have no : wantB ops o A = some false → aopsS P (tiOf P) n0 (ops.toList.map (·.dst)) K l (A.put o.dst (.tup [])) → ∃ e, YieldsS P n0 ops o A e ∧ aopsS P (tiOf P) n0 (ops.toList.map (·.dst)) K l (e.app o.dst A) :=
    fun hw h => ⟨.q (.tup []), .inr ⟨hw, rfl⟩, h⟩
  simp only [aopsS] at h
  cases hw : awant (ops.toList.map (·.dst)) o.guard A with
  | yes => rw [hw] at h; exact yes (by unfold wantB; rw [hw]) h
  | no => rw [hw] at h; exact no (by unfold wantB; rw [hw]) h
  | bad => rw [hw] at h; exact h.elim
  | ask t b want =>
    rw [hw] at h
    have ht : A.env t = .bool b := by
      unfold awant awantD at hw
      split at hw
      · cases hw
      · split at hw
        · rename_i t' _
          cases he : A.env t' <;> rw [he] at hw <;> simp only [awantV] at hw <;> cases hw
          exact he
        · cases hw
    have hwb : wantB ops o A = some (b == want) := by unfold wantB; rw [hw]
    simp only [awhen] at h
    have hp := put_same ht
    cases b <;> cases want <;> simp only [aask, askip] at h <;> rw [hp] at h
    · exact yes hwb h
    · exact no hwb h
    · exact no hwb h
    · exact yes hwb h

theorem anyS_lex {K : AS → Prop} (hc : tchainB ops = true) (hok : ∀ o ∈ ops.toList, opOk P o.op = true) : ∀ (l : List Oper) (k : Nat) (listed : Array Bool) (A : AS), (∀ j, l[j]? = ops[k + j]?) → Closed .any ops k listed → (A.heap n0).isSome = true →
    Region.lexFrom .any ops l.length k listed = true → aopsS P (tiOf P) n0 (ops.toList.map (·.dst)) K l A → anyS P n0 .any ops K l.length listed A
  | [], _, _, _, _, _, _, hB, h => ⟨by simpa [Region.lexFrom] using hB, h⟩
  | o :: l, k, listed, A, hl, inv, hn0, hB, h => by
    have h0 : ops[k]? = some o := by simpa using (hl 0).symm
    simp only [List.length_cons, Region.lexFrom, Bool.and_eq_true] at hB
    obtain ⟨⟨hr, hf⟩, hB'⟩ := hB
    have hr' : k ∈ Region.ready .any ops listed := by simpa using hr
    have hmem : o ∈ ops.toList := by rw [← Array.getElem?_toList] at h0; exact List.mem_of_getElem? h0
    obtain ⟨e, hy, hK⟩ := aopsS_next hn0 h0 (hok o hmem) h
    have hn1 : ((e.app o.dst A).heap n0).isSome = true := by
      have := (YieldsS.off (d := o.dst) hy).1.2 (by intro e; rw [e] at hn0; cases hn0)
      exact Option.isSome_iff_ne_none.2 this
    have inv' : Closed .any ops (k + 1) (listed.setIfInBounds k true) := by
      obtain ⟨h1, h2, h3⟩ := inv.set hr'
      refine ⟨h1, h2, fun j hj => ?_⟩
      by_cases hjk : j = k
      · subst hjk
        have hlt : j < listed.size := by rw [inv.size]; exact (Array.getElem?_eq_some_iff.1 h0).1
        simp [hlt]
      · exact h3 j (by omega)
    exact anyS_first hc h0 l.length listed A inv (Region.free_spec h0 hf) hr' hy
      (anyS_lex hc hok l (k + 1) _ _ (fun j => by have := hl (j + 1); simpa [Nat.add_assoc, Nat.add_comm 1 j] using this) inv' hn1 hB' hK)

theorem wpAny_of_anyS {K : AS → Prop} {Q' : Exit → Act → World → Prop} {C0 : Ctx} {A0 : AS} (hd : ∀ o ∈ ops.toList, ∀ d, o.dst = some d → d < A0.N)
    (hL : ∀ A C a, K A → Rel C A a → A.N = A0.N → Step C0 A0.heap A0.nx C A.heap A.nx → Q' .normal a C.w) :
    ∀ (f : Nat) (listed : Array Bool) (A : AS) (C : Ctx) (a : Act), anyS P n0 .any ops K f listed A → Rel C A a → A.N = A0.N → Step C0 A0.heap A0.nx C A.heap A.nx → wpAny P .any ops Q' f listed a C.w
  | 0, listed, A, C, a, h, r, hN, hs => ⟨h.1, hL A C a h.2 r hN hs⟩
  | f + 1, listed, A, C, a, h, r, hN, hs => by
    refine ⟨fun h0 => absurd h0 h.1, fun i hi => ?_⟩
    have hq := h.2 i hi
    unfold wpOp
    split
    · rename_i ho
      unfold sOp at hq
      rw [ho] at hq
      exact wpAny_of_anyS hd hL f _ A C a hq r hN hs
    · rename_i o ho
      have hdo : ∀ d, o.dst = some d → d < A.N := fun d hdd => by rw [hN]; exact hd o (by rw [← Array.getElem?_toList] at ho; exact List.mem_of_getElem? ho) d hdd
      unfold sOp at hq
      rw [ho] at hq
      obtain ⟨e, hy, hk⟩ := hq
      have hwc : ∀ b, wantB ops o A = some b → Region.wanted o (yielded ops a.tmps) = b := by
        intro b hb
        have := wanted_of ops o r
        unfold wantB at hb
        split at hb <;> rename_i hw <;> rw [hw] at this <;> simp only at this <;> cases hb
        · exact this
        · exact this
        · exact this.2
      have hgo : (OpWp P o A fun A' => A' = e.app o.dst A) → o.wp P a C.w (wpAny P .any ops Q' f (listed.setIfInBounds i true)) Q' := by
        intro hop
        refine hop C a r _ _ fun A' C' a' hA' r' hst hN' => ?_
        subst hA'
        exact wpAny_of_anyS hd hL f _ _ C' a' hk r' (hN'.trans hN) (hs.trans hst)
      cases e with
      | q av =>
        rcases hy with ⟨hw, hq'⟩ | ⟨hw, rfl⟩
        · rw [if_pos (hwc true hw)]
          exact .inl (hgo (hq' A (fun _ _ => rfl) (Off.refl _) rfl hdo))
        · rw [if_neg (by rw [hwc false hw]; simp)]
          obtain ⟨e1, e2, e3⟩ := put_heap A o.dst (.tup [])
          exact wpAny_of_anyS hd hL f _ _ C _ hk (Rel.put (av := .tup []) (v := undef) r ⟨[], rfl, rfl⟩ _ hdo) (e3.trans hN) (by show Step C0 A0.heap A0.nx C (A.put o.dst (.tup [])).heap (A.put o.dst (.tup [])).nx; rw [e1, e2]; exact hs)
      | t av hp =>
        rw [if_pos (hwc true hy.1)]
        exact .inl (hgo (hy.2.2.1 A (fun _ _ => rfl) rfl rfl hdo))
end
end Go.Abs
