/- Operations that make or turn memory: their verification conditions are sound. -/
import Derived.Test.YtogdmmccbeipkaaGreatAbsQuiet
import Derived.Laws.CopyRow
import Derived.Laws.MakeOwn
set_option linter.all false
namespace Go.Abs
open Go

section
variable {P : Program} {C : Ctx} {h : Heap} {nx : Nat}

theorem VE_of_Vs : ∀ (es : List Cells) (vs : List Value) (b off k : Nat), (∀ e ∈ es, e.length = k) → Vs C h nx es.flatten vs → (∀ j v, vs[j]? = some v → C.w.cell? ⟨b, off + j, none⟩ = some v) → VE C h nx b off k es := by
  intro es
  induction es with
  | nil => intros; trivial
  | cons e es ih =>
    intro vs b off k hl hv hc
    have he : e.length = k := hl e (List.mem_cons_self ..)
    have h1 := Vs_take e.length _ _ hv
    have h2 := Vs_drop e.length _ _ hv
    rw [List.flatten_cons, List.take_left] at h1
    rw [List.flatten_cons, List.drop_left] at h2
    refine ⟨he, ?_, ih _ b (off + k) k (fun e' he' => hl e' (List.mem_cons_of_mem _ he')) h2 fun j v hj => ?_⟩
    · have gen : ∀ (cs : Cells) (us : List Value) (o : Nat), Vs C h nx cs us → (∀ j v, us[j]? = some v → C.w.cell? ⟨b, o + j, none⟩ = some v) → VC C h nx b o cs := by
        intro cs
        induction cs with
        | nil => intros; trivial
        | cons c cs ihc =>
          intro us o ⟨v, r, hu, hv1, hv2⟩ hcell
          subst hu
          refine ⟨⟨v, by simpa using hcell 0 v rfl, hv1⟩, ihc r (o + 1) hv2 fun j u hj => ?_⟩
          have := hcell (j + 1) u (by simpa using hj)
          rw [show o + 1 + j = o + (j + 1) by omega]; exact this
      exact gen e _ off h1 fun j v hj => hc j v (by
        rw [List.getElem?_take] at hj
        split at hj
        · exact hj
        · cases hj)
    · have := hc (e.length + j) v (by rw [List.getElem?_drop] at hj; exact hj)
      rw [show off + k + j = off + (e.length + j) by omega]; exact this

theorem VE_flat : ∀ (es : List Cells) (b off k : Nat), VE C h nx b off k es → ∃ vs, vs.length = es.length * k ∧ Vs C h nx es.flatten vs ∧ ∀ j v, vs[j]? = some v → C.w.cell? ⟨b, off + j, none⟩ = some v
  | [], _, _, _, _ => ⟨[], by simp, rfl, fun j v hj => by simp at hj⟩
  | e :: es, b, off, k, ⟨h1, h2, h3⟩ => by
    obtain ⟨vs, hl, hv, hc⟩ := V_cells_le e b off h2
    obtain ⟨us, hl', hv', hc'⟩ := VE_flat es b (off + k) k h3
    refine ⟨vs ++ us, by simp [hl, hl', h1, Nat.succ_mul]; omega, Vs_append _ _ _ _ hv hv', fun j v hj => ?_⟩
    rw [List.getElem?_append] at hj
    split at hj
    · exact hc j v hj
    · have := hc' _ v hj
      rw [show off + k + (j - vs.length) = off + j by omega] at this
      exact this

theorem flatten_length {α : Type} {k : Nat} : ∀ (es : List (List α)), (∀ e ∈ es, e.length = k) → es.flatten.length = es.length * k
  | [], _ => by simp
  | e :: es, hl => by
    simp [flatten_length es fun e' he' => hl e' (List.mem_cons_of_mem _ he'), hl e (List.mem_cons_self ..), Nat.succ_mul]; omega

theorem flatten_set {k : Nat} {new : Cells} {j : Nat} : ∀ (es : List Cells) (i : Nat) (e : Cells), (∀ e ∈ es, e.length = k) → es[i]? = some e → j + new.length ≤ k → (es.set i (aspl e j new)).flatten = aspl es.flatten (i * k + j) new
  | [], i, e, _, he, _ => by simp at he
  | e0 :: es, 0, e, hl, he, hj => by
    simp at he
    subst he
    have h0 := hl e0 (List.mem_cons_self ..)
    simp only [List.set_cons_zero, List.flatten_cons, aspl, Nat.zero_mul, Nat.zero_add]
    rw [List.take_append_of_le_length (by omega), List.drop_append_of_le_length (by omega)]
    simp
  | e0 :: es, i + 1, e, hl, he, hj => by
    simp only [List.getElem?_cons_succ] at he
    have h0 := hl e0 (List.mem_cons_self ..)
    have ih := flatten_set es i e (fun e' he' => hl e' (List.mem_cons_of_mem _ he')) he hj
    rw [List.set_cons_succ, List.flatten_cons, ih, List.flatten_cons]
    simp only [aspl]
    rw [show (i + 1) * k + j = e0.length + (i * k + j) by rw [Nat.succ_mul]; omega]
    rw [List.take_length_add_append, show e0.length + (i * k + j) + new.length = e0.length + (i * k + j + new.length) by omega, List.drop_length_add_append]
    simp

theorem HeapRel.lt (H : HeapRel C h nx) {n b : Nat} (hn : h n ≠ none) (hb : C.β n = some b) : b < C.w.heap.size := by
  cases hh : h n with
  | none => exact absurd hh hn
  | some bl =>
    obtain ⟨k, es⟩ := bl
    rcases (H.blk n k es hh).2 with ⟨h1, _⟩ | ⟨b', c, ty, h1, h2, _⟩
    · rw [hb] at h1; cases h1
    · rw [hb] at h1; cases h1
      exact (Array.getElem?_eq_some_iff.1 h2).1

/-- A new block, for a new name or for one that grows. -/
theorem new_block (H : HeapRel C h nx) {n nx' k : Nat} {es : List Cells} {vs : List Value} {cs : Array Value} {ty : Nat} {w' : World}
    (hn : (n = nx ∧ nx' = nx + 1) ∨ (n < nx ∧ nx' = nx ∧ ∃ es0, h n = some ⟨k, es0⟩ ∧ es0.length < es.length))
    (hk : 0 < k) (hl : ∀ e ∈ es, e.length = k) (hv : Vs C h nx es.flatten vs) (hcs : ∀ (j : Nat) (v : Value), vs[j]? = some v → cs[j]? = some v)
    (hw : w'.heap = C.w.heap.push (.cells cs ty)) (hos : w'.os = C.w.os) (hta : w'.tape = C.w.tape) (hou : w'.output = C.w.output ∧ C.w.drawn ≤ w'.drawn) :
    HeapRel ⟨C.I, upd C.β n (some C.w.heap.size), w'⟩ (upd h n (some ⟨k, es⟩)) nx' ∧ Step C h nx ⟨C.I, upd C.β n (some C.w.heap.size), w'⟩ (upd h n (some ⟨k, es⟩)) nx' := by
  have hnx : n < nx' ∧ nx ≤ nx' := by rcases hn with ⟨h1, h2⟩ | ⟨h1, h2, _⟩ <;> omega
  have hnew : w'.heap[C.w.heap.size]? = some (.cells cs ty) := by rw [hw]; simp
  have hold : ∀ b, b < C.w.heap.size → w'.heap[b]? = C.w.heap[b]? := fun b hb => by rw [hw, Array.getElem?_push, if_neg (by omega)]
  have hst : Step C h nx ⟨C.I, upd C.β n (some C.w.heap.size), w'⟩ (upd h n (some ⟨k, es⟩)) nx' := by
    refine ⟨hnx.2, fun b hb => hb, fun b hb => .inl hb, fun m hm k' es' he => ?_, fun b ⟨m, hm1, hm2⟩ => ?_, hos, hta, hou, by rw [hw]; simp, fun b hb _ => hold b hb, fun b hb => by simp only [bsize, hold b hb]⟩
    · by_cases hmn : m = n
      · subst hmn
        rcases hn with ⟨h1, _⟩ | ⟨_, _, es0, h1, h2⟩
        · omega
        · simp only [upd, if_true, Option.some.injEq, Blk.mk.injEq] at he
          obtain ⟨rfl, rfl⟩ := he
          exact ⟨es0, h1, by omega, fun e => by omega⟩
      · simp only [upd, if_neg hmn] at he
        exact ⟨es', he, Nat.le_refl _, fun _ => by simp [upd, hmn]⟩
    · by_cases hmn : m = n
      · subst hmn
        simp only [upd, if_true, Option.some.injEq] at hm2
        exact .inr (by omega)
      · simp only [upd, if_neg hmn] at hm1 hm2
        exact .inl ⟨m, hm1, hm2⟩
  have hmv := hst.moves H
  refine ⟨⟨fun m hm => ?_, fun m k' es' he => ?_, fun m m' b h1 h2 h3 h4 => ?_, fun b hb => ?_⟩, hst⟩
  · have : m ≠ n := by omega
    simp only [upd, if_neg this]
    exact H.new m (by omega)
  · by_cases hmn : m = n
    · subst hmn
      simp only [upd, if_true, Option.some.injEq, Blk.mk.injEq] at he
      obtain ⟨rfl, rfl⟩ := he
      refine ⟨hk, .inr ⟨_, cs, ty, by simp [upd], hnew, fun hI => ?_, VE_of_Vs _ vs _ _ _ hl (Vs_moves hmv _ _ hv) fun j v hj => ?_⟩⟩
      · have := H.old _ hI; omega
      · simp only [Nat.zero_add, World.cell?, hnew]
        simpa using hcs j v hj
    · simp only [upd, if_neg hmn] at he ⊢
      obtain ⟨h1, h2⟩ := H.blk m k' es' he
      refine ⟨h1, ?_⟩
      rcases h2 with h2 | ⟨b, c, ty', h3, h4, h5, h6⟩
      · exact .inl h2
      · have hb : b < C.w.heap.size := (Array.getElem?_eq_some_iff.1 h4).1
        exact .inr ⟨b, c, ty', h3, (hold b hb).trans h4, h5, VE_moves hmv _ _ _ _ (hold b hb) h6⟩
  · by_cases e1 : m = n <;> by_cases e2 : m' = n
    · omega
    · subst e1
      simp only [upd, if_true, if_neg e2, Option.some.injEq] at h2 h3 h4
      subst h3
      exact absurd (H.lt h2 h4) (by omega)
    · subst e2
      simp only [upd, if_true, if_neg e1, Option.some.injEq] at h1 h3 h4
      subst h4
      exact absurd (H.lt h1 h3) (by omega)
    · simp only [upd, if_neg e1, if_neg e2] at h1 h2 h3 h4
      exact H.inj m m' b h1 h2 h3 h4
  · have := H.old b hb
    rw [hw]
    simp
    omega

/-- A block of the call's own, laid over with other cells. -/
theorem set_block (H : HeapRel C h nx) {n k b : Nat} {es es' : List Cells} {vs : List Value} {cs cs' : Array Value} {ty : Nat} {w' : World}
    (hn : h n = some ⟨k, es⟩) (hβ : C.β n = some b) (hb : C.w.heap[b]? = some (.cells cs ty (0, 0)))
    (hle : es.length ≤ es'.length) (hl : ∀ e ∈ es', e.length = k) (hv : Vs C h nx es'.flatten vs) (hcs : ∀ (j : Nat) (v : Value), vs[j]? = some v → cs'[j]? = some v) (hsz : cs'.size = cs.size)
    (hw : w' = C.w.setRow b cs') :
    HeapRel ⟨C.I, C.β, w'⟩ (upd h n (some ⟨k, es'⟩)) nx ∧ Step C h nx ⟨C.I, C.β, w'⟩ (upd h n (some ⟨k, es'⟩)) nx := by
  have hnx : n < nx := by
    rcases Nat.lt_or_ge n nx with h1 | h1
    · exact h1
    · rw [H.new n h1] at hn; cases hn
  obtain ⟨hk, hblk⟩ := H.blk n k es hn
  have hI : ¬ C.I b := by
    rcases hblk with ⟨h1, _⟩ | ⟨b', _, _, h1, _, h2, _⟩
    · rw [hβ] at h1; cases h1
    · rw [hβ] at h1; cases h1; exact h2
  have hnew : w'.heap[b]? = some (.cells cs' ty (0, 0)) := by rw [hw]; exact setRow_heap _ _ _ _ _ _ hb
  have hold : ∀ m, m ≠ b → w'.heap[m]? = C.w.heap[m]? := fun m hm => by rw [hw]; exact setRow_other _ _ _ _ hm
  have hst : Step C h nx ⟨C.I, C.β, w'⟩ (upd h n (some ⟨k, es'⟩)) nx := by
    refine ⟨Nat.le_refl _, fun b hb => hb, fun b hb => .inl hb, fun m hm k' es1 he => ?_, fun b' ⟨m, hm1, hm2⟩ => .inl ?_, by rw [hw]; rfl, by rw [hw]; rfl, by rw [hw]; exact ⟨rfl, Nat.le_refl _⟩, by rw [hw]; simp [World.setRow], fun m _ hno => hold m fun e => hno ⟨n, by simp [hn], by rw [e]; exact hβ⟩, fun m hm => ?_⟩
    · by_cases hmn : m = n
      · subst hmn
        simp only [upd, if_true, Option.some.injEq, Blk.mk.injEq] at he
        obtain ⟨rfl, rfl⟩ := he
        exact ⟨es, hn, hle, fun _ => rfl⟩
      · simp only [upd, if_neg hmn] at he
        exact ⟨es1, he, Nat.le_refl _, fun _ => rfl⟩
    · by_cases hmn : m = n
      · subst hmn; exact ⟨m, by simp [hn], hm2⟩
      · simp only [upd, if_neg hmn] at hm1; exact ⟨m, hm1, hm2⟩
    · by_cases hmb : m = b
      · subst hmb; simp only [bsize, hnew, hb, hsz]
      · simp only [bsize, hold m hmb]
  have hmv := hst.moves H
  refine ⟨⟨fun m hm => ?_, fun m k' es1 he => ?_, fun m m' b' h1 h2 h3 h4 => ?_, fun b' hb' => ?_⟩, hst⟩
  · have : m ≠ n := by omega
    simp only [upd, if_neg this]; exact H.new m hm
  · by_cases hmn : m = n
    · subst hmn
      simp only [upd, if_true, Option.some.injEq, Blk.mk.injEq] at he
      obtain ⟨rfl, rfl⟩ := he
      refine ⟨hk, .inr ⟨b, cs', ty, hβ, hnew, hI, VE_of_Vs _ vs _ _ _ hl (Vs_moves hmv _ _ hv) fun j v hj => ?_⟩⟩
      simp only [Nat.zero_add, World.cell?, hnew]
      simpa using hcs j v hj
    · simp only [upd, if_neg hmn] at he
      obtain ⟨h1, h2⟩ := H.blk m k' es1 he
      refine ⟨h1, ?_⟩
      rcases h2 with h2 | ⟨b', c, ty', h3, h4, h5, h6⟩
      · exact .inl h2
      · have hne : b' ≠ b := fun e => hmn (H.inj m n b' (by simp [he]) (by simp [hn]) h3 (by rw [e]; exact hβ))
        exact .inr ⟨b', c, ty', h3, (hold b' hne).trans h4, h5, VE_moves hmv _ _ _ _ (hold b' hne) h6⟩
  · have f1 : h m ≠ none := by
      by_cases e : m = n
      · subst e; simp [hn]
      · simpa [upd, if_neg e] using h1
    have f2 : h m' ≠ none := by
      by_cases e : m' = n
      · subst e; simp [hn]
      · simpa [upd, if_neg e] using h2
    exact H.inj m m' b' f1 f2 h3 h4
  · have := H.old b' hb'
    rw [hw]; simpa [World.setRow] using this

/-- What one operation comes to: whatever follows, asked in every state that it may leave, holds. -/
def OpWp (P : Program) (o : Oper) (A : AS) (K : AS → Prop) : Prop :=
  ∀ (C : Ctx) (a : Act), Rel C A a → ∀ (next : Act → World → Prop) (Q : Exit → Act → World → Prop),
    (∀ A' C' a', K A' → Rel C' A' a' → Step C A.heap A.nx C' A'.heap A'.nx → A'.N = A.N → next a' C'.w) → o.wp P a C.w next Q

theorem Rel.put {A : AS} {a : Act} (r : Rel C A a) {av : AV} {v : Value} (hv : V C A.heap A.nx av v) (dst : Option Tmp) (hd : ∀ d, dst = some d → d < A.N) : Rel C (A.put dst av) (a.put dst v) := by
  cases dst with
  | none => exact r
  | some d =>
    have hd' := hd d rfl
    refine ⟨r.defers, by simp [Act.put, AS.put, r.size], fun t => ?_, r.heap⟩
    simp only [AS.put, Act.put, upd, Array.getD_eq_getD_getElem?, Array.getElem?_setIfInBounds]
    by_cases htd : t = d
    · subst htd
      rw [if_pos rfl, if_pos rfl, if_pos (by rw [r.size]; exact hd')]
      simpa using hv
    · rw [if_neg htd, if_neg (Ne.symm htd)]
      have := r.env t
      simpa [Array.getD_eq_getD_getElem?] using this

/-- The concrete side has gone on: what the slots hold still means the same. -/
theorem Rel.step {A : AS} {a : Act} {C' : Ctx} {h' : Heap} {nx' : Nat} (r : Rel C A a) (hs : Step C A.heap A.nx C' h' nx') (H : HeapRel C' h' nx') : Rel C' { A with heap := h', nx := nx' } a :=
  ⟨r.defers, r.size, fun t => V_moves (hs.moves r.heap) _ _ (r.env t), H⟩

theorem upon_of_value {o : Oper} {a : Act} {w w' : World} {v : Value} {next : Act → World → Prop} {Q : Exit → Act → World → Prop}
    (hr : (execOp a.eval o).run P w = .ok (.value v) w') (hn : next (a.put o.dst v) w') : o.wp P a w next Q := by
  unfold Oper.wp
  rw [hr]
  exact hn

theorem OpWp.of_quiet {o : Oper} {A : AS} {K : AS → Prop} {av : AV} (hq : Quiet P o A av) (hd : ∀ d, o.dst = some d → d < A.N) (hk : K (A.put o.dst av)) : OpWp P o A K := by
  intro C a r next Q hnext
  obtain ⟨v, hr, hV⟩ := hq C a r.heap (fun x _ => V_ev r.env x)
  have hA : (A.put o.dst av).heap = A.heap ∧ (A.put o.dst av).nx = A.nx := by cases o.dst <;> exact ⟨rfl, rfl⟩
  exact upon_of_value hr (hnext _ C _ hk (r.put hV _ hd) (by rw [hA.1, hA.2]; exact Step.refl) (by cases o.dst <;> rfl))

/-- A value laid into a new block, its address into the slot. -/
theorem OpWp.of_new {o : Oper} {A : AS} {K : AS → Prop} {k : Nat} {es : List Cells} {av : AV} (hd : ∀ d, o.dst = some d → d < A.N)
    (hk : 0 < k) (hl : ∀ e ∈ es, e.length = k) (hK : K ((A.alloc ⟨k, es⟩).put o.dst av))
    (hrun : ∀ C a, Rel C A a → ∃ (v : Value) (vs : List Value) (cs : Array Value) (ty : Nat), (execOp a.eval o).run P C.w = .ok (.value v) (C.w.alloc (.cells cs ty)) ∧ Vs C A.heap A.nx es.flatten vs ∧
      (∀ (j : Nat) (u : Value), vs[j]? = some u → cs[j]? = some u) ∧ V ⟨C.I, upd C.β A.nx (some C.w.heap.size), C.w.alloc (.cells cs ty)⟩ (upd A.heap A.nx (some ⟨k, es⟩)) (A.nx + 1) av v) : OpWp P o A K := by
  intro C a r next Q hnext
  obtain ⟨v, vs, cs, ty, hr, hvs, hcs, hV⟩ := hrun C a r
  obtain ⟨H', hst⟩ := new_block (w' := C.w.alloc (.cells cs ty)) r.heap (.inl ⟨rfl, rfl⟩) hk hl hvs hcs rfl rfl rfl ⟨rfl, Nat.le_refl _⟩
  refine upon_of_value hr (hnext _ _ _ hK (Rel.put (A := A.alloc ⟨k, es⟩) (r.step hst H') hV _ hd) ?_ (by cases o.dst <;> rfl))
  cases o.dst <;> exact hst

theorem V_new_ptr {β : Nat → Option Nat} {I : Nat → Prop} {w : World} {n b k : Nat} {cs : Cells} : V ⟨I, upd β n (some b), w⟩ (upd h n (some ⟨k, [cs]⟩)) (n + 1) (.ptr n 1 0 0) (.pointer (some ⟨b, 0, none⟩)) := by
  refine ⟨by omega, ⟨_, rfl⟩, fun k' es he => ?_⟩
  simp only [upd, if_true, Option.some.injEq, Blk.mk.injEq] at he
  obtain ⟨rfl, rfl⟩ := he
  exact ⟨by simp, fun _ => ⟨b, by simp [upd], by simp⟩⟩

theorem V_new_sl {β : Nat → Option Nat} {I : Nat → Prop} {w : World} {n nx' b k m c : Nat} {es : List Cells} (hn : n < nx') (hm : m = es.length) (hmc : m ≤ c) (hc : c * k ≤ bsize w b) :
    V ⟨I, upd β n (some b), w⟩ (upd h n (some ⟨k, es⟩)) nx' (.sl n m 0 m) (.slice (some ⟨b, 0, none⟩) m c) := by
  refine ⟨hn, ⟨_, _, rfl⟩, fun k' es' he => ?_⟩
  simp only [upd, if_true, Option.some.injEq, Blk.mk.injEq] at he
  obtain ⟨rfl, rfl⟩ := he
  exact ⟨by omega, fun _ => ⟨by omega, .inr ⟨b, c, 0, by simp [upd], rfl, by simp, hmc, by simpa using hc⟩⟩⟩

theorem bsize_alloc (w : World) (cs : Array Value) (ty : Nat) : bsize (w.alloc (.cells cs ty)) w.heap.size = cs.size := by unfold bsize; rw [heap_alloc_new w _]

theorem fill_rows (size : Nat) : ∀ (vs : List Value) (s : Nat) (cs : Array Value), (∀ v ∈ vs, v.cells.size = size) → (s + vs.length) * size ≤ cs.size →
    Instr.fill (fun i => some (i * size, size)) cs ((List.range' s vs.length).zip vs) = some ⟨cs.toList.take (s * size) ++ ((vs.map fun v => v.cells.toList).flatten ++ cs.toList.drop ((s + vs.length) * size))⟩
  | [], s, cs, _, _ => by simp [Instr.fill]
  | v :: vs, s, cs, hsz, hle => by
    have h1 := hsz v (List.mem_cons_self ..)
    simp only [List.length_cons] at hle
    have hmul : (s + (vs.length + 1)) * size = s * size + size + vs.length * size := by rw [Nat.add_mul, Nat.succ_mul]; omega
    rw [hmul] at hle
    simp only [List.length_cons, List.range'_succ, List.zip_cons_cons, Instr.fill]
    rw [if_neg (by simp; omega)]
    have hz := fold_set v.cells.toList 0 cs (s * size) (by simp; omega)
    simp only [Nat.add_zero, Array.length_toList] at hz
    have hz' : v.cells.zipIdx.foldl (fun (cs : Array Value) (p : Value × Nat) => cs.setIfInBounds (s * size + p.2) p.1) cs = ⟨cs.toList.take (s * size) ++ (v.cells.toList ++ cs.toList.drop (s * size + v.cells.size))⟩ := by
      apply Array.ext'
      rw [← Array.foldl_toList, Array.toList_zipIdx]
      exact hz
    rw [hz', fill_rows size vs (s + 1) _ (fun u hu => hsz u (List.mem_cons_of_mem _ hu)) (by
      have : (s + 1 + vs.length) * size = s * size + size + vs.length * size := by rw [Nat.add_mul, Nat.add_mul]; omega
      rw [this]
      simp only [List.size_toArray, List.length_append, List.length_take, List.length_drop, Array.length_toList]
      omega)]
    simp only [Option.some.injEq, List.map_cons, List.flatten_cons, Array.mk.injEq]
    have hvl : v.cells.toList.length = size := by rw [Array.length_toList]; exact h1
    have e1 : (s + 1) * size = s * size + v.cells.toList.length := by rw [Nat.succ_mul, hvl]
    have e2 : (s + 1 + vs.length) * size = s * size + (v.cells.toList.length + vs.length * size) := by rw [Nat.add_mul, Nat.succ_mul, hvl]; omega
    have e3 : (s + (vs.length + 1)) * size = s * size + (v.cells.toList.length + vs.length * size) := by rw [hmul, hvl]; omega
    have e4 : (cs.toList.take (s * size)).length = s * size := by rw [List.length_take, Array.length_toList]; omega
    rw [e1, e2, e3]
    rw [List.take_append, List.drop_append, e4]
    have e5 : (cs.toList.take (s * size)).take (s * size + v.cells.toList.length) = cs.toList.take (s * size) := by rw [List.take_of_length_le (by omega)]
    have e6 : (cs.toList.take (s * size)).drop (s * size + (v.cells.toList.length + vs.length * size)) = [] := by rw [List.drop_of_length_le (by omega)]
    rw [e5, e6, show s * size + v.cells.toList.length - s * size = v.cells.toList.length by omega, show s * size + (v.cells.toList.length + vs.length * size) - s * size = v.cells.toList.length + vs.length * size by omega]
    rw [List.take_left, List.drop_length_add_append]
    simp only [List.nil_append, List.append_assoc, List.drop_drop, Array.length_toList]
    congr 4
    omega
end
end Go.Abs
