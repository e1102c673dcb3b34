/- New slices: the first elements of what lies there. -/
import Derived.Test.YtogdmmccbeipkaaGreatAbsSort
set_option linter.all false
namespace Go.Abs
open Go
section
variable {P : Program} {C : Ctx} {h : Heap} {nx : Nat}

/-- What one new slice is, the first elements of what lies there, where all else is forgotten. -/
theorem one_new2 {C0 C' : Ctx} {h0 : Heap} {n0 k : Nat} {n : Nat} {v : Value} {es ys : List Cells} (hk : 0 < k) (hes : AV.pureE es = true) (H' : HeapRel C' h0 n0) (hst : Step C0 (Hp []) 0 C' h0 n0)
    (hno : ∀ b, ¬ owned C0 (Hp []) b) (hV : V C' h0 n0 (.sl n ys.length 0 es.length) v) (hn : h0 n = some ⟨k, ys⟩) (ht : ys.take es.length = es) :
    ∃ β, HeapRel ⟨C'.I, β, C'.w⟩ (Hp [(0, ⟨k, es⟩)]) 1 ∧ Step C0 (Hp []) 0 ⟨C'.I, β, C'.w⟩ (Hp [(0, ⟨k, es⟩)]) 1 ∧ V ⟨C'.I, β, C'.w⟩ (Hp [(0, ⟨k, es⟩)]) 1 (.sl 0 es.length 0 es.length) v := by
  have key : ∀ β0 : Option Nat, ((β0 = none ∧ es = []) ∨ ∃ b c ty, β0 = some b ∧ C'.w.heap[b]? = some (.cells c ty (0, 0)) ∧ ¬ C'.I b ∧ VE C' h0 n0 b 0 k es ∧ C0.w.heap.size ≤ b) →
      HeapRel ⟨C'.I, fun n => if n = 0 then β0 else none, C'.w⟩ (Hp [(0, ⟨k, es⟩)]) 1 ∧ Step C0 (Hp []) 0 ⟨C'.I, fun n => if n = 0 then β0 else none, C'.w⟩ (Hp [(0, ⟨k, es⟩)]) 1 := by
    intro β0 hβ0
    refine ⟨⟨fun n hn => ?_, fun n k' es' he => ?_, fun n m b h1 h2 h3 h4 => ?_, H'.old⟩, ⟨Nat.zero_le _, hst.imm, hst.imm', fun n hn => absurd hn (Nat.not_lt_zero n), fun b ⟨n, h1, h2⟩ => ?_, hst.os, hst.tape, hst.output, hst.size, hst.frame, hst.sizes⟩⟩
    · have : n ≠ 0 := by omega
      simp [Hp, this]
    · by_cases hn : n = 0
      · subst hn
        simp only [Hp, if_true, Option.some.injEq, Blk.mk.injEq] at he
        obtain ⟨rfl, rfl⟩ := he
        refine ⟨hk, ?_⟩
        rcases hβ0 with ⟨h1, h2⟩ | ⟨b, c, ty, h1, h2, h3, h4, _⟩
        · exact .inl ⟨by simp [h1], h2⟩
        · exact .inr ⟨b, c, ty, by simp [h1], h2, h3, VE_pure (C := C') (C' := ⟨C'.I, fun n => if n = 0 then β0 else none, C'.w⟩) (fun b hb => ⟨hb, rfl⟩) _ _ _ _ hes rfl h4⟩
      · simp [Hp, hn] at he
    · have f : ∀ n, Hp [(0, ⟨k, es⟩)] n ≠ none → n = 0 := fun n hn => by
        by_cases e : n = 0
        · exact e
        · simp [Hp, e] at hn
      rw [f n h1, f m h2]
    · have hn : n = 0 := by
        by_cases e : n = 0
        · exact e
        · simp [Hp, e] at h1
      subst hn
      simp only [if_true] at h2
      rcases hβ0 with ⟨h3, _⟩ | ⟨b', c, ty, h3, _, _, _, h5⟩
      · rw [h3] at h2; cases h2
      · rw [h3] at h2; cases h2; exact .inr h5
  have hle : es.length ≤ ys.length := by
    have := congrArg List.length ht
    rw [List.length_take] at this; omega
  obtain ⟨_, hs, hv⟩ := hV
  obtain ⟨_, hv⟩ := hv k ys hn
  obtain ⟨_, hv⟩ := hv rfl
  obtain ⟨_, hblk⟩ := H'.blk n k ys hn
  have hβ0 : (C'.β n = none ∧ es = []) ∨ ∃ b c ty, C'.β n = some b ∧ C'.w.heap[b]? = some (.cells c ty (0, 0)) ∧ ¬ C'.I b ∧ VE C' h0 n0 b 0 k es ∧ C0.w.heap.size ≤ b := by
    rcases hblk with ⟨h1, h2⟩ | ⟨b, c, ty, h1, h2, h3, h4⟩
    · refine .inl ⟨h1, ?_⟩
      rw [← ht, h2]; simp
    · refine .inr ⟨b, c, ty, h1, h2, h3, ht ▸ VE_take es.length _ _ _ _ h4, ?_⟩
      rcases hst.owned b ⟨n, by simp [hn], h1⟩ with h5 | h5
      · exact absurd h5 (hno b)
      · exact h5
  obtain ⟨h1, h2⟩ := key _ hβ0
  refine ⟨_, h1, h2, Nat.zero_lt_one, hs, fun k' es' he => ?_⟩
  simp only [Hp, if_true, Option.some.injEq, Blk.mk.injEq] at he
  obtain ⟨rfl, rfl⟩ := he
  exact ⟨Nat.le_refl _, fun _ => ⟨by omega, by simpa using hv⟩⟩

/-- The same of the first elements of what lies there. -/
theorem CallsF.of_pure2 {f : FuncId} {args : List AV} {k : Nat} {es : List Cells} (hk : 0 < k) (hes : AV.pureE es = true) (hp : AV.pureL args = true)
    (hc : CallsA P f args (Hp []) 0 fun r h0 _ => ∃ n ys, (r = .sl n ys.length 0 es.length ∧ h0 n = some ⟨k, ys⟩) ∧ ys.take es.length = es) (h : Heap) (nx : Nat) : CallsF P f args h nx k es := by
  refine ⟨hc.1, fun C vs H hv => ?_⟩
  have H0 : HeapRel ⟨C.I, fun _ => none, C.w⟩ (Hp []) 0 := ⟨fun _ _ => rfl, fun n k es he => (by cases he), fun n m b h1 => absurd rfl h1, H.old⟩
  have hv0 : Vs ⟨C.I, fun _ => none, C.w⟩ (Hp []) 0 args vs := Vs_pure (C := C) (C' := ⟨C.I, fun _ => none, C.w⟩) (fun b hb => ⟨hb, rfl⟩) args vs hp hv
  refine (hc.2 ⟨C.I, fun _ => none, C.w⟩ vs H0 hv0).mono fun e w' ⟨r, h0, n0, C', v, he, hr, hV, H', hst, hw⟩ => ?_
  obtain ⟨n, ys, ⟨rfl, hn⟩, ht⟩ := hr
  obtain ⟨β, H1, hst1, hV1⟩ := one_new2 hk hes H' hst (fun b ⟨n, h1, _⟩ => h1 rfl) hV hn ht
  have hI' : ∀ b, C'.I b → C.I b ∨ (C.w.heap.size ≤ b ∧ C'.I b) := fun b hb => by
    rcases hst.imm' b hb with h1 | h1 | ⟨n, h1, _⟩
    · exact .inl h1
    · exact .inr ⟨h1, hb⟩
    · exact absurd rfl h1
  obtain ⟨H2, hst2⟩ := shift_core (I2 := C'.I) H H1 hst1 (fun b hb => hst.imm b hb) hI' (fun _ _ _ _ _ _ => .inl fun _ hb => hb)
  have hV2 := V_shift (C := C) (C' := ⟨C'.I, β, C'.w⟩) (nx := nx) (h := h) (I2 := C'.I) (fun _ hb => hb) _ v hV1
  rw [glue_one H hes] at H2 hst2 hV2
  exact ⟨_, _, _, _, v, he, ⟨rfl, rfl, rfl⟩, hV2, H2, hst2, hw⟩


/-- What a name holds is told in other words. -/
theorem recell (H : HeapRel C h nx) {m k : Nat} {es es' : List Cells} (hm : h m = some ⟨k, es⟩) (hl : es'.length = es.length) (hV : ∀ b off, VE C h nx b off k es → VE C h nx b off k es') :
    HeapRel C (upd h m (some ⟨k, es'⟩)) nx ∧ Step C h nx C (upd h m (some ⟨k, es'⟩)) nx := by
  have hnx : m < nx := by
    rcases Nat.lt_or_ge m nx with h1 | h1
    · exact h1
    · rw [H.new m h1] at hm; cases hm
  have hne : ∀ n, upd h m (some ⟨k, es'⟩) n ≠ none → h n ≠ none := fun n h1 => by
    by_cases e : n = m
    · subst e; simp [hm]
    · simpa [upd, e] using h1
  have hst : Step C h nx C (upd h m (some ⟨k, es'⟩)) nx := by
    refine ⟨Nat.le_refl _, fun b hb => hb, fun b hb => .inl hb, fun n hn k' es1 he => ?_, fun b ⟨n, h1, h2⟩ => .inl ⟨n, hne n h1, h2⟩, rfl, rfl, ⟨rfl, Nat.le_refl _⟩, Nat.le_refl _, fun _ _ _ => rfl, fun _ _ => rfl⟩
    by_cases e : n = m
    · subst e
      simp only [upd, if_true, Option.some.injEq, Blk.mk.injEq] at he
      obtain ⟨rfl, rfl⟩ := he
      exact ⟨es, hm, by omega, fun _ => rfl⟩
    · simp only [upd, if_neg e] at he
      exact ⟨es1, he, Nat.le_refl _, fun _ => rfl⟩
  have hmv := hst.moves H
  refine ⟨⟨fun n hn => ?_, fun n k' es1 he => ?_, fun n n' b h1 h2 h3 h4 => H.inj n n' b (hne n h1) (hne n' h2) h3 h4, H.old⟩, hst⟩
  · have : n ≠ m := by omega
    simp only [upd, if_neg this]; exact H.new n hn
  · by_cases e : n = m
    · subst e
      simp only [upd, if_true, Option.some.injEq, Blk.mk.injEq] at he
      obtain ⟨rfl, rfl⟩ := he
      obtain ⟨h1, h2⟩ := H.blk n k es hm
      refine ⟨h1, ?_⟩
      rcases h2 with ⟨h2, h3⟩ | ⟨b, c, ty, h3, h4, h5, h6⟩
      · refine .inl ⟨h2, List.eq_nil_of_length_eq_zero ?_⟩
        rw [hl, h3]; rfl
      · exact .inr ⟨b, c, ty, h3, h4, h5, VE_moves hmv _ _ _ _ rfl (hV b 0 h6)⟩
    · simp only [upd, if_neg e] at he
      obtain ⟨h1, h2⟩ := H.blk n k' es1 he
      refine ⟨h1, ?_⟩
      rcases h2 with h2 | ⟨b, c, ty, h3, h4, h5, h6⟩
      · exact .inl h2
      · exact .inr ⟨b, c, ty, h3, h4, h5, VE_moves hmv _ _ _ _ rfl h6⟩

theorem VC_set {x y : AV} (hxy : ∀ v, V C h nx x v → V C h nx y v) : ∀ (row : Cells) (j b off : Nat), row[j]? = some x → VC C h nx b off row → VC C h nx b off (row.set j y)
  | [], _, _, _, hj, _ => by simp at hj
  | c :: row, 0, b, off, hj, ⟨⟨v, h1, h2⟩, h3⟩ => by
    simp only [List.getElem?_cons_zero, Option.some.injEq] at hj
    subst hj
    exact ⟨⟨v, h1, hxy v h2⟩, h3⟩
  | c :: row, j + 1, b, off, hj, ⟨h1, h3⟩ => ⟨h1, VC_set hxy row j b (off + 1) (by simpa using hj) h3⟩

/-- A nil slice in a cell may be taken for a name's, of no element as yet. -/
theorem thaw_cell {e : Nat → AV} {N m k kk j : Nat} {row : Cells} (hm : h m = some ⟨k, [row]⟩) (hj : row[j]? = some .nils) (hk : 0 < kk) :
    Leads ⟨e, h, nx, N⟩ ⟨e, upd (upd h nx (some ⟨kk, []⟩)) m (some ⟨k, [row.set j (.sl nx 0 0 0)]⟩), nx + 1, N⟩ := by
  refine ⟨rfl, fun C a r => ?_⟩
  have Hh : HeapRel C h nx := r.heap
  obtain ⟨H2, s2⟩ := thaw_core Hh hk
  have hmn : m < nx := by
    rcases Nat.lt_or_ge m nx with h1 | h1
    · exact h1
    · rw [Hh.new m h1] at hm; cases hm
  have hm2 : upd h nx (some ⟨kk, []⟩) m = some ⟨k, [row]⟩ := by
    have : m ≠ nx := by omega
    simp only [upd, if_neg this]; exact hm
  obtain ⟨H3, s3⟩ := recell H2 (es' := [row.set j (.sl nx 0 0 0)]) hm2 rfl fun b off ⟨h1, h2, h3⟩ => by
    refine ⟨by simpa using h1, VC_set (fun v hv => ?_) row j b off hj h2, h3⟩
    refine ⟨by omega, ⟨_, _, hv⟩, fun k' es he => ?_⟩
    simp only [upd, if_true, Option.some.injEq, Blk.mk.injEq] at he
    obtain ⟨rfl, rfl⟩ := he
    exact ⟨Nat.le_refl _, fun _ => ⟨Nat.le_refl _, .inl ⟨by simp [upd], hv, rfl, rfl⟩⟩⟩
  have s := s2.trans s3
  exact ⟨_, ⟨r.defers, r.size, fun t => V_moves (s.moves Hh) _ _ (r.env t), H3⟩, rfl, s⟩

theorem Leads.EO {l l' : List (Nat × AV)} {k' : List (Nat × Blk)} {nx' N : Nat} (hl : ∀ p ∈ l', Abs.E l p.1 = p.2) (hh : ∀ p ∈ k', h p.1 = some p.2) (hnx : nx' = nx) :
    Leads ⟨Abs.E l, h, nx, N⟩ ⟨Abs.E l', Hp k', nx', N⟩ := by
  subst hnx
  exact (Leads.E (h := h) (nx := nx') (N := N) hl rfl rfl).trans (Leads.forget (A := ⟨Abs.E l', h, nx', N⟩) fun n b hb => hh _ (Hp_mem k' n b hb))
/-- A call that makes one new slice, handed back with true, out of what names hold now. -/
def CallsT (P : Program) (f : FuncId) (args : List AV) (h : Heap) (nx : Nat) (k : Nat) (es : List Cells) : Prop :=
  CallsA P f args h nx fun r h' nx' => r = .tup [.sl nx es.length 0 es.length, .bool true] ∧ h' = upd h nx (some ⟨k, es⟩) ∧ nx' = nx + 1
theorem CallsT.of_view (d : Nat) {f : FuncId} {args : List AV} {k : Nat} {es : List Cells} (hk : 0 < k) (hes : AV.pureE es = true) (hn : ∀ e ∈ es, AV.noIL e = true)
    (hc : CallsA P f (args.map fun a => view (d + 1) h a) (Hp []) 0 fun r h0 _ => ∃ n ys, (r = .tup [.sl n ys.length 0 es.length, .bool true] ∧ h0 n = some ⟨k, ys⟩) ∧ ys.take es.length = es) : CallsT P f args h nx k es := by
  refine ⟨hc.1, fun C vs H hv => ?_⟩
  let C0 : Ctx := ⟨fun b => C.I b ∨ owned C h b, fun _ => none, C.w⟩
  have H0 : HeapRel C0 (Hp []) 0 := ⟨fun _ _ => rfl, fun n k es he => (by cases he), fun n m b h1 => absurd rfl h1, fun b hb => by
    rcases hb with hb | ⟨n, h1, h2⟩
    · exact H.old b hb
    · exact H.lt h1 h2⟩
  have hv0 : Vs C0 (Hp []) 0 (args.map fun a => view (d + 1) h a) vs := by
    rw [vwL_eq]
    exact (vwL_V (C2 := C0) H rfl (fun b hb => hb) (fun a v hv => view_V (C2 := C0) H rfl (fun b hb => hb) d a v hv) args vs hv).1
  refine (hc.2 C0 vs H0 hv0).mono fun e w' ⟨r, h0, n0, C', v, he, hr, hV, H', hst, hw⟩ => ?_
  obtain ⟨n, ys, ⟨rfl, hny⟩, ht⟩ := hr
  obtain ⟨vs', rfl, v1, r1, rfl, hv1, v2, r2, rfl, hv2, hr2⟩ := hV
  simp only [Vs] at hr2
  simp only [V] at hv2
  subst hr2 hv2
  obtain ⟨β, H1, hst1, hV1⟩ := one_new2 hk hes H' hst (fun b ⟨n, h1, _⟩ => h1 rfl) hv1 hny ht
  obtain ⟨H2, hst2⟩ := shift_core (I0 := C0.I) (I2 := C.I) H H1 hst1 (fun b hb => hb) (fun b hb => .inl hb) (fun n k' es' hn' e he => by
    by_cases e0 : n = 0
    · subst e0
      simp only [Hp, if_true, Option.some.injEq, Blk.mk.injEq] at hn'
      obtain ⟨rfl, rfl⟩ := hn'
      exact .inr (hn e he)
    · simp [Hp, e0] at hn')
  have hV2 := V_shiftN (C := C) (C' := ⟨C'.I, β, C'.w⟩) (nx := nx) (h := h) (I2 := C.I) (.sl 0 es.length 0 es.length) v1 rfl hV1
  rw [glue_one H hes] at H2 hst2 hV2
  exact ⟨_, _, _, _, _, he, ⟨rfl, rfl, rfl⟩, ⟨_, rfl, v1, _, rfl, hV2, _, _, rfl, rfl, rfl⟩, H2, hst2, hw⟩

theorem CallsT.call {f : FuncId} {args : List AV} {k : Nat} {es : List Cells} {K : AV → Heap → Nat → Prop} (hc : CallsT P f args h nx k es) (hk : K (.tup [.sl nx es.length 0 es.length, .bool true]) (upd h nx (some ⟨k, es⟩)) (nx + 1)) : CallsA P f args h nx K :=
  CallsA.mono hc fun r' h' nx' ⟨e1, e2, e3⟩ => by subst e1 e2 e3; exact hk
end
end Go.Abs
