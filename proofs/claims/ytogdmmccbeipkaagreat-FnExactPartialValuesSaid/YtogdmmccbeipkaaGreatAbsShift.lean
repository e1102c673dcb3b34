/- What a call does in an empty memory, it does in every memory: its names are moved behind those that are there. -/
import Derived.Test.YtogdmmccbeipkaaGreatAbsPure
set_option linter.all false
namespace Go.Abs
open Go

mutual
/-- The names of a value, moved on. -/
def AV.shift (d : Nat) : AV → AV
  | .sl n tip off len => .sl (d + n) tip off len
  | .ptr n tip i j => .ptr (d + n) tip i j
  | .agg cs => .agg (AV.shiftL d cs)
  | .tup cs => .tup (AV.shiftL d cs)
  | .fn f a c => .fn f (AV.shiftL d a) (AV.shiftL d c)
  | v => v
def AV.shiftL (d : Nat) : List AV → List AV
  | [] => []
  | a :: as => AV.shift d a :: AV.shiftL d as
end
def shiftE (d : Nat) (es : List Cells) : List Cells := es.map (AV.shiftL d)
def Blk.shift (d : Nat) (b : Blk) : Blk := ⟨b.k, shiftE d b.es⟩

mutual
/-- No part of the value lies in memory that is never written again. -/
def AV.noI : AV → Bool
  | .lst _ | .iptr _ => false
  | .agg cs | .tup cs => AV.noIL cs
  | .fn _ a c => AV.noIL a && AV.noIL c
  | _ => true
def AV.noIL : List AV → Bool
  | [] => true
  | a :: as => AV.noI a && AV.noIL as
end

/-- One memory behind the other. -/
def glue (nx : Nat) (h h0 : Heap) : Heap := fun n => if n < nx then h n else (h0 (n - nx)).map (Blk.shift nx)

theorem shiftL_length (d : Nat) : ∀ as : List AV, (AV.shiftL d as).length = as.length
  | [] => rfl
  | a :: as => by simp [AV.shiftL, shiftL_length d as]

mutual
theorem shift_pure (d : Nat) : ∀ a : AV, a.pure = true → AV.shift d a = a
  | .int _, _ | .bool _, _ | .sc _, _ | .nils, _ | .undef, _ | .lst _, _ | .iptr _, _ => rfl
  | .sl .., h | .ptr .., h => by simp [AV.pure] at h
  | .agg cs, h => by simp only [AV.pure] at h; simp only [AV.shift, shiftL_pure d cs h]
  | .tup cs, h => by simp only [AV.pure] at h; simp only [AV.shift, shiftL_pure d cs h]
  | .fn f a c, h => by simp only [AV.pure, Bool.and_eq_true] at h; simp only [AV.shift, shiftL_pure d a h.1, shiftL_pure d c h.2]
theorem shiftL_pure (d : Nat) : ∀ as : List AV, AV.pureL as = true → AV.shiftL d as = as
  | [], _ => rfl
  | a :: as, h => by simp only [AV.pureL, Bool.and_eq_true] at h; simp only [AV.shiftL, shift_pure d a h.1, shiftL_pure d as h.2]
end

theorem shiftE_pure (d : Nat) : ∀ es : List Cells, AV.pureE es = true → shiftE d es = es
  | [], _ => rfl
  | e :: es, h => by
    simp only [AV.pureE, Bool.and_eq_true] at h
    have := shiftE_pure d es h.2
    simp only [shiftE, List.map_cons] at *
    rw [shiftL_pure d e h.1, this]

section
variable {C C' : Ctx} {h h0 : Heap} {nx n0 : Nat} {I2 : Nat → Prop}

/-- The concrete side behind the call. -/
def moved (C C' : Ctx) (nx : Nat) (I2 : Nat → Prop) : Ctx := ⟨I2, fun n => if n < nx then C.β n else C'.β (n - nx), C'.w⟩

theorem moved_β (n : Nat) : (moved C C' nx I2).β (nx + n) = C'.β n := by
  have : ¬ nx + n < nx := by omega
  simp only [moved, if_neg this, Nat.add_sub_cancel_left]
theorem glue_at (n : Nat) : glue nx h h0 (nx + n) = (h0 n).map (Blk.shift nx) := by
  have : ¬ nx + n < nx := by omega
  simp only [glue, if_neg this, Nat.add_sub_cancel_left]

mutual
theorem V_shift (hI : ∀ b, C'.I b → I2 b) : ∀ (a : AV) (v : Value), V C' h0 n0 a v → V (moved C C' nx I2) (glue nx h h0) (nx + n0) (AV.shift nx a) v
  | .int _, _, hv | .bool _, _, hv | .sc _, _, hv | .nils, _, hv => hv
  | .undef, _, _ => trivial
  | .lst es, v, ⟨a, c, hv, hc, hb⟩ => ⟨a, c, hv, hc, fun hne =>
      let ⟨b, off, k, ha, hi, he⟩ := hb hne
      ⟨b, off, k, ha, hI b hi, VE_pure (C := C') (C' := moved C C' nx I2) (fun b hb => ⟨hI b hb, rfl⟩) es b off k hc.2 rfl he⟩⟩
  | .iptr cs, v, ⟨b, off, hv, ⟨hi, hp⟩, hc⟩ => ⟨b, off, hv, ⟨hI b hi, hp⟩, VC_pure (C := C') (C' := moved C C' nx I2) (fun b hb => ⟨hI b hb, rfl⟩) cs b off hp rfl hc⟩
  | .sl n tip off len, v, ⟨hn, hs, hv⟩ => ⟨by omega, hs, fun k es he => by
      rw [glue_at] at he
      cases hb : h0 n with
      | none => rw [hb] at he; cases he
      | some bl =>
        obtain ⟨bk, bes⟩ := bl
        rw [hb] at he
        simp only [Option.map_some, Blk.shift, Option.some.injEq, Blk.mk.injEq] at he
        obtain ⟨rfl, rfl⟩ := he
        have hl : (shiftE nx bes).length = bes.length := by simp [shiftE]
        rw [hl, moved_β]
        exact hv bk bes hb⟩
  | .ptr n tip i j, v, ⟨hn, hs, hv⟩ => ⟨by omega, hs, fun k es he => by
      rw [glue_at] at he
      cases hb : h0 n with
      | none => rw [hb] at he; cases he
      | some bl =>
        obtain ⟨bk, bes⟩ := bl
        rw [hb] at he
        simp only [Option.map_some, Blk.shift, Option.some.injEq, Blk.mk.injEq] at he
        obtain ⟨rfl, rfl⟩ := he
        have hl : (shiftE nx bes).length = bes.length := by simp [shiftE]
        rw [hl, moved_β]
        exact hv bk bes hb⟩
  | .agg cs, v, ⟨vs, hv, hs⟩ => ⟨vs, hv, Vs_shift hI cs vs hs⟩
  | .tup cs, v, ⟨vs, hv, hs⟩ => ⟨vs, hv, Vs_shift hI cs vs hs⟩
  | .fn _ a c, v, ⟨vs, us, hv, ha, hc⟩ => ⟨vs, us, hv, Vs_shift hI a vs ha, Vs_shift hI c us hc⟩
theorem Vs_shift (hI : ∀ b, C'.I b → I2 b) : ∀ (as : List AV) (vs : List Value), Vs C' h0 n0 as vs → Vs (moved C C' nx I2) (glue nx h h0) (nx + n0) (AV.shiftL nx as) vs
  | [], _, hv => hv
  | a :: as, _, ⟨v, r, hv, h1, h2⟩ => ⟨v, r, hv, V_shift hI a v h1, Vs_shift hI as r h2⟩
end

mutual
theorem V_shiftN : ∀ (a : AV) (v : Value), a.noI = true → V C' h0 n0 a v → V (moved C C' nx I2) (glue nx h h0) (nx + n0) (AV.shift nx a) v
  | .int _, _, _, hv | .bool _, _, _, hv | .sc _, _, _, hv | .nils, _, _, hv => hv
  | .undef, _, _, _ => trivial
  | .lst es, v, hp, _ => by simp [AV.noI] at hp
  | .iptr cs, v, hp, _ => by simp [AV.noI] at hp
  | .sl n tip off len, v, _, ⟨hn, hs, hv⟩ => ⟨by omega, hs, fun k es he => by
      rw [glue_at] at he
      cases hb : h0 n with
      | none => rw [hb] at he; cases he
      | some bl =>
        obtain ⟨bk, bes⟩ := bl
        rw [hb] at he
        simp only [Option.map_some, Blk.shift, Option.some.injEq, Blk.mk.injEq] at he
        obtain ⟨rfl, rfl⟩ := he
        have hl : (shiftE nx bes).length = bes.length := by simp [shiftE]
        rw [hl, moved_β]
        exact hv bk bes hb⟩
  | .ptr n tip i j, v, _, ⟨hn, hs, hv⟩ => ⟨by omega, hs, fun k es he => by
      rw [glue_at] at he
      cases hb : h0 n with
      | none => rw [hb] at he; cases he
      | some bl =>
        obtain ⟨bk, bes⟩ := bl
        rw [hb] at he
        simp only [Option.map_some, Blk.shift, Option.some.injEq, Blk.mk.injEq] at he
        obtain ⟨rfl, rfl⟩ := he
        have hl : (shiftE nx bes).length = bes.length := by simp [shiftE]
        rw [hl, moved_β]
        exact hv bk bes hb⟩
  | .agg cs, v, hp, ⟨vs, hv, hs⟩ => ⟨vs, hv, Vs_shiftN cs vs (by simpa [AV.noI] using hp) hs⟩
  | .tup cs, v, hp, ⟨vs, hv, hs⟩ => ⟨vs, hv, Vs_shiftN cs vs (by simpa [AV.noI] using hp) hs⟩
  | .fn _ a c, v, hp, ⟨vs, us, hv, ha, hc⟩ => by
    simp only [AV.noI, Bool.and_eq_true] at hp
    exact ⟨vs, us, hv, Vs_shiftN a vs hp.1 ha, Vs_shiftN c us hp.2 hc⟩
theorem Vs_shiftN : ∀ (as : List AV) (vs : List Value), AV.noIL as = true → Vs C' h0 n0 as vs → Vs (moved C C' nx I2) (glue nx h h0) (nx + n0) (AV.shiftL nx as) vs
  | [], _, _, hv => hv
  | a :: as, _, hp, ⟨v, r, hv, h1, h2⟩ => by
    simp only [AV.noIL, Bool.and_eq_true] at hp
    exact ⟨v, r, hv, V_shiftN a v hp.1 h1, Vs_shiftN as r hp.2 h2⟩
end

/-- A value may be moved: what is never written again stays so, or there is none of it. -/
def Fit (C' : Ctx) (I2 : Nat → Prop) (cs : Cells) : Prop := (∀ b, C'.I b → I2 b) ∨ AV.noIL cs = true

theorem VC_shift : ∀ (as : List AV) (b off : Nat), Fit C' I2 as → VC C' h0 n0 b off as → VC (moved C C' nx I2) (glue nx h h0) (nx + n0) b off (AV.shiftL nx as)
  | [], _, _, _, _ => trivial
  | a :: as, b, off, hf, ⟨⟨v, h1, h2⟩, h3⟩ => by
    refine ⟨⟨v, h1, ?_⟩, VC_shift as b (off + 1) ?_ h3⟩
    · rcases hf with hf | hf
      · exact V_shift hf a v h2
      · simp only [AV.noIL, Bool.and_eq_true] at hf; exact V_shiftN a v hf.1 h2
    · rcases hf with hf | hf
      · exact .inl hf
      · simp only [AV.noIL, Bool.and_eq_true] at hf; exact .inr hf.2

theorem VE_shift : ∀ (es : List Cells) (b off k : Nat), (∀ e ∈ es, Fit C' I2 e) → VE C' h0 n0 b off k es → VE (moved C C' nx I2) (glue nx h h0) (nx + n0) b off k (shiftE nx es)
  | [], _, _, _, _, _ => trivial
  | e :: es, b, off, k, hf, ⟨h1, h2, h3⟩ => ⟨by rw [shiftL_length]; exact h1, VC_shift e b off (hf e (List.mem_cons_self ..)) h2, VE_shift es b (off + k) k (fun e he => hf e (List.mem_cons_of_mem _ he)) h3⟩

theorem shift_core {I0 : Nat → Prop} (H : HeapRel C h nx) (H' : HeapRel C' h0 n0) (hst : Step ⟨I0, fun _ => none, C.w⟩ (Hp []) 0 C' h0 n0)
    (hI1 : ∀ b, C.I b → I2 b) (hI2 : ∀ b, I2 b → C.I b ∨ (C.w.heap.size ≤ b ∧ C'.I b)) (hf : ∀ n k es, h0 n = some ⟨k, es⟩ → ∀ e ∈ es, Fit C' I2 e) :
    HeapRel (moved C C' nx I2) (glue nx h h0) (nx + n0) ∧ Step C h nx (moved C C' nx I2) (glue nx h h0) (nx + n0) := by
  have hno : ∀ b, ¬ owned ⟨I0, fun _ => none, C.w⟩ (Hp []) b := fun b ⟨n, h1, _⟩ => h1 rfl
  have hold : ∀ b, b < C.w.heap.size → C'.w.heap[b]? = C.w.heap[b]? := fun b hb => hst.frame b hb (hno b)
  have hnew : ∀ b, owned C' h0 b → C.w.heap.size ≤ b := fun b hb => by
    rcases hst.owned b hb with h1 | h1
    · exact absurd h1 (hno b)
    · exact h1
  have hlo : ∀ n, n < nx → glue nx h h0 n = h n ∧ (moved C C' nx I2).β n = C.β n := fun n hn => by simp only [glue, moved, if_pos hn, and_self]
  have hhi : ∀ n, ¬ n < nx → ∀ bl, glue nx h h0 n = some bl → ∃ m es, n = nx + m ∧ h0 m = some ⟨bl.k, es⟩ ∧ bl.es = shiftE nx es := fun n hn bl hbl => by
    obtain ⟨m, rfl⟩ : ∃ m, n = nx + m := ⟨n - nx, by omega⟩
    rw [glue_at] at hbl
    cases hb : h0 m with
    | none => rw [hb] at hbl; cases hbl
    | some b0 =>
      rw [hb] at hbl
      simp only [Option.map_some, Option.some.injEq] at hbl
      subst hbl
      exact ⟨m, b0.es, rfl, by rw [hb]; rfl, rfl⟩
  have hst2 : Step C h nx (moved C C' nx I2) (glue nx h h0) (nx + n0) := by
    refine ⟨by omega, hI1, fun b hb => ?_, fun n hn k es he => ?_, fun b ⟨n, h1, h2⟩ => ?_, hst.os, hst.tape, hst.output, hst.size, fun b hb _ => hold b hb, fun b hb => hst.sizes b hb⟩
    · rcases hI2 b hb with h1 | h1
      · exact .inl h1
      · exact .inr (.inl h1.1)
    · rw [(hlo n hn).1] at he
      exact ⟨es, he, Nat.le_refl _, fun _ => (hlo n hn).2⟩
    · by_cases hn : n < nx
      · rw [(hlo n hn).1] at h1; rw [(hlo n hn).2] at h2
        exact .inl ⟨n, h1, h2⟩
      · obtain ⟨bl, hbl⟩ := Option.ne_none_iff_exists'.1 h1
        obtain ⟨m, es, rfl, hm, _⟩ := hhi n hn bl hbl
        rw [moved_β] at h2
        exact .inr (hnew b ⟨m, by simp [hm], h2⟩)
  refine ⟨⟨fun n hn => ?_, fun n k es he => ?_, fun n m b h1 h2 h3 h4 => ?_, fun b hb => ?_⟩, hst2⟩
  · obtain ⟨m, rfl⟩ : ∃ m, n = nx + m := ⟨n - nx, by omega⟩
    rw [glue_at, H'.new m (by omega)]; rfl
  · by_cases hn : n < nx
    · rw [(hlo n hn).1] at he
      obtain ⟨h1, h2⟩ := H.blk n k es he
      refine ⟨h1, ?_⟩
      rcases h2 with ⟨h2, h3⟩ | ⟨b, c, ty, h3, h4, h5, h6⟩
      · exact .inl ⟨by rw [(hlo n hn).2]; exact h2, h3⟩
      · have hb : b < C.w.heap.size := (Array.getElem?_eq_some_iff.1 h4).1
        refine .inr ⟨b, c, ty, by rw [(hlo n hn).2]; exact h3, (hold b hb).trans h4, fun hI => ?_, VE_moves (hst2.moves H) _ _ _ _ (hold b hb) h6⟩
        rcases hI2 b hI with hI | hI
        · exact h5 hI
        · omega
    · obtain ⟨m, es0, rfl, hm, he0⟩ := hhi n hn _ he
      simp only at hm he0
      subst he0
      obtain ⟨h1, h2⟩ := H'.blk m k es0 hm
      refine ⟨h1, ?_⟩
      rw [moved_β]
      rcases h2 with ⟨h2, rfl⟩ | ⟨b, c, ty, h3, h4, h5, h6⟩
      · exact .inl ⟨h2, rfl⟩
      · refine .inr ⟨b, c, ty, h3, h4, fun hI => ?_, VE_shift _ _ _ _ (hf m k es0 hm) h6⟩
        rcases hI2 b hI with hI | hI
        · have := H.old b hI
          have := hnew b ⟨m, by simp [hm], h3⟩
          omega
        · exact h5 hI.2
  · by_cases hn : n < nx <;> by_cases hm : m < nx
    · rw [(hlo n hn).1] at h1; rw [(hlo n hn).2] at h3; rw [(hlo m hm).1] at h2; rw [(hlo m hm).2] at h4
      exact H.inj n m b h1 h2 h3 h4
    · rw [(hlo n hn).1] at h1; rw [(hlo n hn).2] at h3
      obtain ⟨bl, hbl⟩ := Option.ne_none_iff_exists'.1 h2
      obtain ⟨j, es, rfl, hj, _⟩ := hhi m hm bl hbl
      rw [moved_β] at h4
      have := hnew b ⟨j, by simp [hj], h4⟩
      have := H.lt h1 h3
      omega
    · rw [(hlo m hm).1] at h2; rw [(hlo m hm).2] at h4
      obtain ⟨bl, hbl⟩ := Option.ne_none_iff_exists'.1 h1
      obtain ⟨j, es, rfl, hj, _⟩ := hhi n hn bl hbl
      rw [moved_β] at h3
      have := hnew b ⟨j, by simp [hj], h3⟩
      have := H.lt h2 h4
      omega
    · obtain ⟨bl, hbl⟩ := Option.ne_none_iff_exists'.1 h1
      obtain ⟨j, es, rfl, hj, _⟩ := hhi n hn bl hbl
      obtain ⟨bl', hbl'⟩ := Option.ne_none_iff_exists'.1 h2
      obtain ⟨j', es', rfl, hj', _⟩ := hhi m hm bl' hbl'
      rw [moved_β] at h3 h4
      rw [H'.inj j j' b (by simp [hj]) (by simp [hj']) h3 h4]
  · rcases hI2 b hb with h1 | h1
    · exact Nat.lt_of_lt_of_le (H.old b h1) hst.size
    · exact H'.old b h1.2

variable {P : Program}

/-- A function of pure values: what it makes in an empty memory, it makes in every memory. -/
theorem CallsA.of_pure {f : FuncId} {args : List AV} {K K0 : AV → Heap → Nat → Prop} (hp : AV.pureL args = true) (hc : CallsA P f args (Hp []) 0 K0)
    (hk : ∀ r h0 n0, K0 r h0 n0 → K (AV.shift nx r) (glue nx h h0) (nx + n0)) : CallsA P f args h nx K := by
  refine ⟨hc.1, fun C vs H hv => ?_⟩
  have H0 : HeapRel ⟨C.I, fun _ => none, C.w⟩ (Hp []) 0 := ⟨fun _ _ => rfl, fun n k es he => (by cases he), fun n m b h1 => absurd rfl h1, H.old⟩
  have hv0 : Vs ⟨C.I, fun _ => none, C.w⟩ (Hp []) 0 args vs := Vs_pure (C := C) (C' := ⟨C.I, fun _ => none, C.w⟩) (fun b hb => ⟨hb, rfl⟩) args vs hp hv
  refine (hc.2 ⟨C.I, fun _ => none, C.w⟩ vs H0 hv0).mono fun e w' ⟨r, h0, n0, C', v, he, hr, hV, H', hst, hw⟩ => ?_
  have hI' : ∀ b, C'.I b → C.I b ∨ (C.w.heap.size ≤ b ∧ C'.I b) := fun b hb => by
    rcases hst.imm' b hb with h1 | h1 | ⟨n, h1, _⟩
    · exact .inl h1
    · exact .inr ⟨h1, hb⟩
    · exact absurd rfl h1
  obtain ⟨H2, hst2⟩ := shift_core (I2 := C'.I) H H' hst (fun b hb => hst.imm b hb) hI' (fun _ _ _ _ _ _ => .inl fun _ hb => hb)
  exact ⟨_, _, _, _, v, he, hk r h0 n0 hr, V_shift (fun _ hb => hb) r v hV, H2, hst2, hw⟩

/-- A function of what names hold now, if what it makes does not lie in them. -/
theorem CallsA.of_view (d : Nat) {f : FuncId} {args : List AV} {K K0 : AV → Heap → Nat → Prop} (hc : CallsA P f (args.map fun a => view (d + 1) h a) (Hp []) 0 K0)
    (hk : ∀ r h0 n0, K0 r h0 n0 → (r.noI = true ∧ ∀ n k es, h0 n = some ⟨k, es⟩ → ∀ e ∈ es, AV.noIL e = true) ∧ K (AV.shift nx r) (glue nx h h0) (nx + n0)) : CallsA P f args h nx K := by
  refine ⟨hc.1, fun C vs H hv => ?_⟩
  let C0 : Ctx := ⟨fun b => C.I b ∨ owned C h b, fun _ => none, C.w⟩
  have H0 : HeapRel C0 (Hp []) 0 := ⟨fun _ _ => rfl, fun n k es he => (by cases he), fun n m b h1 => absurd rfl h1, fun b hb => by
    rcases hb with hb | ⟨n, h1, h2⟩
    · exact H.old b hb
    · exact H.lt h1 h2⟩
  have hv0 : Vs C0 (Hp []) 0 (args.map fun a => view (d + 1) h a) vs := by
    rw [vwL_eq]
    exact (vwL_V (C2 := C0) H rfl (fun b hb => hb) (fun a v hv => view_V (C2 := C0) H rfl (fun b hb => hb) d a v hv) args vs hv).1
  refine (hc.2 C0 vs H0 hv0).mono fun e w' ⟨r, h0, n0, C', v, he, hr, hV, H', hst, hw⟩ => ?_
  obtain ⟨⟨hn, hh⟩, hk⟩ := hk r h0 n0 hr
  obtain ⟨H2, hst2⟩ := shift_core (I0 := C0.I) (I2 := C.I) H H' hst (fun b hb => hb) (fun b hb => .inl hb) (fun n k es hn e he => .inr (hh n k es hn e he))
  exact ⟨_, _, _, _, v, he, hk, V_shiftN r v hn hV, H2, hst2, hw⟩

/-- A call that makes one new slice, of pure elements, and leaves all else alone. -/
def CallsF (P : Program) (f : FuncId) (args : List AV) (h : Heap) (nx : Nat) (k : Nat) (es : List Cells) : Prop :=
  CallsA P f args h nx fun r h' nx' => r = .sl nx es.length 0 es.length ∧ h' = upd h nx (some ⟨k, es⟩) ∧ nx' = nx + 1

/-- What one new slice is, where all else is forgotten. -/
theorem one_new {C0 C' : Ctx} {h0 : Heap} {n0 k : Nat} {r : AV} {v : Value} {es : List Cells} (hk : 0 < k) (hes : AV.pureE es = true) (H' : HeapRel C' h0 n0) (hst : Step C0 (Hp []) 0 C' h0 n0)
    (hno : ∀ b, ¬ owned C0 (Hp []) b) (hV : V C' h0 n0 r v) (hr : (r = .nils ∧ es = []) ∨ ∃ n, r = .sl n es.length 0 es.length ∧ h0 n = some ⟨k, es⟩) :
    ∃ β, HeapRel ⟨C'.I, β, C'.w⟩ (Hp [(0, ⟨k, es⟩)]) 1 ∧ Step C0 (Hp []) 0 ⟨C'.I, β, C'.w⟩ (Hp [(0, ⟨k, es⟩)]) 1 ∧ V ⟨C'.I, β, C'.w⟩ (Hp [(0, ⟨k, es⟩)]) 1 (.sl 0 es.length 0 es.length) v := by
  have key : ∀ β0 : Option Nat, ((β0 = none ∧ es = []) ∨ ∃ b c ty, β0 = some b ∧ C'.w.heap[b]? = some (.cells c ty (0, 0)) ∧ ¬ C'.I b ∧ VE C' h0 n0 b 0 k es ∧ C0.w.heap.size ≤ b) →
      HeapRel ⟨C'.I, fun n => if n = 0 then β0 else none, C'.w⟩ (Hp [(0, ⟨k, es⟩)]) 1 ∧ Step C0 (Hp []) 0 ⟨C'.I, fun n => if n = 0 then β0 else none, C'.w⟩ (Hp [(0, ⟨k, es⟩)]) 1 := by
    intro β0 hβ0
    refine ⟨⟨fun n hn => ?_, fun n k' es' he => ?_, fun n m b h1 h2 h3 h4 => ?_, H'.old⟩, ⟨Nat.zero_le _, hst.imm, hst.imm', fun n hn => absurd hn (Nat.not_lt_zero n), fun b ⟨n, h1, h2⟩ => ?_, hst.os, hst.tape, hst.output, hst.size, hst.frame, hst.sizes⟩⟩
    · have : n ≠ 0 := by omega
      simp [Hp, this]
    · by_cases hn : n = 0
      · subst hn
        simp only [Hp, if_true, Option.some.injEq, Blk.mk.injEq] at he
        obtain ⟨rfl, rfl⟩ := he
        refine ⟨hk, ?_⟩
        rcases hβ0 with ⟨h1, h2⟩ | ⟨b, c, ty, h1, h2, h3, h4, _⟩
        · exact .inl ⟨by simp [h1], h2⟩
        · exact .inr ⟨b, c, ty, by simp [h1], h2, h3, VE_pure (C := C') (C' := ⟨C'.I, fun n => if n = 0 then β0 else none, C'.w⟩) (fun b hb => ⟨hb, rfl⟩) _ _ _ _ hes rfl h4⟩
      · simp [Hp, hn] at he
    · have f : ∀ n, Hp [(0, ⟨k, es⟩)] n ≠ none → n = 0 := fun n hn => by
        by_cases e : n = 0
        · exact e
        · simp [Hp, e] at hn
      rw [f n h1, f m h2]
    · have hn : n = 0 := by
        by_cases e : n = 0
        · exact e
        · simp [Hp, e] at h1
      subst hn
      simp only [if_true] at h2
      rcases hβ0 with ⟨h3, _⟩ | ⟨b', c, ty, h3, _, _, _, h5⟩
      · rw [h3] at h2; cases h2
      · rw [h3] at h2; cases h2; exact .inr h5
  rcases hr with ⟨rfl, rfl⟩ | ⟨n, rfl, hn⟩
  · obtain ⟨h1, h2⟩ := key none (.inl ⟨rfl, rfl⟩)
    refine ⟨_, h1, h2, Nat.zero_lt_one, ⟨none, 0, hV⟩, fun k' es' he => ?_⟩
    simp only [Hp, if_true, Option.some.injEq, Blk.mk.injEq] at he
    obtain ⟨rfl, rfl⟩ := he
    exact ⟨Nat.le_refl _, fun _ => ⟨Nat.le_refl _, .inl ⟨by simp, hV, rfl, rfl⟩⟩⟩
  · obtain ⟨_, hs, hv⟩ := hV
    obtain ⟨_, hv⟩ := hv k es hn
    obtain ⟨_, hv⟩ := hv rfl
    obtain ⟨_, hblk⟩ := H'.blk n k es hn
    have hβ0 : (C'.β n = none ∧ es = []) ∨ ∃ b c ty, C'.β n = some b ∧ C'.w.heap[b]? = some (.cells c ty (0, 0)) ∧ ¬ C'.I b ∧ VE C' h0 n0 b 0 k es ∧ C0.w.heap.size ≤ b := by
      rcases hblk with h1 | ⟨b, c, ty, h1, h2, h3, h4⟩
      · exact .inl h1
      · refine .inr ⟨b, c, ty, h1, h2, h3, h4, ?_⟩
        rcases hst.owned b ⟨n, by simp [hn], h1⟩ with h5 | h5
        · exact absurd h5 (hno b)
        · exact h5
    obtain ⟨h1, h2⟩ := key _ hβ0
    refine ⟨_, h1, h2, Nat.zero_lt_one, hs, fun k' es' he => ?_⟩
    simp only [Hp, if_true, Option.some.injEq, Blk.mk.injEq] at he
    obtain ⟨rfl, rfl⟩ := he
    exact ⟨Nat.le_refl _, fun _ => ⟨by omega, by simpa using hv⟩⟩

theorem glue_one (H : HeapRel C h nx) {k : Nat} {es : List Cells} (hes : AV.pureE es = true) : glue nx h (Hp [(0, ⟨k, es⟩)]) = upd h nx (some ⟨k, es⟩) := by
  funext n
  by_cases hn : n < nx
  · have : n ≠ nx := by omega
    simp [glue, upd, hn, this]
  · by_cases hn2 : n = nx
    · subst hn2; simp [glue, upd, Hp, Blk.shift, shiftE_pure _ _ hes]
    · have : n - nx ≠ 0 := by omega
      simp [glue, upd, Hp, hn, hn2, this, H.new n (by omega)]

theorem CallsF.of_pure {f : FuncId} {args : List AV} {k : Nat} {es : List Cells} (hk : 0 < k) (hes : AV.pureE es = true) (hp : AV.pureL args = true)
    (hc : CallsA P f args (Hp []) 0 fun r h0 _ => (r = .nils ∧ es = []) ∨ ∃ n, r = .sl n es.length 0 es.length ∧ h0 n = some ⟨k, es⟩) (h : Heap) (nx : Nat) : CallsF P f args h nx k es := by
  refine ⟨hc.1, fun C vs H hv => ?_⟩
  have H0 : HeapRel ⟨C.I, fun _ => none, C.w⟩ (Hp []) 0 := ⟨fun _ _ => rfl, fun n k es he => (by cases he), fun n m b h1 => absurd rfl h1, H.old⟩
  have hv0 : Vs ⟨C.I, fun _ => none, C.w⟩ (Hp []) 0 args vs := Vs_pure (C := C) (C' := ⟨C.I, fun _ => none, C.w⟩) (fun b hb => ⟨hb, rfl⟩) args vs hp hv
  refine (hc.2 ⟨C.I, fun _ => none, C.w⟩ vs H0 hv0).mono fun e w' ⟨r, h0, n0, C', v, he, hr, hV, H', hst, hw⟩ => ?_
  obtain ⟨β, H1, hst1, hV1⟩ := one_new hk hes H' hst (fun b ⟨n, h1, _⟩ => h1 rfl) hV hr
  have hI' : ∀ b, C'.I b → C.I b ∨ (C.w.heap.size ≤ b ∧ C'.I b) := fun b hb => by
    rcases hst.imm' b hb with h1 | h1 | ⟨n, h1, _⟩
    · exact .inl h1
    · exact .inr ⟨h1, hb⟩
    · exact absurd rfl h1
  obtain ⟨H2, hst2⟩ := shift_core (I2 := C'.I) H H1 hst1 (fun b hb => hst.imm b hb) hI' (fun _ _ _ _ _ _ => .inl fun _ hb => hb)
  have hV2 := V_shift (C := C) (C' := ⟨C'.I, β, C'.w⟩) (nx := nx) (h := h) (I2 := C'.I) (fun _ hb => hb) _ v hV1
  rw [glue_one H hes] at H2 hst2 hV2
  exact ⟨_, _, _, _, v, he, ⟨rfl, rfl, rfl⟩, hV2, H2, hst2, hw⟩

/-- The same, of what names hold now: the new slice's elements have no memory behind them. -/
theorem CallsF.of_view (d : Nat) {f : FuncId} {args : List AV} {k : Nat} {es : List Cells} (hk : 0 < k) (hes : AV.pureE es = true) (hn : ∀ e ∈ es, AV.noIL e = true)
    (hc : CallsA P f (args.map fun a => view (d + 1) h a) (Hp []) 0 fun r h0 _ => (r = .nils ∧ es = []) ∨ ∃ n, r = .sl n es.length 0 es.length ∧ h0 n = some ⟨k, es⟩) : CallsF P f args h nx k es := by
  refine ⟨hc.1, fun C vs H hv => ?_⟩
  let C0 : Ctx := ⟨fun b => C.I b ∨ owned C h b, fun _ => none, C.w⟩
  have H0 : HeapRel C0 (Hp []) 0 := ⟨fun _ _ => rfl, fun n k es he => (by cases he), fun n m b h1 => absurd rfl h1, fun b hb => by
    rcases hb with hb | ⟨n, h1, h2⟩
    · exact H.old b hb
    · exact H.lt h1 h2⟩
  have hv0 : Vs C0 (Hp []) 0 (args.map fun a => view (d + 1) h a) vs := by
    rw [vwL_eq]
    exact (vwL_V (C2 := C0) H rfl (fun b hb => hb) (fun a v hv => view_V (C2 := C0) H rfl (fun b hb => hb) d a v hv) args vs hv).1
  refine (hc.2 C0 vs H0 hv0).mono fun e w' ⟨r, h0, n0, C', v, he, hr, hV, H', hst, hw⟩ => ?_
  obtain ⟨β, H1, hst1, hV1⟩ := one_new hk hes H' hst (fun b ⟨n, h1, _⟩ => h1 rfl) hV hr
  obtain ⟨H2, hst2⟩ := shift_core (I0 := C0.I) (I2 := C.I) H H1 hst1 (fun b hb => hb) (fun b hb => .inl hb) (fun n k' es' hn' e he => by
    by_cases e0 : n = 0
    · subst e0
      simp only [Hp, if_true, Option.some.injEq, Blk.mk.injEq] at hn'
      obtain ⟨rfl, rfl⟩ := hn'
      exact .inr (hn e he)
    · simp [Hp, e0] at hn')
  have hV2 := V_shiftN (C := C) (C' := ⟨C'.I, β, C'.w⟩) (nx := nx) (h := h) (I2 := C.I) (.sl 0 es.length 0 es.length) v rfl hV1
  rw [glue_one H hes] at H2 hst2 hV2
  exact ⟨_, _, _, _, v, he, ⟨rfl, rfl, rfl⟩, hV2, H2, hst2, hw⟩

theorem CallsF.call {f : FuncId} {args : List AV} {k : Nat} {es : List Cells} {K : AV → Heap → Nat → Prop} (hc : CallsF P f args h nx k es) (hk : K (.sl nx es.length 0 es.length) (upd h nx (some ⟨k, es⟩)) (nx + 1)) : CallsA P f args h nx K :=
  CallsA.mono hc fun r' h' nx' ⟨e1, e2, e3⟩ => by subst e1 e2 e3; exact hk

/-- Names may be forgotten. -/
theorem Leads.forget {A : AS} {h' : Heap} (hsub : ∀ n b, h' n = some b → A.heap n = some b) : Leads A ⟨A.env, h', A.nx, A.N⟩ := by
  refine ⟨rfl, fun C a r => ?_⟩
  have hst : Step C A.heap A.nx C h' A.nx := by
    refine ⟨Nat.le_refl _, fun b hb => hb, fun b hb => .inl hb, fun n _ k es he => ⟨es, hsub n _ he, Nat.le_refl _, fun _ => rfl⟩, fun b ⟨n, h1, h2⟩ => .inl ⟨n, ?_, h2⟩, rfl, rfl, ⟨rfl, Nat.le_refl _⟩, Nat.le_refl _, fun _ _ _ => rfl, fun _ _ => rfl⟩
    obtain ⟨bl, hbl⟩ := Option.ne_none_iff_exists'.1 h1
    rw [hsub n bl hbl]; simp
  have hmv := hst.moves r.heap
  have some_of : ∀ n, h' n ≠ none → A.heap n ≠ none := fun n h1 => by
    obtain ⟨bl, hbl⟩ := Option.ne_none_iff_exists'.1 h1
    rw [hsub n bl hbl]; simp
  refine ⟨C, ⟨r.defers, r.size, fun s => V_moves hmv _ _ (r.env s), ⟨fun n hn => ?_, fun n k es he => ?_, fun n m b h1 h2 h3 h4 => r.heap.inj n m b (some_of n h1) (some_of m h2) h3 h4, r.heap.old⟩⟩, rfl, hst⟩
  · show h' n = none
    cases hb : h' n with
    | none => rfl
    | some b => exact absurd (hsub n b hb) (by rw [r.heap.new n hn]; simp)
  · obtain ⟨h1, h2⟩ := r.heap.blk n k es (hsub n _ he)
    refine ⟨h1, ?_⟩
    rcases h2 with h2 | ⟨b, c, ty, h3, h4, h5, h6⟩
    · exact .inl h2
    · exact .inr ⟨b, c, ty, h3, h4, h5, VE_moves hmv _ _ _ _ rfl h6⟩

theorem Hp_mem : ∀ (l : List (Nat × Blk)) (n : Nat) (b : Blk), Hp l n = some b → (n, b) ∈ l
  | [], _, _, h => by cases h
  | (k, v) :: r, n, b, h => by
    simp only [Hp] at h
    split at h
    · rename_i e; cases h; subst e; exact List.mem_cons_self ..
    · exact List.mem_cons_of_mem _ (Hp_mem r n b h)

/-- On with fewer slots and fewer names. -/
theorem Leads.EH {l l' : List (Nat × AV)} {k k' : List (Nat × Blk)} {nx nx' N : Nat} (hl : ∀ p ∈ l', Abs.E l p.1 = p.2) (hh : ∀ p ∈ k', Hp k p.1 = some p.2) (hnx : nx' = nx) :
    Leads ⟨Abs.E l, Hp k, nx, N⟩ ⟨Abs.E l', Hp k', nx', N⟩ := by
  subst hnx
  exact (Leads.E (h := Hp k) (nx := nx') (N := N) hl rfl rfl).trans (Leads.forget (A := ⟨Abs.E l', Hp k, nx', N⟩) fun n b hb => hh _ (Hp_mem k' n b hb))
end
end Go.Abs
