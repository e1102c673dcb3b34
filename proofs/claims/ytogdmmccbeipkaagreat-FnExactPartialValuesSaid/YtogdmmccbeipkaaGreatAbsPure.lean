/- Functions of pure values: contracts that hold in every memory. -/
import Derived.Test.YtogdmmccbeipkaaGreatAbsWp
set_option linter.all false
namespace Go.Abs
open Go

section
variable {C C' : Ctx} {h h' : Heap} {nx nx' : Nat}

mutual
/-- A value without names means the same in every memory. -/
theorem V_pure (m : ∀ b, C.I b → C'.I b ∧ C'.w.heap[b]? = C.w.heap[b]?) : ∀ (a : AV) (v : Value), a.pure = true → V C h nx a v → V C' h' nx' a v
  | .int _, _, _, hv => hv
  | .bool _, _, _, hv => hv
  | .sc _, _, _, hv => hv
  | .nils, _, _, hv => hv
  | .undef, _, _, _ => trivial
  | .lst es, v, _, ⟨a, c, hv, hc, hb⟩ => ⟨a, c, hv, hc, fun hne =>
      let ⟨b, off, k, ha, hi, he⟩ := hb hne
      ⟨b, off, k, ha, (m b hi).1, VE_pure m es b off k hc.2 (m b hi).2 he⟩⟩
  | .sl .., _, hp, _ => by simp [AV.pure] at hp
  | .ptr .., _, hp, _ => by simp [AV.pure] at hp
  | .iptr cs, v, _, ⟨b, off, hv, ⟨hi, hp⟩, hc⟩ => ⟨b, off, hv, ⟨(m b hi).1, hp⟩, VC_pure m cs b off hp (m b hi).2 hc⟩
  | .agg cs, v, hp, ⟨vs, hv, hs⟩ => ⟨vs, hv, Vs_pure m cs vs hp hs⟩
  | .tup cs, v, hp, ⟨vs, hv, hs⟩ => ⟨vs, hv, Vs_pure m cs vs hp hs⟩
  | .fn _ a c, v, hp, ⟨vs, us, hv, ha, hc⟩ => by
    simp only [AV.pure, Bool.and_eq_true] at hp
    exact ⟨vs, us, hv, Vs_pure m a vs hp.1 ha, Vs_pure m c us hp.2 hc⟩
theorem Vs_pure (m : ∀ b, C.I b → C'.I b ∧ C'.w.heap[b]? = C.w.heap[b]?) : ∀ (as : List AV) (vs : List Value), AV.pureL as = true → Vs C h nx as vs → Vs C' h' nx' as vs
  | [], _, _, hv => hv
  | a :: as, _, hp, ⟨v, r, hv, h1, h2⟩ => by
    simp only [AV.pureL, Bool.and_eq_true] at hp
    exact ⟨v, r, hv, V_pure m a v hp.1 h1, Vs_pure m as r hp.2 h2⟩
theorem VC_pure (m : ∀ b, C.I b → C'.I b ∧ C'.w.heap[b]? = C.w.heap[b]?) : ∀ (as : List AV) (b off : Nat), AV.pureL as = true → C'.w.heap[b]? = C.w.heap[b]? → VC C h nx b off as → VC C' h' nx' b off as
  | [], _, _, _, _, _ => trivial
  | a :: as, b, off, hp, hb, ⟨⟨v, h1, h2⟩, h3⟩ => by
    simp only [AV.pureL, Bool.and_eq_true] at hp
    exact ⟨⟨v, (cell?_block hb off none).trans h1, V_pure m a v hp.1 h2⟩, VC_pure m as b (off + 1) hp.2 hb h3⟩
theorem VE_pure (m : ∀ b, C.I b → C'.I b ∧ C'.w.heap[b]? = C.w.heap[b]?) : ∀ (es : List (List AV)) (b off k : Nat), AV.pureE es = true → C'.w.heap[b]? = C.w.heap[b]? → VE C h nx b off k es → VE C' h' nx' b off k es
  | [], _, _, _, _, _, _ => trivial
  | e :: es, b, off, k, hp, hb, ⟨h1, h2, h3⟩ => by
    simp only [AV.pureE, Bool.and_eq_true] at hp
    exact ⟨h1, VC_pure m e b off hp.1 hb h2, VE_pure m es b (off + k) k hp.2 hb h3⟩
end

mutual
/-- What a value reads as, once all is laid to rest: s for what the blocks hold. -/
def vw (h : Heap) (s : AV → AV) : AV → AV
  | .sl n tip off len => match h n with
    | some b => if b.es.length = tip then .lst (((b.es.drop off).take len).map fun e => e.map s) else .undef
    | none => .undef
  | .ptr n tip i j => match h n with
    | some b => if b.es.length = tip then (match b.es[i]? with
      | some e => .iptr ((e.drop j).map s)
      | none => .undef) else .undef
    | none => .undef
  | .agg cs => .agg (vwL h s cs)
  | .tup cs => .tup (vwL h s cs)
  | .fn f a c => .fn f (vwL h s a) (vwL h s c)
  | v => v
def vwL (h : Heap) (s : AV → AV) : List AV → List AV
  | [] => []
  | a :: as => vw h s a :: vwL h s as
end

mutual
theorem vw_pure (h : Heap) (s : AV → AV) : ∀ a : AV, a.pure = true → vw h s a = a
  | .int _, _ | .bool _, _ | .sc _, _ | .nils, _ | .undef, _ | .lst _, _ | .iptr _, _ => rfl
  | .sl .., hp | .ptr .., hp => by simp [AV.pure] at hp
  | .agg cs, hp => by simp only [AV.pure] at hp; simp only [vw, vwL_pure h s cs hp]
  | .tup cs, hp => by simp only [AV.pure] at hp; simp only [vw, vwL_pure h s cs hp]
  | .fn f a c, hp => by simp only [AV.pure, Bool.and_eq_true] at hp; simp only [vw, vwL_pure h s a hp.1, vwL_pure h s c hp.2]
theorem vwL_pure (h : Heap) (s : AV → AV) : ∀ as : List AV, AV.pureL as = true → vwL h s as = as
  | [], _ => rfl
  | a :: as, hp => by simp only [AV.pureL, Bool.and_eq_true] at hp; simp only [vwL, vw_pure h s a hp.1, vwL_pure h s as hp.2]
end

def view : Nat → Heap → AV → AV
  | 0, _, v => if v.pure then v else .undef
  | d + 1, h, v => vw h (view d h) v

theorem VE_map {C2 : Ctx} {s : AV → AV} (hw : C2.w = C.w) (hs : ∀ a v, V C h nx a v → V C2 h' nx' (s a) v) : ∀ (es : List Cells) (b off k : Nat), VE C h nx b off k es → VE C2 h' nx' b off k (es.map fun e => e.map s)
  | [], _, _, _, _ => trivial
  | e :: es, b, off, k, ⟨h1, h2, h3⟩ => by
    have gen : ∀ (cs : Cells) (o : Nat), VC C h nx b o cs → VC C2 h' nx' b o (cs.map s) := by
      intro cs
      induction cs with
      | nil => intros; trivial
      | cons c cs ih => exact fun o ⟨⟨v, a1, a2⟩, a3⟩ => ⟨⟨v, by rw [hw]; exact a1, hs c v a2⟩, ih (o + 1) a3⟩
    exact ⟨by simpa using h1, gen e off h2, VE_map hw hs es b (off + k) k h3⟩

theorem pureE_map {s : AV → AV} (hs : ∀ a v, V C h nx a v → (s a).pure = true) : ∀ (es : List Cells) (b off k : Nat), VE C h nx b off k es → AV.pureE (es.map fun e => e.map s) = true
  | [], _, _, _, _ => rfl
  | e :: es, b, off, k, ⟨h1, h2, h3⟩ => by
    have gen : ∀ (cs : Cells) (o : Nat), VC C h nx b o cs → AV.pureL (cs.map s) = true := by
      intro cs
      induction cs with
      | nil => intros; rfl
      | cons c cs ih => exact fun o ⟨⟨v, _, a2⟩, a3⟩ => by simp only [List.map_cons, AV.pureL, Bool.and_eq_true]; exact ⟨hs c v a2, ih (o + 1) a3⟩
    simp only [List.map_cons, AV.pureE, Bool.and_eq_true]
    exact ⟨gen e off h2, pureE_map hs es b (off + k) k h3⟩

mutual
theorem vw_V {C2 : Ctx} {s : AV → AV} (H : HeapRel C h nx) (hw : C2.w = C.w) (hI : ∀ b, C.I b ∨ owned C h b → C2.I b) (hs : ∀ a v, V C h nx a v → V C2 h' nx' (s a) v ∧ (s a).pure = true) :
    ∀ (a : AV) (v : Value), V C h nx a v → V C2 h' nx' (vw h s a) v ∧ (vw h s a).pure = true
  | .int _, _, hv => ⟨hv, rfl⟩
  | .bool _, _, hv => ⟨hv, rfl⟩
  | .sc _, _, hv => ⟨hv, rfl⟩
  | .nils, _, hv => ⟨hv, rfl⟩
  | .undef, _, _ => ⟨trivial, rfl⟩
  | .lst es, v, hv => ⟨V_pure (fun b hb => ⟨hI b (.inl hb), by rw [hw]⟩) (.lst es) v (by obtain ⟨a, c, _, hc, _⟩ := hv; exact hc.2) hv, by obtain ⟨a, c, _, hc, _⟩ := hv; exact hc.2⟩
  | .iptr cs, v, hv => ⟨V_pure (fun b hb => ⟨hI b (.inl hb), by rw [hw]⟩) (.iptr cs) v (by obtain ⟨_, _, _, hc, _⟩ := hv; exact hc.2) hv, by obtain ⟨_, _, _, hc, _⟩ := hv; exact hc.2⟩
  | .agg cs, v, ⟨vs, hv, hvs⟩ => by
    obtain ⟨h1, h2⟩ := vwL_V H hw hI hs cs vs hvs
    exact ⟨⟨vs, hv, h1⟩, h2⟩
  | .tup cs, v, ⟨vs, hv, hvs⟩ => by
    obtain ⟨h1, h2⟩ := vwL_V H hw hI hs cs vs hvs
    exact ⟨⟨vs, hv, h1⟩, h2⟩
  | .fn f a c, v, ⟨vs, us, hv, ha, hc⟩ => by
    obtain ⟨h1, h2⟩ := vwL_V H hw hI hs a vs ha
    obtain ⟨h3, h4⟩ := vwL_V H hw hI hs c us hc
    exact ⟨⟨vs, us, hv, h1, h3⟩, by simp only [vw, AV.pure, h2, h4]; rfl⟩
  | .sl n tip off len, v, ⟨hn, hsh, hv⟩ => by
    simp only [vw]
    cases hb : h n with
    | none => exact ⟨trivial, rfl⟩
    | some b =>
      obtain ⟨bk, bes⟩ := b
      simp only
      by_cases ht : bes.length = tip
      · rw [if_pos ht]
        obtain ⟨_, hv⟩ := hv bk bes hb
        obtain ⟨hle, hv⟩ := hv ht.symm
        have hlen : ((bes.drop off).take len).length = len := by rw [List.length_take, List.length_drop]; omega
        rcases hv with ⟨_, rfl, _, hl0⟩ | ⟨b, cap, o, hβ, rfl, ho, hc, _⟩
        · subst hl0
          exact ⟨⟨none, 0, by simp, ⟨by simp, rfl⟩, fun hne => by simp at hne⟩, rfl⟩
        · obtain ⟨hk, hblk⟩ := H.blk n bk bes hb
          rcases hblk with ⟨h1, _⟩ | ⟨b', cs, ty, h1, hheap, _, hve⟩
          · rw [hβ] at h1; cases h1
          · rw [hβ] at h1; cases h1
            have hve' := VE_take len _ _ _ _ (VE_drop off _ _ _ _ hve)
            have hp := pureE_map (fun a v hv => (hs a v hv).2) _ _ _ _ hve'
            refine ⟨⟨some ⟨b, o, none⟩, cap, by rw [List.length_map, hlen], ⟨by rw [List.length_map, hlen]; exact hc, hp⟩, fun hne => ?_⟩, hp⟩
            rw [List.length_map, hlen] at hne
            refine ⟨b, o, bk, rfl, hI b (.inr ⟨n, by simp [hb], hβ⟩), ?_⟩
            rw [ho (by omega)]
            have := VE_map hw (fun a v hv => (hs a v hv).1) _ _ _ _ hve'
            simpa using this
      · rw [if_neg ht]; exact ⟨trivial, rfl⟩
  | .ptr n tip i j, v, ⟨hn, hsh, hv⟩ => by
    simp only [vw]
    cases hb : h n with
    | none => exact ⟨trivial, rfl⟩
    | some b =>
      obtain ⟨bk, bes⟩ := b
      simp only
      by_cases ht : bes.length = tip
      · rw [if_pos ht]
        cases he : bes[i]? with
        | none => exact ⟨trivial, rfl⟩
        | some e =>
          obtain ⟨_, hv⟩ := hv bk bes hb
          obtain ⟨b, hβ, rfl⟩ := hv ht.symm
          obtain ⟨hk, hblk⟩ := H.blk n bk bes hb
          rcases hblk with ⟨h1, _⟩ | ⟨b', cs, ty, h1, hheap, _, hve⟩
          · rw [hβ] at h1; cases h1
          · rw [hβ] at h1; cases h1
            obtain ⟨_, hvc⟩ := VE_get _ _ _ _ hve i e he
            have hvc' := VC_drop j _ _ _ hvc
            rw [Nat.zero_add] at hvc'
            have hve1 : VE C h nx b (i * bk + j) (e.drop j).length [e.drop j] := ⟨rfl, hvc', trivial⟩
            have h1 := VE_map hw (fun a v hv => (hs a v hv).1) _ _ _ _ hve1
            have h2 := pureE_map (fun a v hv => (hs a v hv).2) _ _ _ _ hve1
            simp only [List.map_cons, List.map_nil, AV.pureE, Bool.and_true] at h2
            exact ⟨⟨b, _, rfl, ⟨hI b (.inr ⟨n, by simp [hb], hβ⟩), h2⟩, h1.2.1⟩, h2⟩
      · rw [if_neg ht]; exact ⟨trivial, rfl⟩
theorem vwL_V {C2 : Ctx} {s : AV → AV} (H : HeapRel C h nx) (hw : C2.w = C.w) (hI : ∀ b, C.I b ∨ owned C h b → C2.I b) (hs : ∀ a v, V C h nx a v → V C2 h' nx' (s a) v ∧ (s a).pure = true) :
    ∀ (as : List AV) (vs : List Value), Vs C h nx as vs → Vs C2 h' nx' (vwL h s as) vs ∧ AV.pureL (vwL h s as) = true
  | [], _, hv => ⟨hv, rfl⟩
  | a :: as, _, ⟨v, r, hv, h1, h2⟩ => by
    obtain ⟨h3, h4⟩ := vw_V H hw hI hs a v h1
    obtain ⟨h5, h6⟩ := vwL_V H hw hI hs as r h2
    exact ⟨⟨v, r, hv, h3, h5⟩, by simp only [vwL, AV.pureL, h4, h6]; rfl⟩
end

theorem view_V {C2 : Ctx} (H : HeapRel C h nx) (hw : C2.w = C.w) (hI : ∀ b, C.I b ∨ owned C h b → C2.I b) : ∀ (d : Nat) (a : AV) (v : Value), V C h nx a v → V C2 h' nx' (view d h a) v ∧ (view d h a).pure = true
  | 0, a, v, hv => by
    simp only [view]
    split
    · rename_i hp; exact ⟨V_pure (fun b hb => ⟨hI b (.inl hb), by rw [hw]⟩) a v hp hv, hp⟩
    · exact ⟨trivial, rfl⟩
  | d + 1, a, v, hv => vw_V H hw hI (fun a v hv => view_V H hw hI d a v hv) a v hv

variable {P : Program}

theorem CallsA.mono {f : FuncId} {args : List AV} {K K' : AV → Heap → Nat → Prop} (hc : CallsA P f args h nx K) (hk : ∀ r h' nx', K r h' nx' → K' r h' nx') : CallsA P f args h nx K' :=
  ⟨hc.1, fun C vs H hv => (hc.2 C vs H hv).mono fun e w' ⟨r, h', nx', C', v, a1, a2, a3⟩ => ⟨r, h', nx', C', v, a1, hk _ _ _ a2, a3⟩⟩

/-- A quiet call, where any call may stand. -/
theorem CallsQ.call {f : FuncId} {args : List AV} {r : AV} {K : AV → Heap → Nat → Prop} (hc : CallsQ P f args h nx r) (hk : K r h nx) : CallsA P f args h nx K :=
  CallsA.mono hc fun r' h' nx' ⟨e1, e2, e3⟩ => by subst e1 e2 e3; exact hk

/-- A function of pure values: what it does in an empty memory, it does in every memory; what it makes is laid to rest. -/
theorem CallsQ.of_pure {f : FuncId} {args : List AV} {r : AV} (d : Nat) (hp : AV.pureL args = true) (hc : CallsA P f args (Hp []) 0 fun r' h' _ => view d h' r' = r) (h : Heap) (nx : Nat) : CallsQ P f args h nx r := by
  refine ⟨hc.1, fun C vs H hv => ?_⟩
  have H0 : HeapRel ⟨C.I, fun _ => none, C.w⟩ (Hp []) 0 := ⟨fun _ _ => rfl, fun n k es he => (by cases he), fun n m b h1 => absurd rfl h1, H.old⟩
  have hv0 : Vs ⟨C.I, fun _ => none, C.w⟩ (Hp []) 0 args vs := Vs_pure (C := C) (C' := ⟨C.I, fun _ => none, C.w⟩) (fun b hb => ⟨hb, rfl⟩) args vs hp hv
  refine (hc.2 ⟨C.I, fun _ => none, C.w⟩ vs H0 hv0).mono fun e w' ⟨r', h', nx', C', v, he, hr, hV, H', hst, hw⟩ => ?_
  have hno : ∀ b, ¬ owned ⟨C.I, fun _ => none, C.w⟩ (Hp []) b := fun b ⟨n, h1, _⟩ => h1 rfl
  have hold : ∀ b, b < C.w.heap.size → C'.w.heap[b]? = C.w.heap[b]? := fun b hb => hst.frame b hb (hno b)
  let C2 : Ctx := ⟨fun b => C.I b ∨ (C.w.heap.size ≤ b ∧ b < C'.w.heap.size), C.β, C'.w⟩
  have hst2 : Step C h nx C2 h nx := by
    refine ⟨Nat.le_refl _, fun b hb => .inl hb, fun b hb => ?_, fun n hn k es he => ⟨es, he, Nat.le_refl _, fun _ => rfl⟩, fun b hb => .inl hb, hst.os, hst.tape, hst.output, hst.size, fun b hb _ => hold b hb, fun b hb => hst.sizes b hb⟩
    rcases hb with hb | hb
    · exact .inl hb
    · exact .inr (.inl hb.1)
  have hmv := hst2.moves H
  have H2 : HeapRel C2 h nx := by
    refine ⟨H.new, fun n k es he => ?_, H.inj, fun b hb => ?_⟩
    · obtain ⟨h1, h2⟩ := H.blk n k es he
      refine ⟨h1, ?_⟩
      rcases h2 with h2 | ⟨b, c, ty, h3, h4, h5, h6⟩
      · exact .inl h2
      · have hb : b < C.w.heap.size := (Array.getElem?_eq_some_iff.1 h4).1
        refine .inr ⟨b, c, ty, h3, (hold b hb).trans h4, fun hI => ?_, VE_moves hmv _ _ _ _ (hold b hb) h6⟩
        rcases hI with hI | hI
        · exact h5 hI
        · omega
    · rcases hb with hb | hb
      · exact Nat.lt_of_lt_of_le (H.old b hb) hst.size
      · exact hb.2
  have hI : ∀ b, C'.I b ∨ owned C' h' b → C2.I b := by
    intro b hb
    have hlt : b < C'.w.heap.size := by
      rcases hb with hb | ⟨n, h1, h2⟩
      · exact H'.old b hb
      · exact H'.lt h1 h2
    have : C.I b ∨ C.w.heap.size ≤ b := by
      rcases hb with hb | hb
      · rcases hst.imm' b hb with h1 | h1 | h1
        · exact .inl h1
        · exact .inr h1
        · exact absurd h1 (hno b)
      · rcases hst.owned b hb with h1 | h1
        · exact absurd h1 (hno b)
        · exact .inr h1
    rcases this with h1 | h1
    · exact .inl h1
    · exact .inr ⟨h1, hlt⟩
  obtain ⟨hV2, _⟩ := view_V (C2 := C2) (h' := h) (nx' := nx) H' rfl hI d r' v hV
  rw [hr] at hV2
  exact ⟨r, h, nx, C2, v, he, ⟨rfl, rfl, rfl⟩, hV2, H2, hst2, hw⟩

/-- A value that has no memory behind it. -/
def AV.flat : AV → Bool
  | .int _ | .bool _ | .sc _ | .nils | .undef => true
  | .tup vs => vs.all fun | .int _ | .bool _ | .sc _ | .nils | .undef => true | _ => false
  | _ => false

theorem flat_V {a : AV} {v : Value} (hf : a.flat = true) (hv : V C h nx a v) : V C' h' nx' a v := by
  cases a <;> simp only [AV.flat] at hf <;> try (first | exact hv | cases hf)
  obtain ⟨vs, rfl, hvs⟩ := hv
  refine ⟨vs, rfl, ?_⟩
  rename_i as
  revert vs
  induction as with
  | nil => exact fun vs hv => hv
  | cons b bs ih =>
    intro vs ⟨v, r, e, h1, h2⟩
    simp only [List.all_cons, Bool.and_eq_true] at hf
    refine ⟨v, r, e, ?_, ih hf.2 r h2⟩
    have := hf.1
    cases b <;> first | exact h1 | cases this

theorem vwL_eq (d : Nat) : ∀ as : List AV, (as.map fun a => view (d + 1) h a) = vwL h (view d h) as
  | [] => rfl
  | a :: as => by simp only [List.map_cons, vwL, vwL_eq d as]; rfl

/-- A function of what some names hold now, if what it hands back has no memory behind it. -/
theorem CallsQ.of_view {f : FuncId} {args : List AV} {r : AV} (d : Nat) (hr : r.flat = true) (hc : CallsA P f (args.map fun a => view (d + 1) h a) (Hp []) 0 fun r' _ _ => r' = r) : CallsQ P f args h nx r := by
  refine ⟨hc.1, fun C vs H hv => ?_⟩
  let C0 : Ctx := ⟨fun b => C.I b ∨ owned C h b, fun _ => none, C.w⟩
  have H0 : HeapRel C0 (Hp []) 0 := ⟨fun _ _ => rfl, fun n k es he => (by cases he), fun n m b h1 => absurd rfl h1, fun b hb => by
    rcases hb with hb | ⟨n, h1, h2⟩
    · exact H.old b hb
    · exact H.lt h1 h2⟩
  have hv0 : Vs C0 (Hp []) 0 (args.map fun a => view (d + 1) h a) vs := by
    rw [vwL_eq]
    exact (vwL_V (C2 := C0) H rfl (fun b hb => hb) (fun a v hv => view_V (C2 := C0) H rfl (fun b hb => hb) d a v hv) args vs hv).1
  refine (hc.2 C0 vs H0 hv0).mono fun e w' ⟨r', h', nx', C', v, he, hr', hV, H', hst, hw⟩ => ?_
  have hno : ∀ b, ¬ owned C0 (Hp []) b := fun b ⟨n, h1, _⟩ => h1 rfl
  have hold : ∀ b, b < C.w.heap.size → C'.w.heap[b]? = C.w.heap[b]? := fun b hb => hst.frame b hb (hno b)
  let C2 : Ctx := ⟨C.I, C.β, C'.w⟩
  have hst2 : Step C h nx C2 h nx := ⟨Nat.le_refl _, fun b hb => hb, fun b hb => .inl hb, fun n hn k es he => ⟨es, he, Nat.le_refl _, fun _ => rfl⟩, fun b hb => .inl hb, hst.os, hst.tape, hst.output, hst.size, fun b hb _ => hold b hb, fun b hb => hst.sizes b hb⟩
  have hmv := hst2.moves H
  have H2 : HeapRel C2 h nx := by
    refine ⟨H.new, fun n k es he => ?_, H.inj, fun b hb => Nat.lt_of_lt_of_le (H.old b hb) hst.size⟩
    obtain ⟨h1, h2⟩ := H.blk n k es he
    refine ⟨h1, ?_⟩
    rcases h2 with h2 | ⟨b, c, ty, h3, h4, h5, h6⟩
    · exact .inl h2
    · have hb : b < C.w.heap.size := (Array.getElem?_eq_some_iff.1 h4).1
      exact .inr ⟨b, c, ty, h3, (hold b hb).trans h4, h5, VE_moves hmv _ _ _ _ (hold b hb) h6⟩
  subst hr'
  exact ⟨r', h, nx, C2, v, he, ⟨rfl, rfl, rfl⟩, flat_V hr hV, H2, hst2, hw⟩

/-- A nil slice may be taken for a name's, of no element as yet. -/
theorem thaw_leads {A : AS} {t k : Nat} (ht : A.env t = .nils) (hk : 0 < k) : Leads A ⟨upd A.env t (.sl A.nx 0 0 0), upd A.heap A.nx (some ⟨k, []⟩), A.nx + 1, A.N⟩ := by
  refine ⟨rfl, fun C a r => ?_⟩
  let C2 : Ctx := ⟨C.I, upd C.β A.nx none, C.w⟩
  have hhn : A.heap A.nx = none := r.heap.new _ (Nat.le_refl _)
  have hst : Step C A.heap A.nx C2 (upd A.heap A.nx (some ⟨k, []⟩)) (A.nx + 1) := by
    refine ⟨Nat.le_succ _, fun b hb => hb, fun b hb => .inl hb, fun n hn k' es he => ?_, fun b ⟨n, h1, h2⟩ => ?_, rfl, rfl, ⟨rfl, Nat.le_refl _⟩, Nat.le_refl _, fun _ _ _ => rfl, fun _ _ => rfl⟩
    · have hne : n ≠ A.nx := by omega
      simp only [upd, if_neg hne] at he
      exact ⟨es, he, Nat.le_refl _, fun _ => by simp [C2, upd, hne]⟩
    · by_cases hne : n = A.nx
      · subst hne; simp [C2, upd] at h2
      · simp only [C2, upd, if_neg hne] at h1 h2
        exact .inl ⟨n, h1, h2⟩
  have hmv := hst.moves r.heap
  have H2 : HeapRel C2 (upd A.heap A.nx (some ⟨k, []⟩)) (A.nx + 1) := by
    refine ⟨fun n hn => ?_, fun n k' es he => ?_, fun n m b h1 h2 h3 h4 => ?_, r.heap.old⟩
    · have hne : n ≠ A.nx := by omega
      simp only [upd, if_neg hne]; exact r.heap.new n (by omega)
    · by_cases hne : n = A.nx
      · subst hne
        simp only [upd, if_true, Option.some.injEq, Blk.mk.injEq] at he
        obtain ⟨rfl, rfl⟩ := he
        exact ⟨hk, .inl ⟨by simp [C2, upd], rfl⟩⟩
      · simp only [upd, if_neg hne] at he
        obtain ⟨h1, h2⟩ := r.heap.blk n k' es he
        refine ⟨h1, ?_⟩
        rcases h2 with ⟨h2, h3⟩ | ⟨b, c, ty, h3, h4, h5, h6⟩
        · exact .inl ⟨by simp [C2, upd, hne, h2], h3⟩
        · exact .inr ⟨b, c, ty, by simp [C2, upd, hne, h3], h4, h5, VE_moves hmv _ _ _ _ rfl h6⟩
    · have f : ∀ n b, C2.β n = some b → n ≠ A.nx := fun n b hb e => by subst e; simp [C2, upd] at hb
      have e1 := f n b h3
      have e2 := f m b h4
      simp only [C2, upd, if_neg e1, if_neg e2] at h1 h2 h3 h4
      exact r.heap.inj n m b h1 h2 h3 h4
  refine ⟨C2, ⟨r.defers, r.size, fun s => ?_, H2⟩, rfl, hst⟩
  show V C2 _ _ (upd A.env t (.sl A.nx 0 0 0) s) _
  by_cases hs : s = t
  · have e1 : upd A.env t (.sl A.nx 0 0 0) s = .sl A.nx 0 0 0 := by simp [upd, hs]
    rw [e1]
    have hv := r.env t
    rw [ht] at hv
    have hv : a.tmps.getD t undef = .slice none 0 0 := hv
    rw [hs, hv]
    refine ⟨Nat.lt_succ_self _, ⟨_, _, rfl⟩, fun k' es he => ?_⟩
    simp only [upd, if_true, Option.some.injEq, Blk.mk.injEq] at he
    obtain ⟨rfl, rfl⟩ := he
    exact ⟨Nat.le_refl _, fun _ => ⟨Nat.le_refl _, .inl ⟨by simp [C2, upd], rfl, rfl, rfl⟩⟩⟩
  · have e1 : upd A.env t (.sl A.nx 0 0 0) s = A.env s := by simp [upd, hs]
    rw [e1]
    exact V_moves hmv _ _ (r.env s)
end
end Go.Abs
