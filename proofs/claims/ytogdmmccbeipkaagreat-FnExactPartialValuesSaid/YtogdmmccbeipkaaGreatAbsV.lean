/- How abstract values and memories keep their meaning while the concrete side goes on. -/
import Derived.Test.YtogdmmccbeipkaaGreatAbsDefs
set_option linter.all false
namespace Go.Abs

/-- What V looks at is as it was. -/
structure Moves (C : Ctx) (h : Heap) (nx : Nat) (C' : Ctx) (h' : Heap) (nx' : Nat) : Prop where
  imm : ∀ b, C.I b → C'.I b ∧ C'.w.heap[b]? = C.w.heap[b]?
  le : nx ≤ nx'
  names : ∀ n, n < nx → ∀ k es', h' n = some ⟨k, es'⟩ → ∃ es, h n = some ⟨k, es⟩ ∧ es.length ≤ es'.length ∧
    (es.length = es'.length → C'.β n = C.β n ∧ ∀ b, C.β n = some b → bsize C'.w b = bsize C.w b)

theorem cell?_block {w w' : World} {b : Nat} (h : w'.heap[b]? = w.heap[b]?) (o : Nat) (s : Option Nat) : w'.cell? ⟨b, o, s⟩ = w.cell? ⟨b, o, s⟩ := by
  simp only [World.cell?, h]

section
variable {C C' : Ctx} {h h' : Heap} {nx nx' : Nat}

mutual
theorem V_moves (m : Moves C h nx C' h' nx') : ∀ (a : AV) (v : Value), V C h nx a v → V C' h' nx' a v
  | .int _, _, hv => hv
  | .bool _, _, hv => hv
  | .sc _, _, hv => hv
  | .nils, _, hv => hv
  | .undef, _, _ => trivial
  | .lst es, v, ⟨a, c, hv, hc, hb⟩ => ⟨a, c, hv, hc, fun hne =>
      let ⟨b, off, k, ha, hi, he⟩ := hb hne
      ⟨b, off, k, ha, (m.imm b hi).1, VE_moves m es b off k (m.imm b hi).2 he⟩⟩
  | .sl n tip off len, v, ⟨hn, hs, hv⟩ => ⟨Nat.lt_of_lt_of_le hn m.le, hs, fun k es' he' => by
      obtain ⟨es, he, hle, hb⟩ := m.names n hn k es' he'
      obtain ⟨h1, h2⟩ := hv k es he
      refine ⟨Nat.le_trans h1 hle, fun ht => ?_⟩
      have hlen : es.length = es'.length := by omega
      obtain ⟨h3, h4⟩ := h2 (by omega)
      obtain ⟨e1, e2⟩ := hb hlen
      refine ⟨h3, ?_⟩
      rcases h4 with ⟨h5, h6⟩ | ⟨b, cap, o, h5, h6, h7, h8, h9⟩
      · exact .inl ⟨e1.trans h5, h6⟩
      · exact .inr ⟨b, cap, o, e1.trans h5, h6, h7, h8, by rw [e2 b h5]; exact h9⟩⟩
  | .ptr n tip i j, v, ⟨hn, hs, hv⟩ => ⟨Nat.lt_of_lt_of_le hn m.le, hs, fun k es' he' => by
      obtain ⟨es, he, hle, hb⟩ := m.names n hn k es' he'
      obtain ⟨h1, h2⟩ := hv k es he
      refine ⟨Nat.le_trans h1 hle, fun ht => ?_⟩
      have hlen : es.length = es'.length := by omega
      obtain ⟨b, h5, h6⟩ := h2 (by omega)
      exact ⟨b, (hb hlen).1.trans h5, h6⟩⟩
  | .iptr cs, v, ⟨b, off, hv, ⟨hi, hp⟩, hc⟩ => ⟨b, off, hv, ⟨(m.imm b hi).1, hp⟩, VC_moves m cs b off (m.imm b hi).2 hc⟩
  | .agg cs, v, ⟨vs, hv, hs⟩ => ⟨vs, hv, Vs_moves m cs vs hs⟩
  | .tup cs, v, ⟨vs, hv, hs⟩ => ⟨vs, hv, Vs_moves m cs vs hs⟩
  | .fn _ a c, v, ⟨vs, us, hv, ha, hc⟩ => ⟨vs, us, hv, Vs_moves m a vs ha, Vs_moves m c us hc⟩
theorem Vs_moves (m : Moves C h nx C' h' nx') : ∀ (as : List AV) (vs : List Value), Vs C h nx as vs → Vs C' h' nx' as vs
  | [], _, hv => hv
  | a :: as, _, ⟨v, r, hv, h1, h2⟩ => ⟨v, r, hv, V_moves m a v h1, Vs_moves m as r h2⟩
theorem VC_moves (m : Moves C h nx C' h' nx') : ∀ (as : List AV) (b off : Nat), C'.w.heap[b]? = C.w.heap[b]? → VC C h nx b off as → VC C' h' nx' b off as
  | [], _, _, _, _ => trivial
  | a :: as, b, off, hb, ⟨⟨v, h1, h2⟩, h3⟩ => ⟨⟨v, (cell?_block hb off none).trans h1, V_moves m a v h2⟩, VC_moves m as b (off + 1) hb h3⟩
theorem VE_moves (m : Moves C h nx C' h' nx') : ∀ (es : List (List AV)) (b off k : Nat), C'.w.heap[b]? = C.w.heap[b]? → VE C h nx b off k es → VE C' h' nx' b off k es
  | [], _, _, _, _, _ => trivial
  | e :: es, b, off, k, hb, ⟨h1, h2, h3⟩ => ⟨h1, VC_moves m e b off hb h2, VE_moves m es b (off + k) k hb h3⟩
end

theorem Moves.refl : Moves C h nx C h nx := ⟨fun _ hb => ⟨hb, rfl⟩, Nat.le_refl _, fun _ _ k es' he => ⟨es', he, Nat.le_refl _, fun _ => ⟨rfl, fun _ _ => rfl⟩⟩⟩

theorem Step.moves (s : Step C h nx C' h' nx') (H : HeapRel C h nx) : Moves C h nx C' h' nx' where
  imm b hb := ⟨s.imm b hb, s.frame b (H.old b hb) fun ⟨n, hn, hβ⟩ => by
    cases hh : h n with
    | none => exact hn hh
    | some bl =>
      obtain ⟨k, es⟩ := bl
      rcases (H.blk n k es hh).2 with ⟨h1, _⟩ | ⟨b', _, _, h1, _, h2, _⟩
      · rw [hβ] at h1; cases h1
      · rw [hβ] at h1; cases h1; exact h2 hb⟩
  le := s.le
  names n hn k es' he := by
    obtain ⟨es, h1, h2, h3⟩ := s.names n hn k es' he
    refine ⟨es, h1, h2, fun e => ⟨h3 e, fun b hb => s.sizes b ?_⟩⟩
    rcases (H.blk n k es h1).2 with ⟨h4, _⟩ | ⟨b', c, ty, h4, h5, _⟩
    · rw [hb] at h4; cases h4
    · rw [hb] at h4; cases h4
      exact (Array.getElem?_eq_some_iff.1 h5).1

theorem Step.refl : Step C h nx C h nx where
  le := Nat.le_refl _
  imm _ hb := hb
  imm' _ hb := .inl hb
  names _ _ _ es' he := ⟨es', he, Nat.le_refl _, fun _ => rfl⟩
  owned _ hb := .inl hb
  os := rfl
  tape := rfl
  output := ⟨rfl, Nat.le_refl _⟩
  size := Nat.le_refl _
  frame _ _ _ := rfl
  sizes _ _ := rfl

theorem Step.trans {C'' : Ctx} {h'' : Heap} {nx'' : Nat} (s : Step C h nx C' h' nx') (t : Step C' h' nx' C'' h'' nx'') : Step C h nx C'' h'' nx'' where
  le := Nat.le_trans s.le t.le
  imm b hb := t.imm b (s.imm b hb)
  imm' b hb := by
    rcases t.imm' b hb with h1 | h1 | h1
    · exact s.imm' b h1
    · exact .inr (.inl (Nat.le_trans s.size h1))
    · rcases s.owned b h1 with h2 | h2
      · exact .inr (.inr h2)
      · exact .inr (.inl h2)
  names n hn k es'' he := by
    obtain ⟨es', h1, h2, h3⟩ := t.names n (Nat.lt_of_lt_of_le hn s.le) k es'' he
    obtain ⟨es, h4, h5, h6⟩ := s.names n hn k es' h1
    exact ⟨es, h4, Nat.le_trans h5 h2, fun e => (h3 (by omega)).trans (h6 (by omega))⟩
  owned b hb := by
    rcases t.owned b hb with h1 | h1
    · exact s.owned b h1
    · exact .inr (Nat.le_trans s.size h1)
  os := t.os.trans s.os
  tape := t.tape.trans s.tape
  output := ⟨t.output.1.trans s.output.1, Nat.le_trans s.output.2 t.output.2⟩
  size := Nat.le_trans s.size t.size
  frame b hb hn := by
    rw [t.frame b (Nat.lt_of_lt_of_le hb s.size) fun ho => ?_, s.frame b hb hn]
    rcases s.owned b ho with h1 | h1
    · exact hn h1
    · omega
  sizes b hb := (t.sizes b (Nat.lt_of_lt_of_le hb s.size)).trans (s.sizes b hb)

theorem pureL_drop : ∀ (n : Nat) (cs : List AV), AV.pureL cs = true → AV.pureL (cs.drop n) = true
  | 0, _, h => h
  | _ + 1, [], _ => rfl
  | n + 1, _ :: cs, h => by
    simp only [AV.pureL, Bool.and_eq_true] at h
    exact pureL_drop n cs h.2
theorem pureE_drop : ∀ (n : Nat) (es : List Cells), AV.pureE es = true → AV.pureE (es.drop n) = true
  | 0, _, h => h
  | _ + 1, [], _ => rfl
  | n + 1, _ :: es, h => by
    simp only [AV.pureE, Bool.and_eq_true] at h
    exact pureE_drop n es h.2
theorem pureE_take : ∀ (n : Nat) (es : List Cells), AV.pureE es = true → AV.pureE (es.take n) = true
  | 0, _, _ => rfl
  | _ + 1, [], _ => rfl
  | n + 1, e :: es, h => by
    simp only [AV.pureE, Bool.and_eq_true, List.take_succ_cons] at h ⊢
    exact ⟨h.1, pureE_take n es h.2⟩
theorem pureE_get : ∀ (es : List Cells) (i : Nat) (e : Cells), AV.pureE es = true → es[i]? = some e → AV.pureL e = true
  | [], _, _, _, h => by simp at h
  | _ :: _, 0, e, h, he => by
    simp only [AV.pureE, Bool.and_eq_true] at h
    simp at he; subst he; exact h.1
  | _ :: es, i + 1, e, h, he => by
    simp only [AV.pureE, Bool.and_eq_true] at h
    exact pureE_get es i e h.2 (by simpa using he)

theorem Vs_length : ∀ (as : List AV) (vs : List Value), Vs C h nx as vs → vs.length = as.length
  | [], _, hv => by rw [show _ = [] from hv]; rfl
  | _ :: as, _, ⟨_, r, hv, _, h2⟩ => by rw [hv]; simp [Vs_length as r h2]

theorem Vs_get : ∀ (as : List AV) (vs : List Value), Vs C h nx as vs → ∀ (i : Nat) (a : AV), as[i]? = some a → ∃ v, vs[i]? = some v ∧ V C h nx a v
  | [], _, _, i, a, ha => by simp at ha
  | _ :: as, _, ⟨v, r, hv, h1, h2⟩, 0, a, ha => by
    subst hv
    simp at ha
    exact ⟨v, rfl, ha ▸ h1⟩
  | _ :: as, _, ⟨v, r, hv, h1, h2⟩, i + 1, a, ha => by
    subst hv
    simp only [List.getElem?_cons_succ] at ha ⊢
    exact Vs_get as r h2 i a ha

theorem Vs_append : ∀ (as bs : List AV) (vs us : List Value), Vs C h nx as vs → Vs C h nx bs us → Vs C h nx (as ++ bs) (vs ++ us)
  | [], _, _, _, h1, h2 => by rw [show _ = [] from h1]; exact h2
  | _ :: as, bs, _, us, ⟨v, r, hv, h1, h2⟩, h3 => ⟨v, r ++ us, by rw [hv]; rfl, h1, Vs_append as bs r us h2 h3⟩

theorem Vs_take : ∀ (n : Nat) (as : List AV) (vs : List Value), Vs C h nx as vs → Vs C h nx (as.take n) (vs.take n)
  | 0, _, _, _ => by simp [Vs]
  | _ + 1, [], _, hv => by rw [show _ = [] from hv]; simp [Vs]
  | n + 1, _ :: as, _, ⟨v, r, hv, h1, h2⟩ => ⟨v, r.take n, by rw [hv]; rfl, h1, Vs_take n as r h2⟩

theorem Vs_drop : ∀ (n : Nat) (as : List AV) (vs : List Value), Vs C h nx as vs → Vs C h nx (as.drop n) (vs.drop n)
  | 0, _, _, hv => hv
  | _ + 1, [], _, hv => by rw [show _ = [] from hv]; simp [Vs]
  | n + 1, _ :: as, _, ⟨v, r, hv, h1, h2⟩ => by rw [hv]; exact Vs_drop n as r h2

theorem VC_drop : ∀ (n : Nat) (as : List AV) (b off : Nat), VC C h nx b off as → VC C h nx b (off + n) (as.drop n)
  | 0, _, _, _, hv => hv
  | _ + 1, [], _, _, _ => by simp [VC]
  | n + 1, _ :: as, b, off, ⟨_, h2⟩ => by
    have := VC_drop n as b (off + 1) h2
    rw [show off + (n + 1) = off + 1 + n by omega]
    exact this

theorem VC_get : ∀ (as : List AV) (b off : Nat), VC C h nx b off as → ∀ (i : Nat) (a : AV), as[i]? = some a → ∃ v, C.w.cell? ⟨b, off + i, none⟩ = some v ∧ V C h nx a v
  | [], _, _, _, i, a, ha => by simp at ha
  | _ :: as, b, off, ⟨⟨v, h1, h2⟩, h3⟩, 0, a, ha => by simp at ha; exact ⟨v, h1, ha ▸ h2⟩
  | _ :: as, b, off, ⟨_, h3⟩, i + 1, a, ha => by
    simp only [List.getElem?_cons_succ] at ha
    have := VC_get as b (off + 1) h3 i a ha
    rw [show off + (i + 1) = off + 1 + i by omega]
    exact this

theorem VE_get : ∀ (es : List Cells) (b off k : Nat), VE C h nx b off k es → ∀ (i : Nat) (e : Cells), es[i]? = some e → e.length = k ∧ VC C h nx b (off + i * k) e
  | [], _, _, _, _, i, e, he => by simp at he
  | _ :: es, b, off, k, ⟨h1, h2, h3⟩, 0, e, he => by simp at he; subst he; exact ⟨h1, by simpa using h2⟩
  | _ :: es, b, off, k, ⟨h1, h2, h3⟩, i + 1, e, he => by
    simp only [List.getElem?_cons_succ] at he
    have := VE_get es b (off + k) k h3 i e he
    rw [show off + (i + 1) * k = off + k + i * k by rw [Nat.succ_mul]; omega]
    exact this

theorem VE_take : ∀ (n : Nat) (es : List Cells) (b off k : Nat), VE C h nx b off k es → VE C h nx b off k (es.take n)
  | 0, _, _, _, _, _ => by simp [VE]
  | _ + 1, [], _, _, _, _ => by simp [VE]
  | n + 1, _ :: es, b, off, k, ⟨h1, h2, h3⟩ => ⟨h1, h2, VE_take n es b (off + k) k h3⟩

theorem VE_drop : ∀ (n : Nat) (es : List Cells) (b off k : Nat), VE C h nx b off k es → VE C h nx b (off + n * k) k (es.drop n)
  | 0, _, _, _, _, hv => by simpa using hv
  | _ + 1, [], _, _, _, _ => by simp [VE]
  | n + 1, _ :: es, b, off, k, ⟨_, _, h3⟩ => by
    have := VE_drop n es b (off + k) k h3
    rw [show off + (n + 1) * k = off + k + n * k by rw [Nat.succ_mul]; omega]
    exact this

theorem VE_append : ∀ (es fs : List Cells) (b off k : Nat), VE C h nx b off k es → VE C h nx b (off + es.length * k) k fs → VE C h nx b off k (es ++ fs)
  | [], fs, b, off, k, _, h2 => by simpa using h2
  | _ :: es, fs, b, off, k, ⟨h1, h2, h3⟩, h4 => ⟨h1, h2, VE_append es fs b (off + k) k h3 (by
      rw [show off + k + es.length * k = off + (es.length + 1) * k by rw [Nat.succ_mul]; omega]; exact h4)⟩

theorem VE_lengths : ∀ (es : List Cells) (b off k : Nat), VE C h nx b off k es → ∀ e ∈ es, e.length = k
  | [], _, _, _, _, e, he => by simp at he
  | _ :: es, b, off, k, ⟨h1, _, h3⟩, e, he => by
    rcases List.mem_cons.1 he with rfl | he
    · exact h1
    · exact VE_lengths es b (off + k) k h3 e he
end
end Go.Abs
