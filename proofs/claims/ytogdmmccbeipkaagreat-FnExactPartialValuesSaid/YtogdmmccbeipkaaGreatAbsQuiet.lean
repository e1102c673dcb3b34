/- Operations that leave memory alone: their verification conditions are sound. -/
import Derived.Test.YtogdmmccbeipkaaGreatAbsV
import Derived.Laws.Slices
import Derived.Laws.Cells
import Derived.Laws.Small
import Derived.Laws.Rows
import Derived.Laws.Append
import Derived.Laws.Tables
set_option linter.all false
namespace Go.Abs
open Go

section
variable {P : Program} {A : AS} {k : AV → Prop} {C : Ctx} {a : Act} {o : Oper}

/-- What operation o makes of operands that stand for A's, wherever: the value that stands for av. -/
def Quiet (P : Program) (o : Oper) (A : AS) (av : AV) : Prop :=
  ∀ (C : Ctx) (a : Act), HeapRel C A.heap A.nx → (∀ x ∈ o.op.operands.toList, V C A.heap A.nx (A.ev x) (a.eval x)) →
    ∃ v, (execOp a.eval o).run P C.w = .ok (.value v) C.w ∧ V C A.heap A.nx av v

theorem V_ofConst {h : Heap} {nx : Nat} (v : Value) : V C h nx (ofConst v) v := by
  unfold ofConst
  split <;> simp [V]

theorem V_ev {h : Heap} {nx : Nat} (hv : ∀ t, V C h nx (A.env t) (a.tmps.getD t undef)) (x : Operand) : V C h nx (A.ev x) (a.eval x) := by
  cases x with
  | tmp t => exact hv t
  | const v => exact V_ofConst v
  | global g => simp [AS.ev, Act.eval, V]
  | func f => exact ⟨[], [], rfl, rfl, rfl⟩

theorem wrap_in {n : Int} (h : InR n) : IntKind.i64.wrap n = n := by
  obtain ⟨h1, h2⟩ := h
  rw [IntKind.wrap_i64]; omega

theorem V_cells_le {h : Heap} {nx : Nat} : ∀ (cs : Cells) (b off : Nat), VC C h nx b off cs → ∃ vs, vs.length = cs.length ∧ Vs C h nx cs vs ∧ ∀ j v, vs[j]? = some v → C.w.cell? ⟨b, off + j, none⟩ = some v
  | [], _, _, _ => ⟨[], rfl, rfl, fun j v hj => by simp at hj⟩
  | c :: cs, b, off, ⟨⟨v, h1, h2⟩, h3⟩ => by
    obtain ⟨vs, hl, hvs, hc⟩ := V_cells_le cs b (off + 1) h3
    refine ⟨v :: vs, by simp [hl], ⟨v, vs, rfl, h2, hvs⟩, fun j u hj => ?_⟩
    cases j with
    | zero => simp at hj; subst hj; exact h1
    | succ j =>
      simp only [List.getElem?_cons_succ] at hj
      have := hc j u hj
      rw [show off + (j + 1) = off + 1 + j by omega]
      exact this

def loadVal (g : Bool) (n : Nat) (vs : List Value) : Value := if g then .agg ⟨vs.take n⟩ else vs.headD undef

theorem acells_spec {g : Bool} {n : Nat} {cs : Cells} (h : acells g n cs k) : ∃ av, k av ∧ n ≤ cs.length ∧ (g = false → n = 1) ∧
    ∀ (C : Ctx) h nx vs, Vs C h nx cs vs → V C h nx av (loadVal g n vs) := by
  cases g with
  | true =>
    obtain ⟨h1, h2⟩ := h
    exact ⟨_, h2, h1, by simp, fun C h nx vs hv => ⟨vs.take n, rfl, Vs_take n cs vs hv⟩⟩
  | false =>
    cases cs with
    | nil => exact h.elim
    | cons c cs =>
      obtain ⟨h1, h2⟩ := h
      subst h1
      exact ⟨c, h2, by simp, fun _ => rfl, fun C h nx vs ⟨v, r, hv, h3, _⟩ => by subst hv; exact h3⟩

theorem tiOf_agg {t : Nat} {d : TypeDesc} (h : P.underlying t = some d) : (tiOf P t).agg = (match d with | .struct _ | .array _ _ => true | _ => false) := by
  simp only [tiOf, h]; cases d <;> rfl
theorem tiOf_size {t : Nat} {i : TypeInfo} (h : P.info? t = some i) : (tiOf P t).size = i.size := by simp only [tiOf, h]

theorem run_isAgg' {t : Nat} {d : TypeDesc} (h : P.underlying t = some d) (w : World) : (isAgg t).run P w = .ok (tiOf P t).agg w := by
  rw [tiOf_agg h]
  simp only [isAgg, Sem.run_bind, run_underlying h, Result.andThen]
  cases d <;> rfl

theorem run_sizeOf' {t : Nat} {i : TypeInfo} (h : P.info? t = some i) (w : World) : (sizeOf t).run P w = .ok (tiOf P t).size w := by
  rw [tiOf_size h]
  simp [sizeOf, typeInfo, h]

theorem run_loadAt' {t b off : Nat} {vs : List Value} {w : World} (ht : typOk P t = true) (hn : (tiOf P t).size ≤ vs.length) (hs : (tiOf P t).agg = false → (tiOf P t).size = 1)
    (hc : ∀ j v, vs[j]? = some v → w.cell? ⟨b, off + j, none⟩ = some v) :
    (Instr.loadAt t (.pointer (some ⟨b, off, none⟩))).run P w = .ok (loadVal (tiOf P t).agg (tiOf P t).size vs) w := by
  simp only [typOk, Bool.and_eq_true, Option.isSome_iff_exists] at ht
  obtain ⟨⟨i, hi⟩, ⟨d, hd⟩⟩ := ht
  simp only [Instr.loadAt, Instr.sureAddr, loadVar, Sem.run_bind, Sem.run_pure, Result.andThen, run_isAgg' hd]
  cases hg : (tiOf P t).agg with
  | true =>
    have hl := run_loadCells_list (P := P) w ⟨b, off, none⟩ (vs.take (tiOf P t).size) (fun j v hj => by
      rw [Addr.add_lit]
      rw [List.getElem?_take] at hj
      split at hj
      · exact hc j v hj
      · cases hj)
    rw [List.length_take, Nat.min_eq_left hn] at hl
    simp [run_sizeOf' hi, Result.andThen, hl, loadVal]
  | false =>
    have h1 := hs hg
    rw [h1] at hn
    cases vs with
    | nil => simp at hn
    | cons v vs =>
      have := hc 0 v rfl
      simp only [Nat.add_zero] at this
      simp [loadVal, this]

theorem execOp_run_value {P : Program} {ρ : Operand → Value} {o : Oper} {s : Sem Value} {w : World} {v : Value}
    (he : execOp ρ o = (do pure (.value (← s)))) (hs : s.run P w = .ok v w) : (execOp ρ o).run P w = .ok (.value v) w := by
  rw [he]
  simp [hs, Result.andThen]

theorem aload_spec {t : Nat} {p : AV} (ht : typOk P t = true) (h : aload (tiOf P) A t p k) : ∃ av, k av ∧ ∀ (C : Ctx) pv, HeapRel C A.heap A.nx → V C A.heap A.nx p pv →
    ∃ v, (Instr.loadAt t pv).run P C.w = .ok v C.w ∧ V C A.heap A.nx av v := by
  unfold aload at h
  split at h
  · rename_i cs
    obtain ⟨av, h1, h2, h3, h4⟩ := acells_spec h
    refine ⟨av, h1, fun C pv _ hv => ?_⟩
    obtain ⟨b, off, rfl, _, hc⟩ := hv
    obtain ⟨vs, hl, hvs, hcell⟩ := V_cells_le cs b off hc
    exact ⟨_, run_loadAt' ht (hl ▸ h2) h3 hcell, h4 C _ _ vs hvs⟩
  · rename_i n tip i j
    unfold aloadB at h
    split at h
    · rename_i bl hb
      obtain ⟨ht1, h⟩ := h
      unfold aloadE at h
      split at h
      · rename_i e he
        obtain ⟨av, h1, h2, h3, h4⟩ := acells_spec h
        refine ⟨av, h1, fun C pv H hv => ?_⟩
        obtain ⟨_, _, hv⟩ := hv
        obtain ⟨b, hβ, rfl⟩ := (hv bl.k bl.es hb).2 ht1.symm
        obtain ⟨_, hblk⟩ := H.blk n bl.k bl.es hb
        rcases hblk with ⟨hnone, _⟩ | ⟨b', c, ty, hb', hheap, _, hve⟩
        · rw [hβ] at hnone; cases hnone
        · rw [hβ] at hb'; cases hb'
          obtain ⟨_, hvc⟩ := VE_get bl.es b 0 bl.k hve i e he
          have hvc' := VC_drop j e b _ hvc
          rw [Nat.zero_add] at hvc'
          obtain ⟨vs, hl, hvs, hcell⟩ := V_cells_le (e.drop j) b _ hvc'
          exact ⟨_, run_loadAt' ht (hl ▸ h2) h3 hcell, h4 C _ _ vs hvs⟩
      · exact h.elim
    · exact h.elim
  · exact h.elim

theorem run_fieldAt' {s f : Nat} {fs : Array Field} {fd : Field} {i : TypeInfo} (hu : P.underlying s = some (.struct fs)) (hf : fs[f]? = some fd) (hi : P.info? fd.type = some i) (hs : 0 < i.size)
    (w : World) (b off : Nat) : (Instr.fieldAt s (.pointer (some ⟨b, off, none⟩)) f).run P w = .ok (.pointer (some ⟨b, off + fd.offset, none⟩)) w := by
  have hne : ¬ (i.size = 0) := by omega
  simp [Instr.fieldAt, run_underlying hu, hf, Instr.sureAddr, fieldPlace, sizeOf, typeInfo, hi, hne, Result.andThen, Addr.add_lit]

theorem fieldOk_spec {s f : Nat} (ht : fieldOk P s f = true) : ∃ fs fd i, P.underlying s = some (.struct fs) ∧ fs[f]? = some fd ∧ P.info? fd.type = some i ∧ 0 < i.size ∧ typOk P fd.type = true ∧ (tiOf P s).fields[f]? = some (fd.offset, fd.type) := by
  unfold fieldOk at ht
  split at ht
  · rename_i fs hu
    split at ht
    · rename_i fd hf
      simp only [Bool.and_eq_true] at ht
      obtain ⟨ht1, ht⟩ := ht
      split at ht
      · rename_i i hi
        exact ⟨fs, fd, i, hu, hf, hi, by simpa using ht, ht1, by simp only [tiOf, hu, List.getElem?_map, Array.getElem?_toList, hf, Option.map_some]⟩
      · cases ht
    · cases ht
  · cases ht

/-- The address of a live pointer. -/
theorem V_ptr_live {C : Ctx} {h : Heap} {nx n tip i j : Nat} {b : Blk} {pv : Value} (hb : h n = some b) (ht : b.es.length = tip) (hv : V C h nx (.ptr n tip i j) pv) :
    ∃ bl, C.β n = some bl ∧ pv = .pointer (some ⟨bl, i * b.k + j, none⟩) :=
  (hv.2.2 b.k b.es hb).2 ht.symm

theorem afieldAddr_spec {s f : Nat} {x : AV} {hp : Heap} (ht : fieldOk P s f = true) (h : afieldAddr hp (tiOf P s).fields[f]? x k) : ∃ av, k av ∧ ∀ (C : Ctx) nx pv, V C hp nx x pv →
    (∃ v, (Instr.fieldAt s pv f).run P C.w = .ok v C.w ∧ V C hp nx av v) := by
  obtain ⟨fs, fd, i, hu, hf, hi, hs, _, hget⟩ := fieldOk_spec ht
  rw [hget] at h
  cases x <;> try exact h.elim
  case iptr cs =>
    refine ⟨_, h, fun C nx pv hv => ?_⟩
    obtain ⟨b, o, rfl, hI, hc⟩ := hv
    exact ⟨_, run_fieldAt' hu hf hi hs C.w b o, b, o + fd.offset, rfl, ⟨hI.1, pureL_drop _ _ hI.2⟩, VC_drop fd.offset _ b o hc⟩
  case ptr n tip i' j =>
    simp only [afieldAddr] at h
    unfold alive at h
    split at h
    · rename_i b hb
      refine ⟨_, h.2, fun C nx pv hv => ?_⟩
      obtain ⟨bl, hβ, rfl⟩ := V_ptr_live hb h.1 hv
      refine ⟨_, run_fieldAt' hu hf hi hs C.w _ _, hv.1, ⟨_, rfl⟩, fun k es he => ?_⟩
      rw [hb] at he
      cases he
      exact ⟨by simp [h.1], fun _ => ⟨bl, hβ, by simp [Nat.add_assoc]⟩⟩
    · exact h.elim

theorem elemOk_spec {t : Nat} (ht : elemOk P t = true) : ∃ e i z, P.underlying t = some (.slice e) ∧ P.info? e = some i ∧ 0 < i.size ∧ i.bytes ≤ 128 ∧ i.zero = some z ∧ z.cells.size = i.size ∧ (tiOf P t).elem = e := by
  unfold elemOk at ht
  split at ht
  · rename_i e hu
    split at ht
    · rename_i i hi
      simp only [Bool.and_eq_true, decide_eq_true_eq] at ht
      obtain ⟨⟨h1, h2⟩, h3⟩ := ht
      split at h3
      · rename_i z hz
        exact ⟨e, i, z, hu, hi, h1, h2, hz, by simpa using h3, by simp [tiOf, hu]⟩
      · cases h3
    · cases ht
  · cases ht

theorem elem_of {t e : Nat} (h : P.underlying t = some (.slice e)) : P.underlying t = some (.slice (P.elem t)) := by
  rw [h]; simp [Program.elem, h]

theorem run_indexAt' {t e : Nat} {i : TypeInfo} (hu : P.underlying t = some (.slice e)) (hi : P.info? e = some i) (w : World) (b off len cap : Nat) (ix : Int) (h0 : 0 ≤ ix) (h1 : ix < len) :
    (Instr.indexAt t (.slice (some ⟨b, off, none⟩) len cap) (.int .i64 ix)).run P w = .ok (.pointer (some ⟨b, off + ix.toNat * i.size, none⟩)) w := by
  simp [Instr.indexAt, run_underlying hu, asIntOf, h0, h1, sizeOf, typeInfo, hi, Result.andThen, Addr.add_lit]

theorem aindexAddr_spec {t : Nat} {x y : AV} (ht : elemOk P t = true) (h : aindexAddr (tiOf P) A t x y k) : ∃ av, k av ∧ ∀ (C : Ctx) xv yv, HeapRel C A.heap A.nx → V C A.heap A.nx x xv → V C A.heap A.nx y yv →
    (∃ v, (Instr.indexAt t xv yv).run P C.w = .ok v C.w ∧ V C A.heap A.nx av v) := by
  obtain ⟨e, i, z, hu, hi, hs, _, _, _, he⟩ := elemOk_spec ht
  cases x <;> cases y <;> try exact h.elim
  case lst.int es ix =>
    obtain ⟨h0, h⟩ := h
    unfold aidx at h
    split at h
    · rename_i el hel
      obtain ⟨hl, h⟩ := h
      refine ⟨_, h, fun C xv yv _ hx hy => ?_⟩
      obtain ⟨a, c, rfl, hc, hb⟩ := hx
      have hlt : ix.toNat < es.length := (List.getElem?_eq_some_iff.1 hel).1
      obtain ⟨b, off, kk, rfl, hI, hve⟩ := hb (by omega)
      obtain rfl : yv = .int .i64 ix := hy
      obtain ⟨hk, hvc⟩ := VE_get es b off kk hve _ el hel
      rw [he, tiOf_size hi] at hl
      refine ⟨_, run_indexAt' hu hi C.w b off es.length c ix h0 (by omega), b, _, rfl, ⟨hI, pureE_get es _ el hc.2 hel⟩, ?_⟩
      rw [← hl, hk]; exact hvc
    · exact h.elim
  case sl.int n tip off len ix =>
    obtain ⟨⟨h0, h1⟩, h⟩ := h
    unfold aliveK at h
    split at h
    · rename_i bl hbl
      obtain ⟨bk, bes⟩ := bl
      obtain ⟨⟨ht1, ht2⟩, h⟩ := h
      refine ⟨_, h, fun C xv yv H hx hy => ?_⟩
      obtain rfl : yv = .int .i64 ix := hy
      obtain ⟨hn, _, hx⟩ := hx
      obtain ⟨hle1, hx⟩ := hx bk bes hbl
      obtain ⟨hle, hx⟩ := hx ht1.symm
      simp only [he, tiOf_size hi] at ht2
      subst ht2
      rcases hx with ⟨_, _, _, hlen⟩ | ⟨b, cap, o, hβ, rfl, ho, hc, hsz⟩
      · omega
      · obtain rfl := ho (by omega)
        refine ⟨_, run_indexAt' hu hi C.w b _ len cap ix h0 h1, hn, ⟨_, rfl⟩, fun k' es he' => ?_⟩
        rw [hbl] at he'
        cases he'
        exact ⟨hle1, fun _ => ⟨b, hβ, by simp [Nat.add_mul]⟩⟩
    · exact h.elim

theorem aslice_none {hp : Heap} {size : Nat} {x : AV} (h : aslice hp size x none none k) : False := by
  unfold aslice at h
  split at h <;> simp_all

theorem sliceAt_slice {t e : Nat} (hu : P.underlying t = some (.slice e)) (x : Value) (lo hi mx : Option Value) (w : World) :
    (Instr.sliceAt t x lo hi mx).run P w = (Instr.slice t x lo hi mx).run P w := by
  simp [Instr.sliceAt, run_underlying hu, Result.andThen]

/-- The slice's header behind a cut: l ≤ h ≤ len. -/
theorem run_cut {t e : Nat} {i : TypeInfo} (hu : P.underlying t = some (.slice e)) (hi : P.info? e = some i) (w : World) (a : Option Addr) (len cap : Nat) (lo hi' : Option Value) (l h : Nat)
    (hb : (Instr.sliceBounds true len cap lo hi' none).run P w = .ok (l, h, cap) w) :
    (Instr.sliceAt t (.slice a len cap) lo hi' none).run P w = .ok (.slice (if cap = l then a else a.map (·.add (l * i.size))) (h - l) (cap - l)) w := by
  rw [sliceAt_slice hu]
  simp [Instr.slice, run_underlying hu, hb, Result.andThen, sizeOf, typeInfo, hi]

theorem run_bounds_hi (w : World) (len cap : Nat) (h : Int) (h0 : 0 ≤ h) (h1 : h ≤ cap) : (Instr.sliceBounds true len cap none (some (.int .i64 h)) none).run P w = .ok (0, h.toNat, cap) w := by
  simp [Instr.sliceBounds, run_sliceBound, h0, h1, Result.andThen]
theorem run_bounds_lo (w : World) (len cap : Nat) (l : Int) (h0 : 0 ≤ l) (h1 : l ≤ len) : (Instr.sliceBounds true len cap (some (.int .i64 l)) none none).run P w = .ok (l.toNat, len, cap) w := by
  simp [Instr.sliceBounds, run_sliceBound, h0, h1, Result.andThen]
theorem run_bounds_lohi (w : World) (len cap : Nat) (l h : Int) (h0 : 0 ≤ l) (h1 : l ≤ h) (h2 : h ≤ cap) : (Instr.sliceBounds true len cap (some (.int .i64 l)) (some (.int .i64 h)) none).run P w = .ok (l.toNat, h.toNat, cap) w := by
  have e : (h.toNat : Int) = h := Int.toNat_of_nonneg (by omega)
  have h3 : 0 ≤ h := by omega
  simp [Instr.sliceBounds, run_sliceBound, h0, h1, h2, h3, e, Result.andThen]

/-- A cut of an immutable slice. -/
theorem V_lst_cut {C : Ctx} {h : Heap} {nx : Nat} {es : List Cells} {v : Value} {e : Nat} {i : TypeInfo} (hi : P.info? e = some i) (hs : 0 < i.size) (hsz : ∀ el ∈ es, el.length = i.size) (hv : V C h nx (.lst es) v) (l m : Nat) (hl : l ≤ m) (hm : m ≤ es.length) :
    ∃ a c, v = .slice a es.length c ∧ es.length ≤ c ∧ V C h nx (.lst ((es.take m).drop l)) (.slice (if c = l then a else a.map (·.add (l * i.size))) (m - l) (c - l)) := by
  obtain ⟨a, c, rfl, hc, hb⟩ := hv
  have hlen : ((es.take m).drop l).length = m - l := by simp; omega
  refine ⟨a, c, rfl, hc.1, if c = l then a else a.map (·.add (l * i.size)), c - l, by rw [hlen], ⟨by rw [hlen]; omega, pureE_drop _ _ (pureE_take _ _ hc.2)⟩, fun hne => ?_⟩
  rw [hlen] at hne
  obtain ⟨b, off, k, rfl, hI, hve⟩ := hb (by omega)
  have hk : k = i.size := by
    cases es with
    | nil => simp at hm; omega
    | cons e0 r => rw [← hve.1]; exact hsz e0 (by simp)
  subst hk
  refine ⟨b, off + l * i.size, i.size, ?_, hI, VE_drop l _ b off _ (VE_take m es b off _ hve)⟩
  by_cases hcl : c = l
  · omega
  · simp [hcl, Addr.add_lit]

theorem aslice_spec {t : Nat} {x : AV} {lo hi : Option AV} (ht : elemOk P t = true) (h : aslice A.heap (tiOf P (tiOf P t).elem).size x lo hi k) : ∃ av, k av ∧ ∀ (C : Ctx) xv (lv hv : Option Value), HeapRel C A.heap A.nx → V C A.heap A.nx x xv →
    (∀ a, lo = some a → ∃ v, lv = some v ∧ V C A.heap A.nx a v) → (lo = none → lv = none) → (∀ a, hi = some a → ∃ v, hv = some v ∧ V C A.heap A.nx a v) → (hi = none → hv = none) →
    (∃ v, (Instr.sliceAt t xv lv hv none).run P C.w = .ok v C.w ∧ V C A.heap A.nx av v) := by
  obtain ⟨e, i, z, hu, hi', hs, _, _, _, he⟩ := elemOk_spec ht
  rw [he, tiOf_size hi'] at h
  unfold aslice at h
  split at h
  · rename_i es hh
    obtain ⟨⟨h0, h1, hsz⟩, h⟩ := h
    refine ⟨_, h, fun C xv lv hv H hx l1 l2 r1 r2 => ?_⟩
    obtain rfl := l2 rfl
    obtain ⟨_, rfl, rfl⟩ := r1 _ rfl
    obtain ⟨a, c, rfl, hc, hV⟩ := V_lst_cut hi' hs hsz hx 0 hh.toNat (Nat.zero_le _) (by omega)
    exact ⟨_, run_cut hu hi' C.w a es.length c _ _ _ _ (run_bounds_hi C.w _ _ hh h0 (by omega)), by simpa using hV⟩
  · rename_i es ll
    obtain ⟨⟨h0, h1, hsz⟩, h⟩ := h
    refine ⟨_, h, fun C xv lv hv H hx l1 l2 r1 r2 => ?_⟩
    obtain rfl := r2 rfl
    obtain ⟨_, rfl, rfl⟩ := l1 _ rfl
    obtain ⟨a, c, rfl, hc, hV⟩ := V_lst_cut hi' hs hsz hx ll.toNat es.length (by omega) (Nat.le_refl _)
    exact ⟨_, run_cut hu hi' C.w a es.length c _ _ _ _ (run_bounds_lo C.w _ _ ll h0 h1), by simpa using hV⟩
  · rename_i es ll hh
    obtain ⟨⟨h0, h1, h2, hsz⟩, h⟩ := h
    refine ⟨_, h, fun C xv lv hv H hx l1 l2 r1 r2 => ?_⟩
    obtain ⟨_, rfl, rfl⟩ := r1 _ rfl
    obtain ⟨_, rfl, rfl⟩ := l1 _ rfl
    obtain ⟨a, c, rfl, hc, hV⟩ := V_lst_cut hi' hs hsz hx ll.toNat hh.toNat (by omega) (by omega)
    exact ⟨_, run_cut hu hi' C.w a es.length c _ _ _ _ (run_bounds_lohi C.w _ _ ll hh h0 h1 (by omega)), hV⟩
  · rename_i n tip off len hh
    obtain ⟨⟨h0, h1⟩, h⟩ := h
    unfold aliveK at h
    split at h
    · rename_i bl hbl
      obtain ⟨bk, bes⟩ := bl
      obtain ⟨⟨ht1, ht2⟩, h⟩ := h
      simp only at ht1 ht2
      subst ht2
      refine ⟨_, h, fun C xv lv hv H hx l1 l2 r1 r2 => ?_⟩
      obtain rfl := l2 rfl
      obtain ⟨_, rfl, rfl⟩ := r1 _ rfl
      obtain ⟨hn, ⟨a, cap, hxe⟩, hx⟩ := hx
      obtain ⟨hle1, hx⟩ := hx _ bes hbl
      obtain ⟨hle, hx⟩ := hx ht1.symm
      rcases hx with ⟨hβ, rfl, hoff, hlen⟩ | ⟨b, cap, o, hβ, rfl, ho, hc, hsz⟩
      · refine ⟨_, run_cut hu hi' C.w none 0 0 _ _ _ _ (run_bounds_hi C.w _ _ hh h0 (by omega)), hn, ⟨none, 0, ?_⟩, fun k' es he' => ⟨?_, fun _ => ⟨by omega, .inl ⟨hβ, ?_, hoff, by omega⟩⟩⟩⟩
        · simp
        · rw [hbl] at he'; cases he'; exact hle1
        · have : hh.toNat = 0 := by omega
          simp [this]
      · refine ⟨_, run_cut hu hi' C.w _ len cap _ _ _ _ (run_bounds_hi C.w _ _ hh h0 (by omega)), hn, ⟨_, _, rfl⟩, fun k' es he' => ?_⟩
        rw [hbl] at he'
        cases he'
        refine ⟨hle1, fun _ => ⟨by omega, .inr ⟨b, cap, o, hβ, ?_, ho, by omega, hsz⟩⟩⟩
        by_cases h00 : cap = 0 <;> simp [h00, Addr.add_lit]
    · exact h.elim
  · rename_i n tip off len ll
    obtain ⟨⟨h0, h1⟩, h⟩ := h
    unfold aliveK at h
    split at h
    · rename_i bl hbl
      obtain ⟨bk, bes⟩ := bl
      obtain ⟨⟨ht1, ht2⟩, h⟩ := h
      simp only at ht1 ht2
      subst ht2
      refine ⟨_, h, fun C xv lv hv H hx l1 l2 r1 r2 => ?_⟩
      obtain rfl := r2 rfl
      obtain ⟨_, rfl, rfl⟩ := l1 _ rfl
      obtain ⟨hn, ⟨a, cap, hxe⟩, hx⟩ := hx
      obtain ⟨hle1, hx⟩ := hx _ bes hbl
      obtain ⟨hle, hx⟩ := hx ht1.symm
      rcases hx with ⟨hβ, rfl, hoff, hlen⟩ | ⟨b, cap, o, hβ, rfl, ho, hc, hsz⟩
      · have hl0 : ll = 0 := by omega
        subst hl0
        refine ⟨_, run_cut hu hi' C.w none 0 0 _ _ _ _ (run_bounds_lo C.w _ _ 0 (by omega) (by omega)), hn, ⟨none, 0, ?_⟩, fun k' es he' => ⟨?_, fun _ => ⟨by omega, .inl ⟨hβ, ?_, by simpa using hoff, by omega⟩⟩⟩⟩
        · simp [hlen]
        · rw [hbl] at he'; cases he'; exact hle1
        · simp
      · refine ⟨_, run_cut hu hi' C.w _ len cap _ _ _ _ (run_bounds_lo C.w _ _ ll h0 h1), hn, ⟨_, _, rfl⟩, fun k' es he' => ?_⟩
        rw [hbl] at he'
        cases he'
        refine ⟨hle1, fun _ => ⟨by omega, .inr ⟨b, cap - ll.toNat, if cap = ll.toNat then o else o + ll.toNat * i.size, hβ, ?_, fun hne => ?_, by omega, ?_⟩⟩⟩
        · by_cases h00 : cap = ll.toNat <;> simp [h00, Addr.add_lit]
        · rw [if_neg (by omega), ho (by omega), Nat.add_mul]
        · rw [show off + ll.toNat + (cap - ll.toNat) = off + cap by omega]; exact hsz
    · exact h.elim
  · exact h.elim

theorem sliceTy_spec {t : Nat} (h : sliceTy P t = true) : ∃ e, P.underlying t = some (.slice e) := by
  unfold sliceTy at h
  split at h
  · exact ⟨_, by assumption⟩
  · cases h

theorem run_len' {t e : Nat} (hu : P.underlying t = some (.slice e)) (ts : List Nat) (ty : Nat) (w : World) (b : Option Addr) (n c : Nat) :
    (Builtin.len_ (t :: ts).toArray ty #[.slice b n c]).run P w = .ok (.int .i64 n) w := by
  simp [Builtin.len_, run_underlying hu, Result.andThen, goInt]

theorem alen_spec {x : AV} (h : alen x k) : ∃ av, k av ∧ ∀ (C : Ctx) hp nx xv, V C hp nx x xv → ∃ b n c, xv = .slice b n c ∧ V C hp nx av (.int .i64 n) := by
  cases x <;> try exact h.elim
  · exact ⟨_, h, fun C hp nx xv hx => ⟨none, 0, 0, hx, rfl⟩⟩
  · exact ⟨_, h, fun C hp nx xv ⟨a, c, hx, _⟩ => ⟨a, _, c, hx, rfl⟩⟩
  · exact ⟨_, h, fun C hp nx xv ⟨_, ⟨a, c, hx⟩, _⟩ => ⟨a, _, c, hx, rfl⟩⟩

theorem isCell_one {C : Ctx} {h : Heap} {nx : Nat} {x : AV} {v : Value} (hx : x.isCell = true) (hv : V C h nx x v) : v.oneCell' = true ∧ v.cells = #[v] := by
  cases x <;> simp [AV.isCell] at hx
  case int n => obtain rfl : v = _ := hv; exact ⟨rfl, rfl⟩
  case bool n => obtain rfl : v = _ := hv; exact ⟨rfl, rfl⟩
  case sc u =>
    obtain rfl : v = u := hv
    cases v <;> simp_all [Value.oneCell', Value.cells, AV.isCell]
  case nils => obtain rfl : v = _ := hv; exact ⟨rfl, rfl⟩
  case lst es => obtain ⟨a, c, rfl, _⟩ := hv; exact ⟨rfl, rfl⟩
  case sl n t o l => obtain ⟨_, ⟨a, c, rfl⟩, _⟩ := hv; exact ⟨rfl, rfl⟩
  case ptr n t o l => obtain ⟨_, ⟨a, rfl⟩, _⟩ := hv; exact ⟨rfl, rfl⟩
  case iptr cs => obtain ⟨b, off, rfl, _⟩ := hv; exact ⟨rfl, rfl⟩
  case fn f a c => obtain ⟨vs, us, rfl, _⟩ := hv; exact ⟨rfl, rfl⟩

theorem all_one {C : Ctx} {h : Heap} {nx : Nat} : ∀ (cs : Cells) (vs : List Value), cs.all AV.isCell = true → Vs C h nx cs vs → ∀ u ∈ vs, u.oneCell' = true
  | [], _, _, hv, u, hu => by rw [show _ = [] from hv] at hu; simp at hu
  | c :: cs, _, ha, ⟨v, r, hv, h1, h2⟩, u, hu => by
    subst hv
    simp only [List.all_cons, Bool.and_eq_true] at ha
    rcases List.mem_cons.1 hu with rfl | hu
    · exact (isCell_one ha.1 h1).1
    · exact all_one cs r ha.2 h2 u hu

theorem V_cells {C : Ctx} {h : Heap} {nx : Nat} {x : AV} {v : Value} (hx : x.storable = true) (hv : V C h nx x v) : Vs C h nx x.cells v.cells.toList ∧ ∀ u ∈ v.cells.toList, u.oneCell' = true := by
  have key : ∀ x : AV, x.isCell = true → x.cells = [x] → V C h nx x v → Vs C h nx x.cells v.cells.toList := by
    intro x h1 h2 h3
    rw [h2, (isCell_one h1 h3).2]
    exact ⟨v, [], rfl, h3, rfl⟩
  have hvs : Vs C h nx x.cells v.cells.toList := by
    cases x <;> try (exact key _ (by simpa [AV.storable, AV.cells] using hx) rfl hv)
    case agg cs => obtain ⟨vs, rfl, hs⟩ := hv; exact hs
  exact ⟨hvs, all_one _ _ hx hvs⟩

theorem fold_set : ∀ (new : List Value) (i : Nat) (cs : Array Value) (off : Nat), off + i + new.length ≤ cs.size →
    ((new.zipIdx i).foldl (fun (cs : Array Value) (p : Value × Nat) => cs.setIfInBounds (off + p.2) p.1) cs).toList = cs.toList.take (off + i) ++ (new ++ cs.toList.drop (off + i + new.length))
  | [], i, cs, off, _ => by simp
  | v :: new, i, cs, off, hle => by
    simp only [List.length_cons] at hle
    simp only [List.zipIdx_cons, List.foldl_cons]
    rw [fold_set new (i + 1) _ off (by simp; omega)]
    simp only [Array.toList_setIfInBounds]
    have h1 : off + i < cs.toList.length := by simp; omega
    have e1 : (cs.toList.set (off + i) v).take (off + (i + 1)) = cs.toList.take (off + i) ++ [v] := by
      rw [show off + (i + 1) = (off + i) + 1 by omega, List.take_succ_eq_append_getElem (by simpa using h1), List.take_set_of_le (Nat.le_refl _)]
      simp
    have e2 : (cs.toList.set (off + i) v).drop (off + (i + 1) + new.length) = cs.toList.drop (off + i + (new.length + 1)) := by
      rw [List.drop_set_of_lt (by omega)]
      congr 1; omega
    rw [e1, e2]
    simp

theorem Vs_aspl {C : Ctx} {h : Heap} {nx : Nat} {cs new : Cells} {vs us : List Value} (h1 : Vs C h nx cs vs) (h2 : Vs C h nx new us) (off : Nat) :
    Vs C h nx (aspl cs off new) (vs.take off ++ (us ++ vs.drop (off + us.length))) := by
  unfold aspl
  rw [Vs_length _ _ h2]
  exact Vs_append _ _ _ _ (Vs_take off _ _ h1) (Vs_append _ _ _ _ h2 (Vs_drop _ _ _ h1))

/-- A build's parts. -/
theorem abuild_spec {fs : Array Field} (ht : fs.all (fun f => typOk P f.type) = true) (fl : List (Nat × Nat)) (hfl : fl = fs.toList.map fun f => (f.offset, f.type)) : ∀ (ps : List (Nat × AV)) (cs : Cells) (k : AV → Prop), abuild (tiOf P) fl ps cs k →
    ∃ av, k av ∧ ∀ (C : Ctx) hp nx (vs : List Value) (vps : List (Nat × Value)), Vs C hp nx cs vs → vps.map (·.1) = ps.map (·.1) → Vs C hp nx (ps.map (·.2)) (vps.map (·.2)) →
      (∀ p ∈ ps, ∀ off ft, fl[p.1]? = some (off, ft) → off + (tiOf P ft).size ≤ cs.length) →
      ∃ us : List Value, Instr.fill (fun i => (fs.map fun f => (f.offset, (tiOf P f.type).size))[i]?) ⟨vs⟩ vps = some ⟨us⟩ ∧ V C hp nx av (.agg ⟨us⟩)
  | [], cs, k, h => ⟨_, h, fun C hp nx vs vps hv hi _ _ => by
      cases vps with
      | nil => exact ⟨vs, rfl, vs, rfl, hv⟩
      | cons => simp at hi⟩
  | (i, x) :: r, cs, k, h => by
    simp only [abuild] at h
    split at h
    · rename_i off ft hf
      obtain ⟨⟨hl, hst⟩, h⟩ := h
      obtain ⟨av, hk, hrest⟩ := abuild_spec ht fl hfl r _ k h
      refine ⟨av, hk, fun C hp nx vs vps hv hi hvs hfit => ?_⟩
      cases vps with
      | nil => simp at hi
      | cons p vps =>
        obtain ⟨pi, pv⟩ := p
        simp only [List.map_cons, List.cons.injEq] at hi
        obtain ⟨rfl, hi⟩ := hi
        obtain ⟨v0, r0, e0, hV, hvs'⟩ := hvs
        simp only [List.map_cons, List.cons.injEq] at e0
        obtain ⟨rfl, rfl⟩ := e0
        obtain ⟨hc, _⟩ := V_cells hst hV
        have hlen := Vs_length _ _ hc
        have hvl := Vs_length _ _ hv
        have hfits := hfit _ (List.mem_cons_self ..) off ft hf
        have hlen' : pv.cells.size = (tiOf P ft).size := by rw [← Array.length_toList, hlen, hl]
        have hplace : (fs.map fun f => (f.offset, (tiOf P f.type).size))[pi]? = some (off, (tiOf P ft).size) := by
          rw [hfl] at hf
          simp only [List.getElem?_map, Array.getElem?_toList, Option.map_eq_some_iff] at hf
          obtain ⟨f, hf, e⟩ := hf
          simp only [Prod.mk.injEq] at e
          simp [hf, e.1, e.2]
        have hz : pv.cells.zipIdx.foldl (fun (cs : Array Value) (p : Value × Nat) => cs.setIfInBounds (off + p.2) p.1) ⟨vs⟩ = ⟨vs.take off ++ (pv.cells.toList ++ vs.drop (off + pv.cells.toList.length))⟩ := by
          apply Array.ext'
          have := fold_set pv.cells.toList 0 ⟨vs⟩ off (by simp; omega)
          simp only [Nat.add_zero] at this
          rw [← Array.foldl_toList, Array.toList_zipIdx]
          exact this
        have hnew : (aspl cs off x.cells).length = cs.length := by
          simp only [aspl, List.length_append, List.length_take, List.length_drop]; omega
        obtain ⟨us, hfill, hVu⟩ := hrest C hp nx _ vps (Vs_aspl hv hc off) hi hvs' (fun p hp off' ft' hf' => by rw [hnew]; exact hfit p (List.mem_cons_of_mem _ hp) off' ft' hf')
        refine ⟨us, ?_, hVu⟩
        simp only [Instr.fill, hplace]
        rw [if_neg (by simp; omega), hz]
        exact hfill
    · exact h.elim

theorem abin_spec {kd : TK} {op : BinOp} {x y : AV} (h : abin kd op x y k) : ∃ av, k av ∧ ∀ (C : Ctx) hp nx xv yv, V C hp nx x xv → V C hp nx y yv →
    ∀ (P : Program) t (xo yo : Operand) w, kindOf (P.underlying t) = kd → ∃ v, (do eqGuard op t xo yo xv yv; binOp op t xv yv).run P w = .ok v w ∧ V C hp nx av v := by
  have run : ∀ (P : Program) (op : BinOp) t (xo yo : Operand) w (a b : Int) (r : Value), (binOp op t (.int .i64 a) (.int .i64 b)).run P w = .ok r w →
      (do eqGuard op t xo yo (.int .i64 a) (.int .i64 b); binOp op t (.int .i64 a) (.int .i64 b)).run P w = .ok r w := by
    intro P op t xo yo w a b r hr
    have hg : (eqGuard op t xo yo (.int .i64 a) (.int .i64 b)).run P w = .ok () w := by
      unfold eqGuard
      split <;> rfl
    simp only [Sem.run_bind, hg, Result.andThen, hr]
  have hbeq : ∀ a b : Int, (a == b) = decide (a = b) := fun a b => by by_cases e : a = b <;> simp [e]
  unfold abin at h
  split at h
  · rename_i a b
    obtain ⟨h1, h⟩ := h
    refine ⟨_, h, fun C hp nx xv yv hx hy P t xo yo w => ?_⟩
    obtain rfl : xv = _ := hx
    obtain rfl : yv = _ := hy
    intro _; exact ⟨_, run _ _ _ _ _ _ _ _ _ (by simp [binOp, Op.intArith, wrap_in h1]), rfl⟩
  · rename_i a b
    obtain ⟨h1, h⟩ := h
    refine ⟨_, h, fun C hp nx xv yv hx hy P t xo yo w => ?_⟩
    obtain rfl : xv = _ := hx
    obtain rfl : yv = _ := hy
    intro _; exact ⟨_, run _ _ _ _ _ _ _ _ _ (by simp [binOp, Op.intArith, wrap_in h1]), rfl⟩
  · rename_i a b
    obtain ⟨h1, h⟩ := h
    refine ⟨_, h, fun C hp nx xv yv hx hy P t xo yo w => ?_⟩
    obtain rfl : xv = _ := hx
    obtain rfl : yv = _ := hy
    intro _; exact ⟨_, run _ _ _ _ _ _ _ _ _ (by simp [binOp, Op.intArith, wrap_in h1]), rfl⟩
  all_goals first
    | exact h.elim
    | (refine ⟨_, h, fun C hp nx xv yv hx hy P t xo yo w => ?_⟩
       obtain rfl : xv = _ := hx
       obtain rfl : yv = _ := hy
       intro _
       exact ⟨_, run _ _ _ _ _ _ _ _ _ (by simp [binOp, Op.intCmp, bne, hbeq, Op.intBits, andI]), rfl⟩)
    | (obtain ⟨⟨h1, h3⟩, h⟩ := h
       refine ⟨_, h, fun C hp nx xv yv hx hy P t xo yo w => ?_⟩
       obtain rfl : xv = _ := hx
       obtain rfl : yv = _ := hy
       intro _
       exact ⟨_, run _ _ _ _ _ _ _ _ _ (by simp [binOp, Op.intDiv, h1, wrap_in h3]), rfl⟩)
    | (obtain ⟨h1, h⟩ := h
       refine ⟨_, h, fun C hp nx xv yv hx hy P t xo yo w => ?_⟩
       obtain rfl : xv = _ := hx
       obtain rfl : yv = _ := hy
       intro _
       have h2 : ¬ _ = (0 : Int) := h1
       exact ⟨_, run _ _ _ _ _ _ _ _ _ (by simp [binOp, Op.intDiv, h2]), rfl⟩)
    | (obtain ⟨h1, h⟩ := h
       refine ⟨_, h, fun C hp nx xv yv hx hy P t xo yo w => ?_⟩
       obtain rfl : xv = _ := hx
       obtain rfl : yv = _ := hy
       intro _
       have h2 := Int.not_lt.2 h1
       exact ⟨_, run _ _ _ _ _ _ _ _ _ (by simp only [binOp, Op.shift, if_neg h2]; rfl), rfl⟩)
    | (obtain ⟨hk, h⟩ := h
       refine ⟨_, h, fun C hp nx xv yv hx hy P t xo yo w => ?_⟩
       obtain rfl : xv = _ := hx
       obtain rfl : yv = _ := hy
       intro hkd
       have hu : P.underlying t = some .bool := by
         rw [hk] at hkd
         unfold kindOf at hkd
         split at hkd <;> first | assumption | cases hkd
       refine ⟨_, ?_, rfl⟩
       have hg : ∀ op : BinOp, ∀ a b : Bool, (eqGuard op t xo yo (.bool a) (.bool b)).run P w = .ok () w := by
         intro op a b
         unfold eqGuard
         split <;> rfl
       simp only [Sem.run_bind, hg, Result.andThen]
       simp [binOp, run_equal_bool w t _ _ hu])

theorem aun_spec {op : UnOp} {x : AV} (h : aun op x k) : ∃ av, k av ∧ ∀ (C : Ctx) hp nx xv, V C hp nx x xv → ∀ (P : Program) w, ∃ v, (Op.unary op xv).run P w = .ok v w ∧ V C hp nx av v := by
  unfold aun at h
  split at h
  · refine ⟨_, h, fun C hp nx xv hx P w => ⟨_, ?_, rfl⟩⟩
    obtain rfl : xv = _ := hx
    rfl
  · rename_i a
    obtain ⟨h1, h⟩ := h
    refine ⟨_, h, fun C hp nx xv hx P w => ⟨_, ?_, rfl⟩⟩
    obtain rfl : xv = _ := hx
    have hw : IntKind.i64.wrap (0 - a) = wneg a := by
      obtain ⟨h2, h3⟩ := h1
      unfold wneg
      rw [IntKind.wrap_i64]
      split <;> omega
    simp only [Op.unary, Op.intArith, hw, Sem.run_pure]
  · exact h.elim

theorem varOk_spec {t : Nat} (ht : varOk P t = true) : ∃ i z, P.info? t = some i ∧ 0 < i.size ∧ i.zero = some z ∧ z.cells.size = i.size := by
  unfold varOk at ht
  split at ht
  · rename_i i hi
    simp only [Bool.and_eq_true, decide_eq_true_eq] at ht
    obtain ⟨h1, h3⟩ := ht
    split at h3
    · rename_i z hz
      exact ⟨i, z, hi, h1, hz, by simpa using h3⟩
    · cases h3
  · cases ht

theorem Vs_ofConst {C : Ctx} {hp : Heap} {nx : Nat} : ∀ (vs : List Value), Vs C hp nx (vs.map ofConst) vs
  | [] => rfl
  | v :: vs => ⟨v, vs, rfl, V_ofConst v, Vs_ofConst vs⟩

theorem tiOf_zero {t : Nat} {i : TypeInfo} {z : Value} (h : P.info? t = some i) (hz : i.zero = some z) : (tiOf P t).zero = z.cells.toList.map ofConst := by simp only [tiOf, h, hz]

theorem Vs_map {C : Ctx} {hp : Heap} {nx : Nat} {A : AS} {a : Act} : ∀ (xs : List Operand), (∀ x ∈ xs, V C hp nx (A.ev x) (a.eval x)) → Vs C hp nx (xs.map A.ev) (xs.map a.eval)
  | [], _ => rfl
  | x :: xs, h => ⟨_, _, rfl, h x (List.mem_cons_self ..), Vs_map xs fun y hy => h y (List.mem_cons_of_mem _ hy)⟩

/-- An operation that leaves memory alone does what its verification condition says. -/
theorem aev_quiet (hok : opOk P o.op = true) (h : aev (tiOf P) o.op A k) : ∃ av, k av ∧ Quiet P o A av := by
  unfold aev at h
  split at h
  case _ x heq =>
    refine ⟨_, h, fun C a H hv => ⟨a.eval x, ?_, hv x (by simp [heq, Op.operands])⟩⟩
    simp [execOp, heq]
  case _ x heq =>
    refine ⟨_, h, fun C a H hv => ⟨a.eval x, ?_, hv x (by simp [heq, Op.operands])⟩⟩
    simp [execOp, heq]
  case _ c x y heq =>
    unfold apick at h
    split at h
    · rename_i t ht
      refine ⟨_, h, fun C a H hv => ⟨if t then a.eval x else a.eval y, ?_, ?_⟩⟩
      · have hc : a.eval c = .bool t := by have := hv c (by simp [heq, Op.operands]); rw [ht] at this; exact this
        simp [execOp, heq, hc, asBool, Result.andThen]
      · unfold pickv
        split
        · exact hv x (by simp [heq, Op.operands])
        · exact hv y (by simp [heq, Op.operands])
    · exact h.elim
  case _ op t x y u heq =>
    obtain ⟨av, h1, h2⟩ := abin_spec h
    refine ⟨av, h1, fun C a H hv => ?_⟩
    obtain ⟨v, hr, hV⟩ := h2 C _ _ _ _ (hv x (by simp [heq, Op.operands])) (hv y (by simp [heq, Op.operands])) P t x y C.w rfl
    exact ⟨v, execOp_run_value (by simp [execOp, heq]) hr, hV⟩
  case _ op t x heq =>
    obtain ⟨av, h1, h2⟩ := aun_spec h
    refine ⟨av, h1, fun C a H hv => ?_⟩
    obtain ⟨v, hr, hV⟩ := h2 C _ _ _ (hv x (by simp [heq, Op.operands])) P C.w
    exact ⟨v, execOp_run_value (by simp [execOp, heq]) hr, hV⟩
  case _ t x heq =>
    obtain ⟨av, h1, h2⟩ := aload_spec (by simpa [opOk, heq] using hok) h
    refine ⟨av, h1, fun C a H hv => ?_⟩
    obtain ⟨v, hr, hV⟩ := h2 C _ H (hv x (by simp [heq, Op.operands]))
    exact ⟨v, execOp_run_value (by simp [execOp, heq]) hr, hV⟩
  case _ s x f heq =>
    obtain ⟨av, h1, h2⟩ := afieldAddr_spec (by simpa [opOk, heq] using hok) h
    refine ⟨av, h1, fun C a H hv => ?_⟩
    obtain ⟨v, hr, hV⟩ := h2 C _ _ (hv x (by simp [heq, Op.operands]))
    exact ⟨v, execOp_run_value (by simp [execOp, heq]) hr, hV⟩
  case _ s x f heq =>
    obtain ⟨fs, fd, i, hu, hf, hi, hs, hty, hget⟩ := fieldOk_spec (by simpa [opOk, heq] using hok : fieldOk P s f = true)
    rw [hget] at h
    unfold afield at h
    split at h
    · rename_i off t cs he hx
      cases he
      obtain ⟨av, h1, h2, h3, h4⟩ := acells_spec h
      refine ⟨av, h1, fun C a H hv => ?_⟩
      have hxv := hv x (by simp [heq, Op.operands])
      rw [hx] at hxv
      obtain ⟨vs, hxe, hvs⟩ := hxv
      have hd := Vs_drop fd.offset _ _ hvs
      refine ⟨_, execOp_run_value (s := Instr.field s (a.eval x) f) (by simp [execOp, heq]) ?_, h4 C _ _ _ hd⟩
      simp only [typOk, Bool.and_eq_true, Option.isSome_iff_exists] at hty
      obtain ⟨_, d, hd'⟩ := hty
      have hlen := Vs_length _ _ hd
      simp only [Instr.field, Sem.run_bind, run_underlying hu, Result.andThen, hf, hxe, asAgg, Sem.run_pure, part, run_isAgg' hd']
      cases hg : (tiOf P fd.type).agg with
      | true =>
        simp only [if_true, Sem.run_bind, run_sizeOf' hi, Result.andThen, Sem.run_pure, loadVal, Result.ok.injEq, Value.agg.injEq, and_true]
        apply Array.ext'
        simp [List.extract_eq_take_drop]
      | false =>
        have hn := h3 hg
        rw [hn, ← hlen] at h2
        cases hvd : vs.drop fd.offset with
        | nil => rw [hvd] at h2; simp at h2
        | cons v0 r0 =>
          have : vs[fd.offset]? = some v0 := by rw [← List.head?_drop, hvd]; rfl
          simp [this, loadVal]
    · exact h.elim
  case _ t x i heq =>
    obtain ⟨av, h1, h2⟩ := aindexAddr_spec (by simpa [opOk, heq] using hok) h
    refine ⟨av, h1, fun C a H hv => ?_⟩
    obtain ⟨v, hr, hV⟩ := h2 C _ _ H (hv x (by simp [heq, Op.operands])) (hv i (by simp [heq, Op.operands]))
    exact ⟨v, execOp_run_value (by simp [execOp, heq]) hr, hV⟩
  case _ t x lo hi heq =>
    obtain ⟨av, h1, h2⟩ := aslice_spec (by simpa [opOk, heq] using hok) h
    refine ⟨av, h1, fun C a H hv => ?_⟩
    obtain ⟨v, hr, hV⟩ := h2 C _ (lo.map a.eval) (hi.map a.eval) H (hv x (by simp [heq, Op.operands]))
      (fun y hy => by
        simp only [Option.map_eq_some_iff] at hy
        obtain ⟨z, rfl, rfl⟩ := hy
        exact ⟨_, rfl, hv z (by simp [heq, Op.operands])⟩) (fun hn => by simpa using hn)
      (fun y hy => by
        simp only [Option.map_eq_some_iff] at hy
        obtain ⟨z, rfl, rfl⟩ := hy
        exact ⟨_, rfl, hv z (by simp [heq, Op.operands])⟩) (fun hn => by simpa using hn)
    exact ⟨v, execOp_run_value (by simp [execOp, heq]) hr, hV⟩
  case _ x heq =>
    cases hx : A.ev x <;> rw [hx] at h <;> try exact h.elim
    case iptr cs =>
      refine ⟨_, h, fun C a H hv => ?_⟩
      have hxv := hv x (by simp [heq, Op.operands])
      rw [hx] at hxv
      refine ⟨a.eval x, ?_, hxv⟩
      obtain ⟨b, off, e, _⟩ := hxv
      simp [execOp, heq, e]
    case ptr n tip i j =>
      simp only [anil] at h
      unfold alive at h
      split at h
      · rename_i b hb
        refine ⟨_, h.2, fun C a H hv => ?_⟩
        have hxv := hv x (by simp [heq, Op.operands])
        rw [hx] at hxv
        refine ⟨a.eval x, ?_, hxv⟩
        obtain ⟨bl, _, e⟩ := V_ptr_live hb h.1 hxv
        simp [execOp, heq, e]
      · exact h.elim
    case fn f c1 c2 =>
      cases f <;> try exact h.elim
      refine ⟨_, h, fun C a H hv => ?_⟩
      have hxv := hv x (by simp [heq, Op.operands])
      rw [hx] at hxv
      refine ⟨a.eval x, ?_, hxv⟩
      obtain ⟨vs, us, e, _⟩ := hxv
      simp [execOp, heq, e]
  case _ x i heq =>
    unfold aextract at h
    split at h
    · rename_i vs hx
      split at h
      · rename_i v hv'
        refine ⟨_, h, fun C a H hv => ?_⟩
        have hxv := hv x (by simp [heq, Op.operands])
        rw [hx] at hxv
        obtain ⟨us, e, hus⟩ := hxv
        obtain ⟨u, hu, hV⟩ := Vs_get _ _ hus i v hv'
        refine ⟨u, execOp_run_value (s := Instr.extract (a.eval x) i) (by simp [execOp, heq]) ?_, hV⟩
        simp [Instr.extract, e, hu]
      · exact h.elim
    · exact h.elim
  case _ f a c heq =>
    refine ⟨_, h, fun C b H hv => ⟨.func f (a.map b.eval) (c.map b.eval), execOp_run_value (s := Instr.makeFunc f (a.map b.eval) (c.map b.eval)) (by simp [execOp, heq]) rfl, (a.map b.eval).toList, (c.map b.eval).toList, rfl, ?_, ?_⟩⟩
    · have := Vs_map (C := C) (hp := A.heap) (nx := A.nx) (A := A) (a := b) a.toList (fun x hx => hv x (by simp [heq, Op.operands]; left; simpa using hx))
      simpa using this
    · have := Vs_map (C := C) (hp := A.heap) (nx := A.nx) (A := A) (a := b) c.toList (fun x hx => hv x (by simp [heq, Op.operands]; right; simpa using hx))
      simpa using this
  case _ t ps heq =>
    rw [heq] at hok
    simp only [opOk, Bool.and_eq_true] at hok
    obtain ⟨⟨hst, hvar⟩, hps⟩ := hok
    split at hst
    · rename_i fs hu
      obtain ⟨i, z, hi, hs, hz, hzs⟩ := varOk_spec hvar
      have hfl : (tiOf P t).fields = fs.toList.map fun f => (f.offset, f.type) := by simp only [tiOf, hu]
      have hst' : ∀ f ∈ fs.toList, typOk P f.type = true ∧ f.offset + (tiOf P f.type).size ≤ (tiOf P t).size := by
        intro f hf
        have := Array.all_eq_true'.1 hst f (by simpa using hf)
        simpa using this
      obtain ⟨av, hk, hrest⟩ := abuild_spec (P := P) (fs := fs) (by
        rw [Array.all_eq_true']
        intro f hf
        exact (hst' f (by simpa using hf)).1) _ hfl _ _ _ h
      refine ⟨av, hk, fun C a H hv => ?_⟩
      have hmapM : fs.toList.mapM (fun f => (P.info? f.type).map fun i => (f.offset, i.size)) = some (fs.toList.map fun f => (f.offset, (tiOf P f.type).size)) := by
        have gen : ∀ l : List Field, (∀ f ∈ l, typOk P f.type = true) → l.mapM (fun f => (P.info? f.type).map fun i => (f.offset, i.size)) = some (l.map fun f => (f.offset, (tiOf P f.type).size)) := by
          intro l
          induction l with
          | nil => intro _; rfl
          | cons f l ih =>
            intro hl
            have h1 := hl f (List.mem_cons_self ..)
            simp only [typOk, Bool.and_eq_true, Option.isSome_iff_exists] at h1
            obtain ⟨⟨j, hj⟩, _⟩ := h1
            simp [List.mapM_cons, hj, ih fun g hg => hl g (List.mem_cons_of_mem _ hg), tiOf_size hj]
        exact gen _ fun f hf => (hst' f hf).1
      have hzc : Vs C A.heap A.nx (tiOf P t).zero z.cells.toList := by rw [tiOf_zero hi hz]; exact Vs_ofConst _
      have hvs : Vs C A.heap A.nx (ps.toList.map fun p => A.ev p.2) (ps.toList.map fun p => a.eval p.2) := by
        have := Vs_map (C := C) (hp := A.heap) (nx := A.nx) (A := A) (a := a) (ps.toList.map (·.2)) (fun x hx => hv x (by
          simp only [heq, Op.operands]
          simpa using hx))
        simpa [List.map_map, Function.comp_def] using this
      have hzl := Vs_length _ _ hzc
      obtain ⟨us, hfill, hV⟩ := hrest C A.heap A.nx z.cells.toList (ps.toList.map fun p => (p.1, a.eval p.2)) hzc (by simp [List.map_map, Function.comp_def]) (by simpa [List.map_map, Function.comp_def] using hvs) (fun p hp off ft hf => by
        rw [hfl] at hf
        simp only [List.getElem?_map, Option.map_eq_some_iff] at hf
        obtain ⟨f, hf, e⟩ := hf
        simp only [Prod.mk.injEq] at e
        obtain ⟨rfl, rfl⟩ := e
        have := (hst' f (List.mem_of_getElem? hf)).2
        rw [tiOf_size hi] at this
        rw [← hzl, Array.length_toList, hzs]
        exact this)
      refine ⟨.agg ⟨us⟩, execOp_run_value (s := Instr.build t (ps.map fun (i, x) => (i, a.eval x))) (by simp [execOp, heq]) (run_build C.w t _ ⟨us⟩ ?_), hV⟩
      simp only [Program.built, hi, hu, hz, hmapM]
      simpa using hfill
    · cases hst
  case _ b args ts heq =>
    rw [heq] at hok
    unfold abuiltin at h
    split at h
    · rename_i x hx
      obtain ⟨av, hk, hrest⟩ := alen_spec h
      refine ⟨av, hk, fun C a H hv => ?_⟩
      obtain ⟨y, hy⟩ : ∃ y, args.toList = [y] := by
        cases hl : args.toList with
        | nil => rw [hl] at hx; simp at hx
        | cons y r => cases r with
          | nil => exact ⟨y, rfl⟩
          | cons => rw [hl] at hx; simp at hx
      have hxy : A.ev y = x := by rw [hy] at hx; simpa using hx
      obtain ⟨bs, n, c, hval, hV⟩ := hrest C _ _ _ (hxy ▸ hv y (by simp [heq, Op.operands, Call.operands, hy]))
      have hargs : args = #[y] := by apply Array.ext'; simpa using hy
      simp only [opOk] at hok
      split at hok
      · rename_i t ht
        obtain ⟨e, hu⟩ := sliceTy_spec hok
        refine ⟨_, ?_, hV⟩
        simp [execOp, heq, resolve, hargs, invoke, builtin, Builtin.len_, ht, hval, run_underlying hu, Result.andThen, goInt]
      · cases hok
    all_goals first
      | exact h.elim
      | (rename_i x y hx
         refine ⟨_, h, fun C a H hv => ?_⟩
         obtain ⟨p, q, hy⟩ : ∃ p q, args.toList = [p, q] := by
           cases hl : args.toList with
           | nil => rw [hl] at hx; simp at hx
           | cons y r => cases r with
             | nil => rw [hl] at hx; simp at hx
             | cons z r => cases r with
               | nil => exact ⟨y, z, rfl⟩
               | cons => rw [hl] at hx; simp at hx
         have hargs : args = #[p, q] := by apply Array.ext'; simpa using hy
         rw [hy] at hx
         simp only [List.map_cons, List.map_nil, List.cons.injEq, and_true] at hx
         have h1 := hv p (by simp [heq, Op.operands, Call.operands, hargs])
         have h2 := hv q (by simp [heq, Op.operands, Call.operands, hargs])
         rw [hx.1] at h1
         rw [hx.2] at h2
         have e1 : a.eval p = _ := h1
         have e2 : a.eval q = _ := h2
         refine ⟨_, ?_, rfl⟩
         simp [execOp, heq, resolve, hargs, invoke, builtin, Builtin.max_, Builtin.min_, Builtin.max2, Builtin.min2, e1, e2, Result.andThen])
  case _ => exact h.elim
end
end Go.Abs
