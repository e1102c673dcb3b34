/- Every operation that the verification conditions know is sound. -/
import Derived.Test.YtogdmmccbeipkaaGreatAbsMem
import Derived.Lib.SliceRun
import Derived.Laws.AppendOwn
import Derived.Great.BuildSlice
set_option linter.all false
namespace Go.Abs
open Go

section
variable {P : Program} {o : Oper} {A : AS} {K : AS → Prop}

theorem run_newVar (t : Nat) (v : Value) (w : World) : (newVar t v).run P w = .ok ⟨w.heap.size, 0, none⟩ (w.alloc (.cells v.cells t)) := by
  rfl

theorem execOp_run_value' {P : Program} {ρ : Operand → Value} {o : Oper} {s : Sem Value} {w w' : World} {v : Value}
    (he : execOp ρ o = (do pure (.value (← s)))) (hs : s.run P w = .ok v w') : (execOp ρ o).run P w = .ok (.value v) w' := by
  rw [he]
  simp [hs, Result.andThen]

theorem flatten_one {α : Type} (l : List α) : [l].flatten = l := by simp

theorem opwp_alloc {t : Nat} (ho : o.op = .alloc t) (hok : varOk P t = true) (hd : ∀ d, o.dst = some d → d < A.N)
    (h : K ((A.alloc ⟨(tiOf P t).size, [(tiOf P t).zero]⟩).put o.dst (.ptr A.nx 1 0 0))) : OpWp P o A K := by
  obtain ⟨i, z, hi, hs, hz, hzs⟩ := varOk_spec hok
  have hzc : ∀ C, Vs C A.heap A.nx (tiOf P t).zero z.cells.toList := fun C => by rw [tiOf_zero hi hz]; exact Vs_ofConst _
  refine OpWp.of_new hd (by rw [tiOf_size hi]; exact hs) (fun e he => ?_) h fun C a r => ?_
  · simp only [List.mem_singleton] at he
    subst he
    rw [tiOf_zero hi hz, tiOf_size hi]; simp [hzs]
  · refine ⟨_, z.cells.toList, z.cells, t, ?_, by rw [flatten_one]; exact hzc C, fun j u hj => by simpa using hj, V_new_ptr⟩
    simp [execOp, ho, Instr.alloc, zeroValue, typeInfo, hi, hz, run_newVar, Result.andThen]

theorem opwp_box {t : Nat} {x : Operand} (ho : o.op = .box t x) (hok : varOk P t = true) (hd : ∀ d, o.dst = some d → d < A.N)
    (h : ((A.ev x).cells.length = (tiOf P t).size ∧ (A.ev x).storable = true) ∧ K ((A.alloc ⟨(tiOf P t).size, [(A.ev x).cells]⟩).put o.dst (.ptr A.nx 1 0 0))) : OpWp P o A K := by
  obtain ⟨i, z, hi, hs, hz, hzs⟩ := varOk_spec hok
  obtain ⟨⟨hl, hst⟩, h⟩ := h
  refine OpWp.of_new hd (by rw [tiOf_size hi]; exact hs) (fun e he => ?_) h fun C a r => ?_
  · simp only [List.mem_singleton] at he
    subst he
    exact hl
  · have hc := V_cells hst (V_ev r.env x)
    refine ⟨_, (a.eval x).cells.toList, (a.eval x).cells, t, ?_, by rw [flatten_one]; exact hc.1, fun j u hj => by simpa using hj, V_new_ptr⟩
    simp [execOp, ho, Instr.box, run_newVar, Result.andThen]

theorem Vs_flatMap {C : Ctx} {h : Heap} {nx : Nat} {A : AS} {a : Act} : ∀ (xs : List Operand), (∀ x ∈ xs, Vs C h nx (A.ev x).cells (a.eval x).cells.toList) →
    Vs C h nx (xs.map fun x => (A.ev x).cells).flatten (xs.map fun x => (a.eval x).cells.toList).flatten
  | [], _ => rfl
  | x :: xs, hx => by
    simp only [List.map_cons, List.flatten_cons]
    exact Vs_append _ _ _ _ (hx x (List.mem_cons_self ..)) (Vs_flatMap xs fun y hy => hx y (List.mem_cons_of_mem _ hy))

theorem buildSlice_exec {t len : Nat} {ps : Array (Nat × Operand)} (ho : o.op = .buildSlice t len ps) (hok : opOk P o.op = true)
    (hp : ∀ p ∈ ps.toList, (A.ev p.2).cells.length = (tiOf P (tiOf P t).elem).size ∧ (A.ev p.2).storable = true) :
    0 < (tiOf P (tiOf P t).elem).size ∧ len = ps.size ∧ ∀ (C : Ctx) (a : Act) (h : Heap) (nx : Nat), (∀ p ∈ ps.toList, V C h nx (A.ev p.2) (a.eval p.2)) → ∃ (vs : List Value) (e : Nat),
      (execOp a.eval o).run P C.w = .ok (.value (.slice (some ⟨C.w.heap.size, 0, none⟩) len len)) (C.w.alloc (.cells ⟨vs⟩ e)) ∧ Vs C h nx (ps.toList.map fun p => (A.ev p.2).cells).flatten vs ∧ vs.length = len * (tiOf P (tiOf P t).elem).size := by
  rw [ho] at hok
  simp only [opOk, Bool.and_eq_true, decide_eq_true_eq, beq_iff_eq] at hok
  obtain ⟨⟨⟨⟨he, hlen⟩, h1000⟩, hidx⟩, hsz⟩ := hok
  obtain ⟨e, i, z, hu, hi, hs, hby, hz, hzs, hel⟩ := elemOk_spec he
  simp only [hu, hi, decide_eq_true_eq] at hsz
  rw [hel, tiOf_size hi] at hp ⊢
  refine ⟨hs, hlen, fun C a h nx hV => ?_⟩
  have hcells : ∀ p ∈ ps.toList, Vs C h nx (A.ev p.2).cells (a.eval p.2).cells.toList := fun p hpm => (V_cells (hp p hpm).2 (hV p hpm)).1
  have hvals : ∀ v ∈ ps.toList.map (fun p => a.eval p.2), v.cells.size = i.size := by
    intro v hv
    simp only [List.mem_map] at hv
    obtain ⟨p, hpm, rfl⟩ := hv
    rw [← Array.length_toList, Vs_length _ _ (hcells p hpm), (hp p hpm).1]
  have hvlen : (ps.toList.map fun p => a.eval p.2).length = len := by simp [hlen]
  have hzip : ((ps.map fun (i, x) => (i, a.eval x)).toList) = (List.range' 0 (ps.toList.map fun p => a.eval p.2).length).zip (ps.toList.map fun p => a.eval p.2) := by
    rw [hvlen, hlen, ← List.range_eq_range', ← hidx]
    have : ∀ l : List (Nat × Operand), (l.map fun (p : Nat × Operand) => (p.1, a.eval p.2)) = (l.map (·.1)).zip (l.map fun p => a.eval p.2) := by
      intro l
      induction l with
      | nil => rfl
      | cons p l ih => simp only [List.map_cons, List.zip_cons_cons, ih]
    simpa using this ps.toList
  have hfill := fill_rows i.size (ps.toList.map fun p => a.eval p.2) 0 ((Array.range (len * i.size)).map (z.cells[· % z.cells.size]!)) hvals (by simp [hlen])
  rw [← hzip] at hfill
  have hflat : ((ps.toList.map fun p => a.eval p.2).map fun v => v.cells.toList).flatten.length = len * i.size := by
    rw [flatten_length (k := i.size) _ (fun l hl => by
      simp only [List.mem_map] at hl
      obtain ⟨v, ⟨p, hpm, rfl⟩, rfl⟩ := hl
      rw [Array.length_toList]; exact hvals _ (List.mem_map.2 ⟨p, hpm, rfl⟩))]
    simp [hlen]
  have hdrop : ((Array.range (len * i.size)).map (z.cells[· % z.cells.size]!)).toList.drop ((0 + (ps.toList.map fun p => a.eval p.2).length) * i.size) = [] := by
    rw [hvlen]; simp
  rw [hdrop] at hfill
  simp only [Nat.zero_mul, List.take_zero, List.nil_append, List.append_nil] at hfill
  have h24 : ¬ (16777216 < len * i.size) := by
    have : len * i.size ≤ 1000 * 1000 := Nat.mul_le_mul h1000 hsz
    omega
  have hflatV := Vs_flatMap (C := C) (h := h) (nx := nx) (A := A) (a := a) (ps.toList.map (·.2)) (fun x hx => by
    simp only [List.mem_map] at hx
    obtain ⟨p, hpm, rfl⟩ := hx
    exact hcells p hpm)
  simp only [List.map_map, Function.comp_def] at hflatV hfill hflat
  refine ⟨(ps.toList.map fun p => (a.eval p.2).cells.toList).flatten, e, ?_, hflatV, hflat⟩
  by_cases h0 : len = 0
  · have hps : ps = #[] := by apply Array.eq_empty_of_size_eq_zero; omega
    subst hps
    subst h0
    refine execOp_run_value' (s := Instr.buildSlice t 0 #[]) (by simp [execOp, ho]) ?_
    simp [Instr.buildSlice, run_underlying hu, sizeOf, typeInfo, hi, Instr.fill, newRow, Result.andThen]
    exact congrArg (fun c => C.w.alloc (.cells c e)) (by apply Array.ext'; simp)
  · have hpos : ¬ len * i.size = 0 := by
      intro e0
      rcases Nat.mul_eq_zero.1 e0 with e0 | e0 <;> omega
    exact execOp_run_value' (s := Instr.buildSlice t len (ps.map fun (i, x) => (i, a.eval x))) (by simp [execOp, ho]) (run_buildSlice C.w t e len _ _ i z hu hi hz h24 hpos (by simpa using hfill))

theorem opwp_buildSlice {t len : Nat} {ps : Array (Nat × Operand)} (ho : o.op = .buildSlice t len ps) (hok : opOk P o.op = true) (hd : ∀ d, o.dst = some d → d < A.N)
    (h : (∀ p ∈ ps.toList, (A.ev p.2).cells.length = (tiOf P (tiOf P t).elem).size ∧ (A.ev p.2).storable = true) ∧
      K ((A.alloc ⟨(tiOf P (tiOf P t).elem).size, ps.toList.map fun p => (A.ev p.2).cells⟩).put o.dst (.sl A.nx len 0 len))) : OpWp P o A K := by
  obtain ⟨hp, h⟩ := h
  obtain ⟨hs, hlen, hx⟩ := buildSlice_exec ho hok hp
  refine OpWp.of_new hd hs (fun e he => ?_) h fun C a r => ?_
  · simp only [List.mem_map] at he
    obtain ⟨p, hpm, rfl⟩ := he
    exact (hp p hpm).1
  · obtain ⟨vs, e, hrun, hvs, hl⟩ := hx C a A.heap A.nx fun p _ => V_ev r.env p.2
    refine ⟨.slice (some ⟨C.w.heap.size, 0, none⟩) len len, _, ⟨vs⟩, e, hrun, hvs, fun j u hj => by simpa using hj, ?_⟩
    refine V_new_sl (by omega) (by simp [hlen]) (Nat.le_refl _) ?_
    rw [bsize_alloc]
    simp only [List.size_toArray]
    omega

/-- A new block, laid to rest at once. -/
theorem rest_block {C : Ctx} {h : Heap} {nx : Nat} (H : HeapRel C h nx) {w' : World} {cs : Array Value} {ty : Nat}
    (hw : w'.heap = C.w.heap.push (.cells cs ty)) (hos : w'.os = C.w.os) (hta : w'.tape = C.w.tape) (hou : w'.output = C.w.output ∧ C.w.drawn ≤ w'.drawn) :
    HeapRel ⟨fun b => C.I b ∨ b = C.w.heap.size, C.β, w'⟩ h nx ∧ Step C h nx ⟨fun b => C.I b ∨ b = C.w.heap.size, C.β, w'⟩ h nx := by
  have hold : ∀ b, b < C.w.heap.size → w'.heap[b]? = C.w.heap[b]? := fun b hb => by rw [hw, Array.getElem?_push, if_neg (by omega)]
  have hst : Step C h nx ⟨fun b => C.I b ∨ b = C.w.heap.size, C.β, w'⟩ h nx := by
    refine ⟨Nat.le_refl _, fun b hb => .inl hb, fun b hb => ?_, fun m hm k' es' he => ⟨es', he, Nat.le_refl _, fun _ => rfl⟩, fun b hb => .inl hb, hos, hta, hou, by rw [hw]; simp, fun b hb _ => hold b hb, fun b hb => by simp only [bsize, hold b hb]⟩
    rcases hb with hb | hb
    · exact .inl hb
    · exact .inr (.inl (by omega))
  refine ⟨⟨H.new, fun n k es he => ?_, H.inj, fun b hb => ?_⟩, hst⟩
  · obtain ⟨h1, h2⟩ := H.blk n k es he
    refine ⟨h1, ?_⟩
    rcases h2 with h2 | ⟨b, c, ty', h3, h4, h5, h6⟩
    · exact .inl h2
    · have hb : b < C.w.heap.size := (Array.getElem?_eq_some_iff.1 h4).1
      refine .inr ⟨b, c, ty', h3, (hold b hb).trans h4, fun hI => ?_, VE_moves (hst.moves H) _ _ _ _ (hold b hb) h6⟩
      rcases hI with hI | hI
      · exact h5 hI
      · omega
  · rw [hw]
    simp only [Array.size_push]
    rcases hb with hb | hb
    · have := H.old b hb; omega
    · omega

theorem slit_wp {t len : Nat} {ps : Array (Nat × Operand)} {k : AV → Prop} (ho : o.op = .buildSlice t len ps) (hok : opOk P o.op = true)
    (h : aslit (tiOf P) t (ps.toList.map fun p => A.ev p.2) k) : ∃ av, k av ∧ ∀ (C : Ctx) (a : Act) (hp : Heap) (nx : Nat), HeapRel C hp nx → (∀ x ∈ o.op.operands.toList, V C hp nx (A.ev x) (a.eval x)) →
      ∃ C' v, (execOp a.eval o).run P C.w = .ok (.value v) C'.w ∧ V C' hp nx av v ∧ HeapRel C' hp nx ∧ Step C hp nx C' hp nx := by
  unfold aslit at h
  obtain ⟨⟨hp, hpure⟩, h⟩ := h
  have hp' : ∀ p ∈ ps.toList, (A.ev p.2).cells.length = (tiOf P (tiOf P t).elem).size ∧ (A.ev p.2).storable = true := fun p hpm => hp _ (List.mem_map.2 ⟨p, hpm, rfl⟩)
  obtain ⟨hs, hlen, hx⟩ := buildSlice_exec ho hok hp'
  refine ⟨_, h, fun C a hh nx H hv => ?_⟩
  obtain ⟨vs, e, hrun, hvs, hl⟩ := hx C a hh nx fun p hpm => hv p.2 (by
    simp only [ho, Op.operands, Array.toList_map, List.mem_map]
    exact ⟨p, hpm, rfl⟩)
  obtain ⟨H', hst⟩ := rest_block (w' := C.w.alloc (.cells ⟨vs⟩ e)) (cs := ⟨vs⟩) (ty := e) H rfl rfl rfl ⟨rfl, Nat.le_refl _⟩
  refine ⟨_, _, hrun, ?_, H', hst⟩
  simp only [List.map_map, Function.comp_def] at hpure ⊢
  have hl2 : (ps.toList.map fun p => (A.ev p.2).cells).length = len := by simp [hlen]
  refine ⟨some ⟨C.w.heap.size, 0, none⟩, len, by rw [hl2], ⟨by rw [hl2]; exact Nat.le_refl _, hpure⟩, fun _ => ⟨C.w.heap.size, 0, (tiOf P (tiOf P t).elem).size, rfl, .inr rfl, VE_of_Vs _ vs _ _ _ (fun e he => ?_) (Vs_moves (hst.moves H) _ _ hvs) fun j v hj => ?_⟩⟩
  · simp only [List.mem_map] at he
    obtain ⟨p, hpm, rfl⟩ := he
    exact (hp' p hpm).1
  · have hnew : (C.w.alloc (.cells ⟨vs⟩ e)).heap[C.w.heap.size]? = some (.cells ⟨vs⟩ e) := heap_alloc_new C.w _
    simp only [Nat.zero_add, World.cell?, hnew]
    simpa using hj

theorem made_flat (z : Array Value) : ∀ n : Nat, 0 < z.size → (madeCells z (n * z.size)).toList = (List.replicate n z.toList).flatten
  | 0, _ => by simp [madeCells]
  | n + 1, hz => by
    rw [List.replicate_succ', List.flatten_append, ← made_flat z n hz]
    simp only [madeCells, Array.toList_map, Array.toList_range, Nat.succ_mul, List.range_add, List.map_append, List.map_map, List.flatten_cons, List.flatten_nil, List.append_nil]
    congr 1
    apply List.ext_getElem?
    intro j
    simp only [List.getElem?_map, Array.getElem?_toList]
    by_cases hj : j < z.size
    · rw [List.getElem?_range hj, Array.getElem?_eq_getElem hj]
      simp [Nat.mod_eq_of_lt hj, Nat.add_mod, hj]
    · rw [List.getElem?_eq_none (by simpa using hj), Array.getElem?_eq_none (by omega)]
      rfl

theorem opwp_makeSlice {t : Nat} {l c : Operand} (ho : o.op = .makeSlice t l c) (hok : opOk P o.op = true) (hd : ∀ d, o.dst = some d → d < A.N)
    (h : amake (tiOf P (tiOf P t).elem).size (tiOf P (tiOf P t).elem).zero A (A.ev l) o.dst K) : OpWp P o A K := by
  rw [ho] at hok
  simp only [opOk, Bool.and_eq_true] at hok
  obtain ⟨he, hsame⟩ := hok
  obtain ⟨e, i, z, hu, hi, hs, hby, hz, hzs, hel⟩ := elemOk_spec he
  rw [hel, tiOf_size hi, tiOf_zero hi hz] at h
  unfold amake at h
  split at h
  · rename_i n hn
    obtain ⟨⟨h0, hroom⟩, h⟩ := h
    unfold roomy at hroom
    have hcs : ∀ a : Act, a.eval c = a.eval l := by
      intro a
      unfold sameTmp at hsame
      split at hsame
      · simp only [beq_iff_eq] at hsame; rw [hsame]
      · simp only [beq_iff_eq] at hsame; rw [hsame]
      · cases hsame
    refine OpWp.of_new hd hs (fun e he => ?_) h fun C a r => ?_
    · rw [List.mem_replicate] at he
      rw [he.2]; simp [hzs]
    · have hl : a.eval l = .int .i64 n := by have := V_ev r.env l; rw [hn] at this; exact this
      have hb : (i.bytes : Int) * n ≤ 281474976710656 := by
        have h1 : (i.bytes : Int) ≤ 128 := by omega
        have h2 : n ≤ 1099511627776 := by omega
        calc (i.bytes : Int) * n ≤ 128 * n := Int.mul_le_mul_of_nonneg_right h1 h0
          _ ≤ 281474976710656 := by omega
      have hrun := run_make (P := P) C.w t e i z hu hi hz .i64 .i64 n n h0 (Int.le_refl _) hb (by omega)
      refine ⟨.slice (some ⟨C.w.heap.size, 0, none⟩) n.toNat n.toNat, (List.replicate n.toNat z.cells.toList).flatten, madeCells z.cells (n.toNat * i.size), e, ?_, ?_, fun j u hj => ?_, V_new_sl (by omega) (by simp) (Nat.le_refl _) (by rw [bsize_alloc, size_madeCells]; exact Nat.le_refl _)⟩
      · exact execOp_run_value' (s := Instr.makeSlice t (a.eval l) (a.eval c)) (by simp [execOp, ho]) (by rw [hcs, hl]; exact hrun)
      · have gen : ∀ m : Nat, Vs C A.heap A.nx (List.replicate m (z.cells.toList.map ofConst)).flatten (List.replicate m z.cells.toList).flatten := by
          intro m
          induction m with
          | zero => rfl
          | succ m ih => simp only [List.replicate_succ, List.flatten_cons]; exact Vs_append _ _ _ _ (Vs_ofConst _) ih
        exact gen _
      · rw [← hzs, ← Array.getElem?_toList, made_flat z.cells n.toNat (by omega)]
        exact hj
  · exact h.elim

theorem opwp_store {t : Nat} {p x : Operand} (ho : o.op = .store t p x) (hok : varOk P t = true) (hd : ∀ d, o.dst = some d → d < A.N)
    (h : astore (tiOf P t).size A (A.ev p) (A.ev x) o.dst K) : OpWp P o A K := by
  obtain ⟨i, z, hi, hs, hz, hzs⟩ := varOk_spec hok
  rw [tiOf_size hi] at h
  unfold astore at h
  split at h
  · rename_i n tip ix j hp
    unfold ablk at h
    split at h
    · rename_i bl hbl
      obtain ⟨bk, bes⟩ := bl
      unfold astoreB astoreE at h
      obtain ⟨htip, h⟩ := h
      simp only at htip h
      split at h
      · rename_i e he
        obtain ⟨⟨hl, hfit, hst⟩, h⟩ := h
        intro C a r next Q hnext
        have hpv := V_ev r.env p
        rw [hp] at hpv
        obtain ⟨b, hβ, hpe⟩ := V_ptr_live hbl htip hpv
        obtain ⟨hk, hblk⟩ := r.heap.blk n bk bes hbl
        rcases hblk with ⟨h1, _⟩ | ⟨b', cs, ty, h1, hheap, _, hve⟩
        · rw [hβ] at h1; cases h1
        · rw [hβ] at h1
          cases h1
          have hcx := V_cells (x := A.ev x) (v := a.eval x) hst (V_ev r.env x)
          have hlen := Vs_length _ _ hcx.1
          have hels := VE_lengths _ _ _ _ hve
          have hek := hels e (List.mem_of_getElem? he)
          obtain ⟨vs, hvl, hvs, hvc⟩ := VE_flat bes b 0 bk hve
          have hvcs : ∀ (j : Nat) (v : Value), vs[j]? = some v → cs[j]? = some v := fun j v hj => by
            have := hvc j v hj
            simpa [World.cell?, hheap] using this
          have hixlt : ix < bes.length := (List.getElem?_eq_some_iff.1 he).1
          have hin : ix * bk + j + (A.ev x).cells.length ≤ vs.length := by
            rw [hvl, hl]
            have : (ix + 1) * bk ≤ bes.length * bk := Nat.mul_le_mul_right _ hixlt
            rw [Nat.succ_mul] at this
            omega
          have hvcsz : vs.length ≤ cs.size := by
            rcases Nat.lt_or_ge cs.size vs.length with hlt | hge
            · have := hvcs cs.size vs[cs.size] (List.getElem?_eq_getElem hlt)
              simp at this
            · exact hge
          have hstore := run_storeCells_at P b (ix * bk + j) ty (a.eval x).cells.toList 0 cs C.w hheap (by rw [hlen]; omega) hcx.2
          simp only [Nat.add_zero, hlen] at hstore
          have hflat := flatten_set (new := (A.ev x).cells) (j := j) bes ix e hels he (by omega)
          have hnew : Vs C A.heap A.nx (bes.set ix (aspl e j (A.ev x).cells)).flatten (vs.take (ix * bk + j) ++ ((a.eval x).cells.toList ++ vs.drop (ix * bk + j + (a.eval x).cells.toList.length))) := by
            rw [hflat]; exact Vs_aspl hvs hcx.1 _
          obtain ⟨H', hstep⟩ := set_block (es' := bes.set ix (aspl e j (A.ev x).cells)) (cs' := (cs.toList.take (ix * bk + j) ++ (a.eval x).cells.toList ++ cs.toList.drop (ix * bk + j + (A.ev x).cells.length)).toArray) r.heap hbl hβ hheap (by simp) (fun e' he' => by
              rcases List.mem_or_eq_of_mem_set he' with h2 | h2
              · exact hels e' h2
              · rw [h2]; simp only [aspl, List.length_append, List.length_take, List.length_drop]; omega) hnew (fun q v hq => by
              rw [hlen] at hq
              simp only [List.append_assoc, List.getElem?_toArray]
              rw [List.getElem?_append] at hq ⊢
              have e1 : (vs.take (ix * bk + j)).length = ix * bk + j := by rw [List.length_take]; omega
              have e2 : (cs.toList.take (ix * bk + j)).length = ix * bk + j := by rw [List.length_take, Array.length_toList]; omega
              rw [e1] at hq
              rw [e2]
              split at hq
              · rename_i hqlt
                rw [if_pos hqlt]
                rw [List.getElem?_take_of_lt hqlt] at hq ⊢
                simpa using hvcs q v hq
              · rename_i hqge
                rw [if_neg hqge]
                rw [List.getElem?_append] at hq ⊢
                split at hq
                · rename_i hq2; rw [if_pos hq2]; exact hq
                · rename_i hq2
                  rw [if_neg hq2]
                  rw [List.getElem?_drop] at hq ⊢
                  simpa using hvcs _ v hq) (by simp only [List.size_toArray, List.length_append, List.length_take, List.length_drop, Array.length_toList, hlen] ; omega) rfl
          have hput := (Rel.step r hstep H').put (av := .tup []) (v := undef) ⟨[], rfl, rfl⟩ o.dst hd
          unfold Oper.wp
          have hrun : (execOp a.eval o).run P C.w = .ok .skip (C.w.setRow b (cs.toList.take (ix * bk + j) ++ (a.eval x).cells.toList ++ cs.toList.drop (ix * bk + j + (A.ev x).cells.length)).toArray) := by
            have hszv : ¬ ((a.eval x).cells.size ≠ i.size) := by rw [← Array.length_toList, hlen, hl]; simp
            simp only [execOp, ho, Instr.storeAt, hpe, Instr.sureAddr, storeVar, Sem.run_bind, Sem.run_pure, Result.andThen, sizeOf, typeInfo]
            simp [hi, Result.andThen, hszv, hstore]
          rw [hrun]
          refine hnext _ ⟨C.I, C.β, _⟩ _ h hput ?_ (by cases o.dst <;> rfl)
          cases o.dst <;> exact hstep
      · exact h.elim
    · exact h.elim
  · exact h.elim

/-- What is appended. -/
theorem aelems_spec {x : AV} {kl : List Cells → Prop} (h : aelems A x kl) : ∃ xs, kl xs ∧ ∀ (C : Ctx) xv, HeapRel C A.heap A.nx → V C A.heap A.nx x xv → ∀ k, (∀ e ∈ xs, e.length = k) →
    ∃ a c, xv = .slice a xs.length c ∧ (xs ≠ [] → ∃ b off news, a = some ⟨b, off, none⟩ ∧ news.length = xs.length * k ∧ Vs C A.heap A.nx xs.flatten news ∧ ∀ (j : Nat) (v : Value), news[j]? = some v → C.w.cell? ⟨b, off + j, none⟩ = some v) := by
  unfold aelems at h
  split at h
  · rename_i es
    refine ⟨es, h, fun C xv _ hx k hk => ?_⟩
    obtain ⟨a, c, rfl, _, hb⟩ := hx
    refine ⟨a, c, rfl, fun hne => ?_⟩
    obtain ⟨b, off, k', rfl, _, hve⟩ := hb (by simpa using hne)
    have hkk : k' = k := by
      cases es with
      | nil => exact absurd rfl hne
      | cons e r => rw [← hve.1, hk e (List.mem_cons_self ..)]
    subst hkk
    obtain ⟨news, h1, h2, h3⟩ := VE_flat es b off k' hve
    exact ⟨b, off, news, rfl, h1, h2, h3⟩
  · exact ⟨[], h, fun C xv _ hx k _ => ⟨none, 0, hx, fun hne => absurd rfl hne⟩⟩
  · rename_i n tip off len
    unfold ablk at h
    split at h
    · rename_i bl hbl
      obtain ⟨bk, bes⟩ := bl
      obtain ⟨htip, h⟩ := h
      simp only at htip h
      refine ⟨_, h, fun C xv H hx k hk => ?_⟩
      obtain ⟨_, ⟨a, c, rfl⟩, hx⟩ := hx
      obtain ⟨_, hx⟩ := hx bk bes hbl
      obtain ⟨hle, hx⟩ := hx htip.symm
      have hlen : ((bes.drop off).take len).length = len := by rw [List.length_take, List.length_drop]; omega
      rw [hlen]
      refine ⟨a, c, rfl, fun hne => ?_⟩
      have hpos : 0 < len := by
        rcases Nat.eq_zero_or_pos len with h0 | h0
        · subst h0; simp at hne
        · exact h0
      rcases hx with ⟨_, _, _, h0⟩ | ⟨b, cap, o', hβ, he, ho', hc, hsz⟩
      · omega
      · obtain rfl := ho' (by omega)
        cases he
        obtain ⟨hk0, hblk⟩ := H.blk n bk bes hbl
        rcases hblk with ⟨h1, _⟩ | ⟨b', cs, ty, h1, hheap, _, hve⟩
        · rw [hβ] at h1; cases h1
        · rw [hβ] at h1; cases h1
          have hve' := VE_take len _ _ _ _ (VE_drop off _ _ _ _ hve)
          have hkk : bk = k := by
            have : ∃ e, e ∈ (bes.drop off).take len := by
              cases hq : (bes.drop off).take len with
              | nil => exact absurd hq hne
              | cons e r => exact ⟨e, List.mem_cons_self ..⟩
            obtain ⟨e, he⟩ := this
            rw [← VE_lengths _ _ _ _ hve' e he, hk e he]
          subst hkk
          obtain ⟨news, h2, h3, h4⟩ := VE_flat _ _ _ _ hve'
          rw [hlen] at h2
          exact ⟨b, _, news, rfl, h2, h3, by simpa using h4⟩
    · exact h.elim
  · exact h.elim

theorem run_append_zero {t ty e : Nat} {i : TypeInfo} (hu : P.underlying t = some (.slice e)) (hi : P.info? e = some i) (w : World) (a a' : Option Addr) (n c c' : Nat) (hc : n ≤ c) :
    (Builtin.append_ #[t, t] ty #[.slice a n c, .slice a' 0 c']).run P w = .ok (.slice a n c) w := by
  have h0 : ∀ w, (Builtin.firstCells i.size 0 (.slice a' 0 c')).run P w = .ok #[] w := by
    intro w
    cases a' with
    | none => rfl
    | some a' =>
      simp only [Builtin.firstCells, Nat.zero_mul]
      rfl
  cases a with
  | none => simp [Builtin.append_, run_underlying hu, sizeOf, typeInfo, hi, Builtin.lenOf, hc, h0, Result.andThen]
  | some a => simp [Builtin.append_, run_underlying hu, sizeOf, typeInfo, hi, Builtin.lenOf, hc, h0, Result.andThen, storeCells]

theorem run_append_in {t ty e : Nat} {i : TypeInfo} (hu : P.underlying t = some (.slice e)) (hi : P.info? e = some i) (w : World)
    (g sLen sCap ty' : Nat) (cur : Array Value) (hg : w.heap[g]? = some (.cells cur ty' (0, 0)))
    (a : Addr) (m c : Nat) (news : List Value) (hl : news.length = m * i.size) (hnews : ∀ (j : Nat) (u : Value), news[j]? = some u → w.cell? (a.add j) = some u) (h1 : ∀ u ∈ news, u.oneCell' = true)
    (hroom : sLen + m ≤ sCap) (hfit : sLen * i.size + news.length ≤ cur.size) :
    (Builtin.append_ #[t, t] ty #[.slice (some ⟨g, 0, none⟩) sLen sCap, .slice (some a) m c]).run P w =
      .ok (.slice (some ⟨g, 0, none⟩) (sLen + m) sCap) (w.setRow g (cur.toList.take (sLen * i.size) ++ news ++ cur.toList.drop (sLen * i.size + news.length)).toArray) := by
  have hf := run_firstCells_some (P := P) w i.size m a m c news hl hnews
  have hst := run_storeCells_at P g (sLen * i.size) ty' news 0 cur w hg (by simpa using hfit) h1
  simp only [Nat.add_zero] at hst
  simp [Builtin.append_, run_underlying hu, sizeOf, typeInfo, hi, Builtin.lenOf, hroom, hf, Addr.add_lit, hst]

theorem take_pre {vs : List Value} {cs : Array Value} {n : Nat} (hl : vs.length = n) (hc : ∀ (j : Nat) (v : Value), vs[j]? = some v → cs[j]? = some v) : n ≤ cs.size ∧ cs.toList.take n = vs := by
  have hle : n ≤ cs.size := by
    rcases Nat.lt_or_ge cs.size n with hlt | hge
    · have := hc cs.size vs[cs.size] (List.getElem?_eq_getElem (by omega))
      simp at this
    · exact hge
  refine ⟨hle, List.ext_getElem? fun j => ?_⟩
  rw [List.getElem?_take]
  by_cases hj : j < n
  · rw [if_pos hj, List.getElem?_eq_getElem (by omega : j < vs.length)]
    simpa using hc j _ (List.getElem?_eq_getElem (by omega))
  · rw [if_neg hj, List.getElem?_eq_none (by omega)]

theorem opwp_append {s x : Operand} {t : Nat} (ho : o.op = .call ⟨.builtin .append, #[s, x], #[t, t]⟩) (he : elemOk P t = true) (hd : ∀ d, o.dst = some d → d < A.N)
    (h : aelems A (A.ev x) (aappTo (tiOf P (tiOf P t).elem).size A (A.ev s) o.dst K)) : OpWp P o A K := by
  obtain ⟨e, i, z, hu, hi, hs, hby, hz, hzs, hel⟩ := elemOk_spec he
  obtain ⟨xs, h, hx⟩ := aelems_spec h
  rw [hel, tiOf_size hi] at h
  have hexec : ∀ (C : Ctx) (a : Act) (w' : World) (v : Value), (Builtin.append_ #[t, t] o.type #[a.eval s, a.eval x]).run P C.w = .ok v w' → (execOp a.eval o).run P C.w = .ok (.value v) w' := by
    intro C a w' v hr
    simp [execOp, ho, resolve, invoke, builtin, hr, Result.andThen]
  unfold aappTo at h
  split at h
  · rename_i hsv
    cases xs with
    | nil =>
      intro C a r next Q hnext
      have h1 := V_ev r.env s
      rw [hsv] at h1
      have hse : a.eval s = .slice none 0 0 := h1
      obtain ⟨a', c, hxe, _⟩ := hx C (a.eval x) r.heap (V_ev r.env x) 0 (by simp)
      refine upon_of_value (hexec C a _ _ ?_) (hnext _ C _ h (r.put (av := .nils) rfl _ hd) (by cases o.dst <;> exact Step.refl) (by cases o.dst <;> rfl))
      rw [hse, hxe]
      exact run_append_zero hu hi C.w none a' 0 0 c (Nat.le_refl _)
    | cons e0 r0 =>
      obtain ⟨⟨hroom, hall⟩, h⟩ := h
      unfold roomy at hroom
      intro C a r next Q hnext
      have h1 : a.eval s = .slice none 0 0 := by have := V_ev r.env s; rw [hsv] at this; exact this
      obtain ⟨a', c, hxe, hnews⟩ := hx C (a.eval x) r.heap (V_ev r.env x) i.size (fun e he => (hall e he).1)
      obtain ⟨b, off, news, rfl, hnl, hvs, hcell⟩ := hnews (by simp)
      have hby' : (r0.length + 1) * i.bytes ≤ 281474976710656 := by
        have : (r0.length + 1) * i.bytes ≤ 1099511627776 * 128 := Nat.mul_le_mul hroom hby
        omega
      have hrun := run_append_nil (P := P) C.w t o.type e i z hu hi hz ⟨b, off, none⟩ (r0.length + 1) c news (by simpa using hnl) (fun j v hj => by rw [Addr.add_lit]; exact hcell j v hj) (by omega) (by omega) hby'
      have hge := grownCap_ge C.w (r0.length + 1) 0 e
      obtain ⟨H', hstep⟩ := new_block (n := A.nx) (nx' := A.nx + 1) (k := i.size) (es := e0 :: r0) (vs := news) (cs := news.toArray ++ Builtin.zeroCells z.cells (grownCap C.w (r0.length + 1) 0 e - (r0.length + 1))) (ty := e)
        (w' := C.w.drew.alloc (.cells (news.toArray ++ Builtin.zeroCells z.cells (grownCap C.w (r0.length + 1) 0 e - (r0.length + 1))) e))
        r.heap (.inl ⟨rfl, rfl⟩) hs (fun e he => (hall e he).1) hvs (fun j v hj => by
          rw [Array.getElem?_append_left (by simpa using (List.getElem?_eq_some_iff.1 hj).1)]
          simpa using hj) rfl rfl rfl ⟨rfl, Nat.le_succ _⟩
      refine upon_of_value (hexec C a _ _ (by rw [h1, hxe]; exact hrun)) (hnext _ ⟨_, _, _⟩ _ h (Rel.put (A := A.alloc ⟨i.size, e0 :: r0⟩) (Rel.step r hstep H') (V_new_sl (Nat.lt_succ_self _) (by simp) hge ?_) _ hd) (by cases o.dst <;> exact hstep) (by cases o.dst <;> rfl))
      have : bsize (C.w.drew.alloc (.cells (news.toArray ++ Builtin.zeroCells z.cells (grownCap C.w (r0.length + 1) 0 e - (r0.length + 1))) e)) C.w.heap.size = _ := bsize_alloc C.w.drew _ e
      rw [this]
      simp only [Array.size_append, List.size_toArray, size_zeroCells, hzs, hnl, List.length_cons, ← Nat.add_mul]
      exact Nat.mul_le_mul_right _ (by omega)
  · rename_i n tip off len hsv
    unfold ablk at h
    split at h
    · rename_i bl hbl
      obtain ⟨bk, bes⟩ := bl
      obtain ⟨⟨hoff, hlt, htip, hbk, hroom, hall⟩, h⟩ := h
      simp only at htip hbk h
      subst hoff hlt hbk
      unfold roomy at hroom
      intro C a r next Q hnext
      obtain ⟨a', c, hxe, hnews⟩ := hx C (a.eval x) r.heap (V_ev r.env x) i.size (fun e he => (hall e he).1)
      have hsV : V C A.heap A.nx (.sl n len 0 len) (a.eval s) := by have := V_ev r.env s; rwa [hsv] at this
      obtain ⟨hn, ⟨sa, scap, hse⟩, hsx⟩ := hsV
      obtain ⟨_, hsx⟩ := hsx i.size bes hbl
      obtain ⟨_, hsx⟩ := hsx htip.symm
      cases xs with
      | nil =>
        have hh : upd A.heap n (some ⟨i.size, bes ++ []⟩) = A.heap := by
          funext m
          simp only [upd, List.append_nil]
          by_cases hm : m = n
          · rw [if_pos hm, hm, hbl]
          · rw [if_neg hm]
        simp only [AS.hput, hh, List.length_nil, Nat.add_zero] at h
        have hcc : len ≤ scap := by
          rcases hsx with ⟨_, e, _, h0⟩ | ⟨b, cap, o', _, e, _, hc, _⟩
          · omega
          · rw [hse] at e; cases e; exact hc
        refine upon_of_value (hexec C a (C.w) (a.eval s) ?_) (hnext _ C _ h (Rel.put (A := { A with heap := A.heap }) r (V_ev r.env s |> fun q => by rw [hsv] at q; exact q) _ hd) (by cases o.dst <;> exact Step.refl) (by cases o.dst <;> rfl))
        rw [hse, hxe]
        exact run_append_zero hu hi C.w sa a' len scap c hcc
      | cons e0 r0 =>
        obtain ⟨b, off, news, rfl, hnl, hvs, hcell⟩ := hnews (by simp)
        have hroom' := hroom
        simp only [List.length_cons] at hroom'
        have hone : ∀ u ∈ news, u.oneCell' = true := all_one _ _ (by
          rw [List.all_eq_true]
          intro c hc
          obtain ⟨el, hel, hcl⟩ := List.mem_flatten.1 hc
          exact List.all_eq_true.1 (hall el hel).2 c hcl) hvs
        have hby' : (len + (r0.length + 1)) * i.bytes ≤ 140737488355328 := by
          have : (len + (r0.length + 1)) * i.bytes ≤ 1099511627776 * 128 := Nat.mul_le_mul hroom hby
          omega
        have hlens : ∀ e ∈ bes ++ (e0 :: r0), e.length = i.size := by
          intro e he
          rcases List.mem_append.1 he with he | he
          · obtain ⟨_, hblk⟩ := r.heap.blk n _ bes hbl
            rcases hblk with ⟨_, h0⟩ | ⟨_, _, _, _, _, _, hve⟩
            · subst h0; simp at he
            · exact VE_lengths _ _ _ _ hve e he
          · exact (hall e he).1
        rcases hsx with ⟨hβ, he0, _, h0⟩ | ⟨b', cap, o', hβ, he0, ho', hc, hsz⟩
        · -- the name stands for nil so far
          obtain rfl : bes = [] := List.eq_nil_of_length_eq_zero (by omega)
          subst h0
          have hrun := run_append_nil (P := P) C.w t o.type e i z hu hi hz ⟨b, off, none⟩ (r0.length + 1) c news (by simpa using hnl) (fun j v hj => by rw [Addr.add_lit]; exact hcell j v hj) (by omega) (by omega) (by have hb := hby'; rw [Nat.zero_add] at hb; omega)
          have hge := grownCap_ge C.w (r0.length + 1) 0 e
          obtain ⟨H', hstep⟩ := new_block (n := n) (nx' := A.nx) (k := i.size) (es := e0 :: r0) (vs := news) (cs := news.toArray ++ Builtin.zeroCells z.cells (grownCap C.w (r0.length + 1) 0 e - (r0.length + 1))) (ty := e)
            (w' := C.w.drew.alloc (.cells (news.toArray ++ Builtin.zeroCells z.cells (grownCap C.w (r0.length + 1) 0 e - (r0.length + 1))) e))
            r.heap (.inr ⟨hn, rfl, [], hbl, by simp⟩) hs (fun e he => (hall e he).1) hvs (fun j v hj => by
              rw [Array.getElem?_append_left (by simpa using (List.getElem?_eq_some_iff.1 hj).1)]
              simpa using hj) rfl rfl rfl ⟨rfl, Nat.le_succ _⟩
          simp only [List.nil_append, Nat.zero_add, List.length_cons] at h
          refine upon_of_value (hexec C a _ _ (by rw [he0, hxe]; exact hrun)) (hnext _ ⟨_, _, _⟩ _ h (Rel.put (A := A.hput n ⟨i.size, e0 :: r0⟩) (Rel.step r hstep H') (V_new_sl hn (by simp) hge ?_) _ hd) (by cases o.dst <;> exact hstep) (by cases o.dst <;> rfl))
          have : bsize (C.w.drew.alloc (.cells (news.toArray ++ Builtin.zeroCells z.cells (grownCap C.w (r0.length + 1) 0 e - (r0.length + 1))) e)) C.w.heap.size = _ := bsize_alloc C.w.drew _ e
          rw [this]
          simp only [Array.size_append, List.size_toArray, size_zeroCells, hzs, hnl, List.length_cons, ← Nat.add_mul]
          exact Nat.mul_le_mul_right _ (by omega)
        · obtain ⟨_, hblk⟩ := r.heap.blk n _ bes hbl
          rcases hblk with ⟨h1, _⟩ | ⟨b2, cs, ty, h1, hheap, _, hve⟩
          · rw [hβ] at h1; cases h1
          · rw [hβ] at h1; cases h1
            obtain ⟨olds, hol, hov, hoc⟩ := VE_flat _ _ _ _ hve
            rw [htip] at hol
            have hocs : ∀ (j : Nat) (v : Value), olds[j]? = some v → cs[j]? = some v := fun j v hj => by
              have := hoc j v hj
              simpa [World.cell?, hheap] using this
            obtain ⟨hocl, hotake⟩ := take_pre hol hocs
            have hallV : Vs C A.heap A.nx (bes ++ (e0 :: r0)).flatten (olds ++ news) := by rw [List.flatten_append]; exact Vs_append _ _ _ _ hov hvs
            have hbs : bsize C.w b' = cs.size := by simp only [bsize, hheap]
            rw [hbs, Nat.zero_add] at hsz
            by_cases hfit : len + (r0.length + 1) ≤ cap
            · obtain rfl := ho' (by omega)
              rw [Nat.zero_mul] at he0
              have hspace : len * i.size + news.length ≤ cs.size := by
                rw [hnl, List.length_cons, ← Nat.add_mul]
                exact Nat.le_trans (Nat.mul_le_mul_right _ hfit) hsz
              have hrun := run_append_in (P := P) (ty := o.type) hu hi C.w b' len cap ty cs hheap ⟨b, off, none⟩ (r0.length + 1) c news (by simpa using hnl) (fun j v hj => by rw [Addr.add_lit]; exact hcell j v hj) hone hfit hspace
              rw [hotake] at hrun
              obtain ⟨H', hstep⟩ := set_block (es' := bes ++ (e0 :: r0)) (cs' := (olds ++ news ++ cs.toList.drop (len * i.size + news.length)).toArray) r.heap hbl hβ hheap (by simp) hlens hallV (fun j v hj => by
                rw [List.getElem?_toArray, List.getElem?_append_left (List.getElem?_eq_some_iff.1 hj).1]; exact hj) (by
                simp only [List.size_toArray, List.length_append, List.length_drop, Array.length_toList, hol]; omega) rfl
              refine upon_of_value (hexec C a _ _ (by rw [he0, hxe]; exact hrun)) (hnext _ ⟨_, _, _⟩ _ h (Rel.put (A := A.hput n ⟨i.size, bes ++ (e0 :: r0)⟩) (Rel.step r hstep H') ?_ _ hd) (by cases o.dst <;> exact hstep) (by cases o.dst <;> rfl))
              refine ⟨hn, ⟨_, _, rfl⟩, fun k' es' he => ?_⟩
              simp only [AS.hput, upd, if_true, Option.some.injEq, Blk.mk.injEq] at he
              obtain ⟨rfl, rfl⟩ := he
              refine ⟨by simp [htip], fun _ => ⟨by simp, .inr ⟨b', cap, 0, hβ, rfl, by simp, hfit, ?_⟩⟩⟩
              have hnew := setRow_heap C.w b' cs (olds ++ news ++ cs.toList.drop (len * i.size + news.length)).toArray ty (0, 0) hheap
              simp only [bsize, hnew]
              simp only [List.size_toArray, List.length_append, List.length_drop, Array.length_toList, hol, Nat.zero_add]
              omega
            · have hrun := run_append_grow (P := P) C.w t o.type e i z hu hi hz ⟨b', o', none⟩ len cap olds hol (fun j v hj => by
                rw [Addr.add_lit]
                have hlt := (List.getElem?_eq_some_iff.1 hj).1
                have hcap : cap ≠ 0 := fun h0 => by
                  have : len = 0 := by omega
                  rw [this] at hol; omega
                have := hoc j v hj
                rw [ho' hcap]; simpa using this) ⟨b, off, none⟩ (r0.length + 1) c news (by simpa using hnl) (fun j v hj => by rw [Addr.add_lit]; exact hcell j v hj) (by omega) (by omega) (growslice_fits (by omega) hby')
              have hge := grownCap_ge C.w (len + (r0.length + 1)) cap e
              obtain ⟨H', hstep⟩ := new_block (n := n) (nx' := A.nx) (k := i.size) (es := bes ++ (e0 :: r0)) (vs := olds ++ news) (cs := olds.toArray ++ news.toArray ++ Builtin.zeroCells z.cells (grownCap C.w (len + (r0.length + 1)) cap e - (len + (r0.length + 1)))) (ty := e)
                (w' := C.w.drew.alloc (.cells (olds.toArray ++ news.toArray ++ Builtin.zeroCells z.cells (grownCap C.w (len + (r0.length + 1)) cap e - (len + (r0.length + 1)))) e))
                r.heap (.inr ⟨hn, rfl, bes, hbl, by simp⟩) hs hlens hallV (fun j v hj => by
                  rw [Array.getElem?_append_left (by simpa using (List.getElem?_eq_some_iff.1 hj).1)]
                  rw [List.append_toArray, List.getElem?_toArray]
                  exact hj) rfl rfl rfl ⟨rfl, Nat.le_succ _⟩
              refine upon_of_value (hexec C a _ _ (by rw [he0, hxe]; exact hrun)) (hnext _ ⟨_, _, _⟩ _ h (Rel.put (A := A.hput n ⟨i.size, bes ++ (e0 :: r0)⟩) (Rel.step r hstep H') (V_new_sl hn (by simp [htip]) hge ?_) _ hd) (by cases o.dst <;> exact hstep) (by cases o.dst <;> rfl))
              have : bsize (C.w.drew.alloc (.cells (olds.toArray ++ news.toArray ++ Builtin.zeroCells z.cells (grownCap C.w (len + (r0.length + 1)) cap e - (len + (r0.length + 1)))) e)) C.w.heap.size = _ := bsize_alloc C.w.drew _ e
              rw [this]
              simp only [Array.size_append, List.size_toArray, size_zeroCells, hzs, hnl, hol, List.length_cons, ← Nat.add_mul]
              exact Nat.mul_le_mul_right _ (by omega)
    · exact h.elim
  · exact h.elim

theorem opwp_call {f : Operand} {xs : Array Operand} {ts : Array TypeId} (ho : o.op = .call ⟨.value f, xs, ts⟩) (hd : ∀ d, o.dst = some d → d < A.N)
    (h : acall P (A.ev f) (xs.toList.map A.ev) o.dst A K) : OpWp P o A K := by
  unfold acall at h
  split at h
  · rename_i g a1 c1 hf
    obtain ⟨⟨fn, hfn, hbody, hname⟩, h⟩ := h
    intro C a r next Q hnext
    have hfv := V_ev r.env f
    rw [hf] at hfv
    obtain ⟨vs, us, hfe, hvs, hus⟩ := hfv
    have hargs := Vs_append _ _ _ _ hvs (Vs_append _ _ _ _ (Vs_map (C := C) (hp := A.heap) (nx := A.nx) (A := A) (a := a) xs.toList fun x _ => V_ev r.env x) hus)
    have hc := h C _ r.heap hargs
    unfold Oper.wp
    have hrun : (execOp a.eval o).run P C.w = .ok (.enter g ⟨vs ++ (xs.toList.map a.eval ++ us)⟩) C.w := by
      have hnone : ¬ fn.body = none := by intro hb; rw [hb] at hbody; cases hbody
      have e1 : (⟨vs⟩ : Array Value) ++ xs.map a.eval ++ ⟨us⟩ = ⟨vs ++ (xs.toList.map a.eval ++ us)⟩ := by
        apply Array.ext'; simp [List.append_assoc]
      have hname' : ¬ fn.name = "runtime.NumGoroutine" := by simpa using hname
      simp [execOp, ho, resolve, hfe, Deferred.ofValue, invoke, callFunc, hfn, hname', hnone, Result.andThen]
      try (apply Array.ext'; simp)
    rw [hrun, Oper.upon_enter]
    refine hc.mono fun e w' ⟨rv, h', nx', C', v, he, hK, hV, H', hst, hw⟩ => ?_
    subst he
    subst hw
    refine hnext _ C' _ hK (Rel.put (A := { A with heap := h', nx := nx' }) (Rel.step r hst H') hV _ hd) ?_ (by cases o.dst <;> rfl)
    cases o.dst <;> exact hst
  · exact h.elim

theorem flatten_take {α : Type} {k : Nat} (m : Nat) {es : List (List α)} (h : ∀ e ∈ es, e.length = k) : (es.take m).flatten = es.flatten.take (m * k) := by
  induction es generalizing m with
  | nil => simp
  | cons e es ih =>
    cases m with
    | zero => simp
    | succ m =>
      have he := h e (List.mem_cons_self ..)
      simp only [List.take_succ_cons, List.flatten_cons]
      rw [ih m (fun e he => h e (List.mem_cons_of_mem _ he)), List.take_append, List.take_of_length_le (l := e) (by rw [he, Nat.succ_mul]; omega), he, Nat.succ_mul, Nat.add_sub_cancel]

theorem flatten_drop {α : Type} {k : Nat} (m : Nat) {es : List (List α)} (h : ∀ e ∈ es, e.length = k) : (es.drop m).flatten = es.flatten.drop (m * k) := by
  induction es generalizing m with
  | nil => simp
  | cons e es ih =>
    cases m with
    | zero => simp
    | succ m =>
      have he := h e (List.mem_cons_self ..)
      simp only [List.drop_succ_cons, List.flatten_cons]
      rw [ih m (fun e he => h e (List.mem_cons_of_mem _ he)), List.drop_append, List.drop_of_length_le (l := e) (by rw [he, Nat.succ_mul]; omega), he, Nat.succ_mul, Nat.add_sub_cancel, List.nil_append]

theorem Step.of_eq {C : Ctx} {h : Heap} {nx : Nat} {h' : Heap} (e : h' = h) : Step C h nx C h' nx := by subst e; exact Step.refl

theorem zeroCells_flat (z : Array Value) (n : Nat) (hz : 0 < z.size) : (Builtin.zeroCells z n).toList = (List.replicate n z.toList).flatten := by
  rw [← made_flat z n hz]; rfl

theorem opwp_clear {s : Operand} {t : Nat} (ho : o.op = .call ⟨.builtin .clear, #[s], #[t]⟩) (hok : opOk P o.op = true) (hd : ∀ d, o.dst = some d → d < A.N)
    (h : aclear (tiOf P (tiOf P t).elem).zero A (A.ev s) o.dst K) : OpWp P o A K := by
  rw [ho] at hok
  have he : elemOk P t = true := by simpa [opOk] using hok
  obtain ⟨e, i, z, hu, hi, hs, hby, hz, hzs, hel⟩ := elemOk_spec he
  rw [hel, tiOf_zero hi hz] at h
  unfold aclear at h
  split at h
  · rename_i n tip off len hsv
    unfold ablk at h
    split at h
    · rename_i bl hbl
      obtain ⟨bk, bes⟩ := bl
      unfold aclearB at h
      obtain ⟨⟨htip, hbk, hcell⟩, h⟩ := h
      simp only at htip hbk h
      have hzl : (z.cells.toList.map ofConst).length = i.size := by simp [hzs]
      rw [hzl] at hbk
      intro C a r next Q hnext
      have hv := V_ev r.env s
      rw [hsv] at hv
      obtain ⟨hn, _, hv⟩ := hv
      obtain ⟨_, hv⟩ := hv bk bes hbl
      obtain ⟨hle, hv⟩ := hv htip.symm
      have hput : ∀ {C' : Ctx}, HeapRel C' (upd A.heap n (some ⟨bk, bes.take off ++ (List.replicate len (z.cells.toList.map ofConst) ++ bes.drop (off + len))⟩)) A.nx → Step C A.heap A.nx C' (upd A.heap n (some ⟨bk, bes.take off ++ (List.replicate len (z.cells.toList.map ofConst) ++ bes.drop (off + len))⟩)) A.nx →
          (execOp a.eval o).run P C.w = .ok (.value (.tuple #[])) C'.w → o.wp P a C.w next Q := by
        intro C' H' hst hr
        refine upon_of_value hr (hnext _ C' _ h (Rel.put (A := { A with heap := _, nx := A.nx }) (r.step hst H') (av := .tup []) (v := .tuple #[]) ⟨[], rfl, rfl⟩ _ hd) ?_ (by cases o.dst <;> rfl))
        cases o.dst <;> exact hst
      have hrunE : ∀ {w' : World}, (∀ ty, (Builtin.clear_ #[t] ty #[a.eval s]).run P C.w = .ok (.tuple #[]) w') → (execOp a.eval o).run P C.w = .ok (.value (.tuple #[])) w' := by
        intro w' hr
        simp [execOp, ho, resolve, invoke, builtin, hr, Result.andThen]
      by_cases hl0 : len = 0
      · subst hl0
        have hes : bes.take off ++ (List.replicate 0 (z.cells.toList.map ofConst) ++ bes.drop (off + 0)) = bes := by simp
        have hup : upd A.heap n (some ⟨bk, bes.take off ++ (List.replicate 0 (z.cells.toList.map ofConst) ++ bes.drop (off + 0))⟩) = A.heap := by
          rw [hes]; funext m; simp only [upd]; split
          · rename_i hm; rw [hm, hbl]
          · rfl
        refine hput (C' := C) (by rw [hup]; exact r.heap) (Step.of_eq hup) (hrunE fun ty => ?_)
        rcases hv with ⟨_, hve, _, _⟩ | ⟨b, cap, oo, _, hve, _⟩ <;> rw [hve] <;> simp [Builtin.clear_, run_underlying hu]
      · rcases hv with ⟨_, _, _, hl⟩ | ⟨b, cap, oo, hβ, hve, hoo, hlc, hcap⟩
        · exact absurd hl hl0
        · have hoff : oo = off * bk := hoo (by omega)
          obtain ⟨hk, hblk⟩ := r.heap.blk n bk bes hbl
          rcases hblk with ⟨h1, _⟩ | ⟨b', cs, ty, h1, hheap, _, hvE⟩
          · rw [hβ] at h1; cases h1
          · rw [hβ] at h1
            cases h1
            have hels := VE_lengths _ _ _ _ hvE
            obtain ⟨vs, hvl, hvs, hvc⟩ := VE_flat bes b 0 bk hvE
            have hvcs : ∀ (j : Nat) (v : Value), vs[j]? = some v → cs[j]? = some v := fun j v hj => by
              have := hvc j v hj
              simpa [World.cell?, hheap] using this
            have hvcsz : vs.length ≤ cs.size := by
              rcases Nat.lt_or_ge cs.size vs.length with hlt | hge
              · have := hvcs cs.size vs[cs.size] (List.getElem?_eq_getElem hlt)
                simp at this
              · exact hge
            have hlc' : off + len ≤ bes.length := by omega
            have hbound : (off + len) * bk ≤ bes.length * bk := Nat.mul_le_mul_right _ hlc'
            rw [Nat.add_mul] at hbound
            have hzsl : ((List.replicate len z.cells.toList).flatten).length = len * bk := by
              rw [flatten_length (k := bk) _ (fun e he => by rw [List.mem_replicate] at he; rw [he.2]; simp [hzs, hbk])]; simp
            have hzone : ∀ u ∈ (List.replicate len z.cells.toList).flatten, u.oneCell' = true := by
              intro u hu'
              obtain ⟨l, hl, hul⟩ := List.mem_flatten.1 hu'
              rw [List.mem_replicate] at hl
              rw [hl.2] at hul
              exact all_one (C := C) (h := A.heap) (nx := A.nx) _ _ hcell (Vs_ofConst _) u hul
            have hstore := run_storeCells_at P b (off * bk) ty (List.replicate len z.cells.toList).flatten 0 cs C.w hheap (by omega) hzone
            simp only [Nat.add_zero, hzsl] at hstore
            have hzV : Vs C A.heap A.nx (List.replicate len (z.cells.toList.map ofConst)).flatten (List.replicate len z.cells.toList).flatten := by
              have gen : ∀ m : Nat, Vs C A.heap A.nx (List.replicate m (z.cells.toList.map ofConst)).flatten (List.replicate m z.cells.toList).flatten := by
                intro m
                induction m with
                | zero => rfl
                | succ m ih => simp only [List.replicate_succ, List.flatten_cons]; exact Vs_append _ _ _ _ (Vs_ofConst _) ih
              exact gen _
            have hzfl : ((List.replicate len (z.cells.toList.map ofConst)).flatten).length = len * bk := by
              rw [flatten_length (k := bk) _ (fun e he => by rw [List.mem_replicate] at he; rw [he.2]; simp [hzs, hbk])]; simp
            have hflat : (bes.take off ++ (List.replicate len (z.cells.toList.map ofConst) ++ bes.drop (off + len))).flatten = aspl bes.flatten (off * bk) (List.replicate len (z.cells.toList.map ofConst)).flatten := by
              simp only [List.flatten_append, aspl, hzfl, flatten_take _ hels, flatten_drop _ hels, Nat.add_mul]
            have hnew : Vs C A.heap A.nx (bes.take off ++ (List.replicate len (z.cells.toList.map ofConst) ++ bes.drop (off + len))).flatten (vs.take (off * bk) ++ ((List.replicate len z.cells.toList).flatten ++ vs.drop (off * bk + ((List.replicate len z.cells.toList).flatten).length))) := by
              rw [hflat]; exact Vs_aspl hvs hzV _
            obtain ⟨H', hstep⟩ := set_block (es' := bes.take off ++ (List.replicate len (z.cells.toList.map ofConst) ++ bes.drop (off + len))) (cs' := (cs.toList.take (off * bk) ++ (List.replicate len z.cells.toList).flatten ++ cs.toList.drop (off * bk + len * bk)).toArray) r.heap hbl hβ hheap (by
                simp only [List.length_append, List.length_take, List.length_replicate, List.length_drop]; omega) (fun e' he' => by
                rcases List.mem_append.1 he' with h2 | h2
                · exact hels e' (List.mem_of_mem_take h2)
                · rcases List.mem_append.1 h2 with h2 | h2
                  · rw [List.mem_replicate] at h2; rw [h2.2]; simp [hzs, hbk]
                  · exact hels e' (List.mem_of_mem_drop h2)) hnew (fun q v hq => by
                rw [hzsl] at hq
                simp only [List.append_assoc, List.getElem?_toArray]
                rw [List.getElem?_append] at hq ⊢
                have e1 : (vs.take (off * bk)).length = off * bk := by rw [List.length_take]; omega
                have e2 : (cs.toList.take (off * bk)).length = off * bk := by rw [List.length_take, Array.length_toList]; omega
                rw [e1] at hq
                rw [e2]
                split at hq
                · rename_i hqlt
                  rw [if_pos hqlt]
                  rw [List.getElem?_take_of_lt hqlt] at hq ⊢
                  simpa using hvcs q v hq
                · rename_i hqge
                  rw [if_neg hqge]
                  rw [List.getElem?_append] at hq ⊢
                  split at hq
                  · rename_i hq2; rw [if_pos hq2]; exact hq
                  · rename_i hq2
                    rw [if_neg hq2]
                    rw [List.getElem?_drop] at hq ⊢
                    simpa using hvcs _ v hq) (by simp only [List.size_toArray, List.length_append, List.length_take, List.length_drop, Array.length_toList, hzsl]; omega) rfl
            refine hput H' hstep (hrunE fun ty => ?_)
            rw [hve, hoff]
            obtain ⟨m, rfl⟩ : ∃ m, len = m + 1 := ⟨len - 1, by omega⟩
            have hzv : (zeroValue e).run P C.w = .ok z C.w := by simp [zeroValue, typeInfo, hi, hz, Result.andThen]
            have hzc := zeroCells_flat z.cells (m + 1) (by omega)
            simp [Builtin.clear_, run_underlying hu, hzv, hzc, hstore, Result.andThen]
    · exact h.elim
  · exact h.elim

theorem opwp_binOpN {op : BinOp} {t : TypeId} {x y : Operand} {u : TypeId} (ho : o.op = .binOp op t x y u) (hok : opOk P o.op = true) (hd : ∀ d, o.dst = some d → d < A.N)
    (h : abinN (tiOf P t).kind op (A.ev x) (A.ev y) (kput o.dst A K)) : OpWp P o A K := by
  have hsl : (tiOf P t).kind = .slice → ∃ e, P.underlying t = some (.slice e) := by
    intro hk
    have hkd : kindOf (P.underlying t) = .slice := hk
    unfold kindOf at hkd
    split at hkd <;> first | exact ⟨_, by assumption⟩ | cases hkd
  have step : ∀ (b : Bool) (C : Ctx) (a : Act), Rel C A a → (binOp op t (a.eval x) (a.eval y)).run P C.w = .ok (.bool b) C.w → (∃ n1 n2 n3 m1 m2 m3, a.eval x = .slice n1 n2 n3 ∧ a.eval y = .slice m1 m2 m3) → (execOp a.eval o).run P C.w = .ok (.value (.bool b)) C.w := by
    intro b C a _ hr ⟨n1, n2, n3, m1, m2, m3, hx, hy⟩
    have hg : (eqGuard op t x y (a.eval x) (a.eval y)).run P C.w = .ok () C.w := by
      rw [hx, hy]; unfold eqGuard; split <;> rfl
    exact execOp_run_value (s := do eqGuard op t x y (a.eval x) (a.eval y); binOp op t (a.eval x) (a.eval y)) (by simp [execOp, ho]) (by simp only [Sem.run_bind, hg, Result.andThen, hr])
  unfold abinN at h
  split at h
  · rename_i es hx hy
    obtain ⟨hk, h⟩ := h
    obtain ⟨e, hu⟩ := hsl hk
    intro C a r next Q hnext
    have hxv := V_ev r.env x
    have hyv := V_ev r.env y
    rw [hx] at hxv; rw [hy] at hyv
    obtain ⟨ad, c, hxe, hc, hne⟩ := hxv
    have hye : a.eval y = .slice none 0 0 := hyv
    have hb := h ad.isNone (fun hl => by obtain ⟨b, off, k, ha, _⟩ := hne hl; rw [ha]; rfl)
    refine upon_of_value (step ad.isNone C a r (by rw [hxe, hye]; exact Lib.run_eql_slice_nil C.w t e _ _ _ _ _ hu) ⟨_, _, _, _, _, _, hxe, hye⟩) (hnext _ C _ hb (r.put (av := .bool ad.isNone) (v := .bool ad.isNone) rfl _ hd) ?_ (by cases o.dst <;> rfl))
    cases o.dst <;> exact Step.refl
  · rename_i hx hy
    obtain ⟨hk, h⟩ := h
    obtain ⟨e, hu⟩ := hsl hk
    intro C a r next Q hnext
    have hxv := V_ev r.env x
    have hyv := V_ev r.env y
    rw [hx] at hxv; rw [hy] at hyv
    have hxe : a.eval x = .slice none 0 0 := hxv
    have hye : a.eval y = .slice none 0 0 := hyv
    refine upon_of_value (step true C a r (by rw [hxe, hye]; exact Lib.run_eql_slice_nil C.w t e none _ _ _ _ hu) ⟨_, _, _, _, _, _, hxe, hye⟩) (hnext _ C _ h (r.put (av := .bool true) (v := .bool true) rfl _ hd) ?_ (by cases o.dst <;> rfl))
    cases o.dst <;> exact Step.refl
  · have h' : aev (tiOf P) o.op A (kput o.dst A K) := by rw [ho]; exact h
    obtain ⟨av, hk, hq⟩ := aev_quiet hok h'
    exact OpWp.of_quiet hq hd hk

theorem put_heap' (A : AS) (d : Option Tmp) (v : AV) : (A.put d v).heap = A.heap ∧ (A.put d v).nx = A.nx ∧ (A.put d v).N = A.N := by cases d <;> exact ⟨rfl, rfl, rfl⟩

/-- Every operation. -/
theorem aop_sound (hok : opOk P o.op = true) (hd : ∀ d, o.dst = some d → d < A.N) (h : aop P (tiOf P) o.dst o.op K A) : OpWp P o A K := by
  unfold aop at h
  split at h
  case _ t ho => exact opwp_alloc ho (by simpa [opOk, ho] using hok) hd h
  case _ t x ho => exact opwp_box ho (by simpa [opOk, ho] using hok) hd h
  case _ t len ps ho =>
    split at h
    · rename_i hps
      exact opwp_buildSlice ho hok hd ⟨by rw [hps]; simp, by rw [hps]; exact h⟩
    · rename_i p r hps
      rw [← hps] at h
      obtain ⟨av, hk, hx⟩ := slit_wp ho hok h
      intro C a r next Q hnext
      obtain ⟨C', v, hr, hV, H', hst⟩ := hx C a _ _ r.heap fun x _ => V_ev r.env x
      obtain ⟨e1, e2, e3⟩ := put_heap' A o.dst av
      exact upon_of_value hr (hnext _ C' _ hk (Rel.put (A := { A with heap := A.heap, nx := A.nx }) (r.step hst H') hV _ hd) (by rw [e1, e2]; exact hst) e3)
  case _ t l c ho => exact opwp_makeSlice ho hok hd h
  case _ t p x ho => exact opwp_store ho (by simpa [opOk, ho] using hok) hd h
  case _ args ts ho =>
    split at h
    · rename_i s x t r hargs hts
      rw [ho] at hok
      simp only [opOk] at hok
      split at hok
      · rename_i t' u hts'
        simp only [Bool.and_eq_true, beq_iff_eq] at hok
        obtain ⟨he, rfl⟩ := hok
        rw [hts] at hts'
        simp only [List.cons.injEq] at hts'
        obtain ⟨rfl, rfl⟩ := hts'
        have e1 : args = #[s, x] := by apply Array.ext'; simpa using hargs
        have e2 : ts = #[t, t] := by apply Array.ext'; simpa using hts
        subst e1 e2
        exact opwp_append ho he hd h
      · cases hok
    · exact h.elim
  case _ args ts ho =>
    split at h
    · rename_i s t r hargs hts
      rw [ho] at hok
      simp only [opOk] at hok
      split at hok
      · rename_i t' hts'
        rw [hts] at hts'
        simp only [List.cons.injEq] at hts'
        obtain ⟨rfl, rfl⟩ := hts'
        have e1 : args = #[s] := by apply Array.ext'; simpa using hargs
        have e2 : ts = #[t] := by apply Array.ext'; simpa using hts
        subst e1 e2
        exact opwp_clear ho (by rw [ho]; simpa [opOk] using hok) hd h
      · cases hok
    · exact h.elim
  case _ op t x y u ho => exact opwp_binOpN ho hok hd h
  case _ f xs ts ho => exact opwp_call ho hd h
  case _ =>
    obtain ⟨av, hk, hq⟩ := aev_quiet hok h
    exact OpWp.of_quiet hq hd hk
end
end Go.Abs
