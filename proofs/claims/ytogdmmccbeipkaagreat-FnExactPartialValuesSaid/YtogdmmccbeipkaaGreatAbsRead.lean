/- What a law's arguments read as: integers, lists of integers, lists of such lists, structs of them; and what a law that turns nothing of them owes. -/
import Derived.Test.YtogdmmccbeipkaaGreatAbsNew
import Derived.Deep.Slices
import Derived.ChangeSame
import Derived.Carry
import Derived.Below
set_option linter.all false
namespace Go.Abs
open Go Go.ChangeShapes Go.WideShapes Go.Deep Go.RowKit

/-- The memory as it comes in: all of it is at rest. -/
def rest0 (W : World) : Ctx := ⟨fun b => b < W.heap.size, fun _ => none, W⟩
theorem rest0_rel (W : World) : HeapRel (rest0 W) (Hp []) 0 := ⟨fun _ _ => rfl, fun n k es he => (by cases he), fun n m b h1 => absurd rfl h1, fun b hb => hb⟩

section
variable {W : World}

theorem V_lst_of {len cap k : Nat} {a : Addr} (row : Nat → Cells) (vf : Nat → Nat → Value) (hk : ∀ i, i < len → (row i).length = k ∧ AV.pureL (row i) = true) (hc : ∀ i, i < len → ∀ j, j < k → W.cell? (a.add (i * k + j)) = some (vf i j))
    (hv : ∀ i, i < len → Vs (rest0 W) (Hp []) 0 (row i) ((List.range k).map (vf i))) (hlc : len ≤ cap) (hk0 : 0 < k) :
    V (rest0 W) (Hp []) 0 (.lst ((List.range len).map row)) (.slice (some a) len cap) := by
  have hpure : ∀ l : List Nat, (∀ i ∈ l, i < len) → AV.pureE (l.map row) = true := by
    intro l
    induction l with
    | nil => intro _; rfl
    | cons i l ih =>
      intro h
      simp only [List.map_cons, AV.pureE, Bool.and_eq_true]
      exact ⟨(hk i (h i (List.mem_cons_self ..))).2, ih fun j hj => h j (List.mem_cons_of_mem _ hj)⟩
  refine ⟨some a, cap, by simp, ⟨by simpa using hlc, hpure _ (by simp)⟩, fun hne => ?_⟩
  have hl0 : 0 < len := by simpa [Nat.pos_iff_ne_zero] using hne
  have h00 := hc 0 hl0 0 hk0
  have hsp : a.spot = none := by
    have := World.cell?_spot h00
    simpa [Addr.add] using this
  obtain ⟨blk, off, spot⟩ := a
  simp only at hsp
  subst hsp
  have hblk : blk < W.heap.size := by
    unfold World.cell? at h00
    split at h00
    · rename_i hh
      rw [Addr.add_lit] at hh
      exact (Array.getElem?_eq_some_iff.1 hh).1
    · cases h00
  refine ⟨blk, off, k, rfl, hblk, ?_⟩
  have key : ∀ (l : List Nat) (s : Nat), l = List.range' s l.length → s + l.length ≤ len → VE (rest0 W) (Hp []) 0 blk (off + s * k) k (l.map row) := by
    intro l
    induction l with
    | nil => intros; trivial
    | cons i l ih =>
      intro s hl hs
      simp only [List.length_cons, List.range'_succ, List.cons.injEq] at hl
      obtain ⟨rfl, hl⟩ := hl
      simp only [List.length_cons] at hs
      have hi : i < len := by omega
      refine ⟨(hk i hi).1, ?_, ?_⟩
      · have gen : ∀ (cs : Cells) (vs : List Value) (o : Nat), Vs (rest0 W) (Hp []) 0 cs vs → (∀ j v, vs[j]? = some v → W.cell? ⟨blk, o + j, none⟩ = some v) → VC (rest0 W) (Hp []) 0 blk o cs := by
          intro cs
          induction cs with
          | nil => intros; trivial
          | cons c cs ihc =>
            intro vs o ⟨v, r, hvr, hv1, hv2⟩ hcell
            subst hvr
            refine ⟨⟨v, hcell 0 v rfl, hv1⟩, ihc r (o + 1) hv2 fun j u hj => ?_⟩
            have := hcell (j + 1) u (by simpa using hj)
            rw [show o + 1 + j = o + (j + 1) by omega]; exact this
        refine gen _ _ _ (hv i hi) fun j v hj => ?_
        rw [List.getElem?_map] at hj
        cases hr : (List.range k)[j]? with
        | none => rw [hr] at hj; cases hj
        | some j' =>
          rw [hr] at hj
          obtain ⟨hjk, hj'⟩ := List.getElem?_eq_some_iff.1 hr
          simp only [List.length_range] at hjk
          simp only [List.getElem_range] at hj'
          subst hj'
          simp only [Option.map_some, Option.some.injEq] at hj
          subst hj
          have := hc i hi j hjk
          rw [Addr.add_lit] at this
          rw [Nat.add_assoc]; exact this
      · have := ih (i + 1) hl (by omega)
        rw [show off + i * k + k = off + (i + 1) * k by rw [Nat.succ_mul]; omega]
        exact this
  have := key (List.range len) 0 (by rw [List.length_range, List.range_eq_range']) (by simp)
  simpa using this

theorem V_lst_nil : V (rest0 W) (Hp []) 0 (.lst []) (.slice none 0 0) := ⟨none, 0, rfl, ⟨Nat.le_refl _, rfl⟩, fun h => absurd rfl h⟩
end

section
variable {H : Type} {enc : TypeId × Value → H} {P : Program} {W : World} {fuel : Nat} {v : Value} {x : DataW H × List MemPlace}
variable {tz t1 t2 tS t3 tC : TypeId}

theorem wf_inR {n : Int} (h : (Lit.int .i64 n).wf = true) : InR n := by
  simp only [Lit.wf, Bool.and_eq_true, decide_eq_true_eq] at h
  simp [IntKind.min, IntKind.max, IntKind.bits, IntKind.signed] at h
  constructor <;> omega
theorem rd_int (hz : P.underlying tz = some (.int .i64)) (h : DataW.trod enc P W 0 (fun _ => true) true fuel tz [v] = some x) : ∃ n, v = .int .i64 n ∧ InR n := by
  obtain ⟨n, h1, _, h2⟩ := DataW.trod_int hz h
  simp only [List.cons.injEq, and_true] at h1
  exact ⟨n, h1, wf_inR h2⟩
theorem rd_ints (hz : P.underlying tz = some (.int .i64)) (hcz : P.cellsOf tz = 1) (h1 : P.underlying t1 = some (.slice tz)) (h : DataW.trod enc P W 0 (fun _ => true) true fuel t1 [v] = some x) :
    ∃ c : List Int, V (rest0 W) (Hp []) 0 (.lst (c.map fun x => [.int x])) v ∧ (∀ x ∈ c, InR x) ∧ c.length ≤ 9223372036854775807 := by
  rcases open_slice h1 h with ⟨hcs, _⟩ | ⟨a, len, cap, m, n, D, Pl, hcs, hb, hl, hm, hmm, hx, hi⟩
  · simp only [List.cons.injEq, and_true] at hcs
    subst hcs
    exact ⟨[], V_lst_nil, by simp, by simp⟩
  · simp only [List.cons.injEq, and_true] at hcs
    subst hcs
    simp only [if_true] at hmm
    subst hmm
    rw [hcz] at hi
    have hall : ∀ i, ∃ z : Int, i < len → W.cell? (a.add i) = some (.int .i64 z) ∧ InR z := fun i => by
      by_cases hil : i < len
      · obtain ⟨cs', hc, ht⟩ := hi i (by omega)
        obtain ⟨_, hcl, hat⟩ := World.cells?_some hc
        match cs', hcl with
        | [u], _ =>
          obtain ⟨z, rfl, hz'⟩ := rd_int hz ht
          have := hat 0 (by omega)
          refine ⟨z, fun _ => ⟨?_, hz'⟩⟩
          simpa [Addr.add] using this
      · exact ⟨0, fun h => absurd h hil⟩
    obtain ⟨zf, hzf⟩ := Classical.axiomOfChoice hall
    refine ⟨(List.range len).map zf, ?_, ?_, by unfold maxLen at hm; simp; omega⟩
    · have := V_lst_of (W := W) (len := len) (cap := m) (k := 1) (a := a) (fun i => [.int (zf i)]) (fun i _ => .int .i64 (zf i)) (fun i _ => ⟨rfl, rfl⟩) (fun i hil j hj => by
        obtain rfl : j = 0 := by omega
        simpa using (hzf i hil).1) (fun i hil => ⟨_, _, rfl, rfl, rfl⟩) hl (by omega)
      simpa [List.map_map, Function.comp_def] using this
    · intro y hy
      obtain ⟨i, hi', rfl⟩ := List.mem_map.1 hy
      exact (hzf i (by simpa using hi')).2
theorem rd_intss (hz : P.underlying tz = some (.int .i64)) (hcz : P.cellsOf tz = 1) (h1 : P.underlying t1 = some (.slice tz)) (hc1 : P.cellsOf t1 = 1) (h2 : P.underlying t2 = some (.slice t1)) (h : DataW.trod enc P W 0 (fun _ => true) true fuel t2 [v] = some x) :
    ∃ cs : List (List Int), V (rest0 W) (Hp []) 0 (.lst (cs.map fun c => [.lst (c.map fun x => [.int x])])) v ∧ (∀ c ∈ cs, (∀ x ∈ c, InR x) ∧ c.length ≤ 9223372036854775807) ∧ cs.length ≤ 9223372036854775807 := by
  rcases open_slice h2 h with ⟨hcs, _⟩ | ⟨a, len, cap, m, n, D, Pl, hcs, hb, hl, hm, hmm, hx, hi⟩
  · simp only [List.cons.injEq, and_true] at hcs
    subst hcs
    exact ⟨[], V_lst_nil, by simp, by simp⟩
  · simp only [List.cons.injEq, and_true] at hcs
    subst hcs
    simp only [if_true] at hmm
    subst hmm
    rw [hc1] at hi
    have hall : ∀ i, ∃ z : List Int × Value, i < len → W.cell? (a.add i) = some z.2 ∧ V (rest0 W) (Hp []) 0 (.lst (z.1.map fun x => [.int x])) z.2 ∧ (∀ x ∈ z.1, InR x) ∧ z.1.length ≤ 9223372036854775807 := fun i => by
      by_cases hil : i < len
      · obtain ⟨cs', hc, ht⟩ := hi i (by omega)
        obtain ⟨_, hcl, hat⟩ := World.cells?_some hc
        match cs', hcl with
        | [u], _ =>
          obtain ⟨c, hV, hR, hL⟩ := rd_ints hz hcz h1 ht
          have := hat 0 (by omega)
          refine ⟨(c, u), fun _ => ⟨?_, hV, hR, hL⟩⟩
          simpa [Addr.add] using this
      · exact ⟨([], .bool true), fun h => absurd h hil⟩
    obtain ⟨zf, hzf⟩ := Classical.axiomOfChoice hall
    refine ⟨(List.range len).map fun i => (zf i).1, ?_, fun c hc => ?_, by unfold maxLen at hm; simp; omega⟩
    · have := V_lst_of (W := W) (len := len) (cap := m) (k := 1) (a := a) (fun i => [.lst ((zf i).1.map fun x => [.int x])]) (fun i _ => (zf i).2) (fun i _ => ⟨rfl, by
        have : ∀ c : List Int, AV.pureE (c.map fun x => [AV.int x]) = true := fun c => by
          induction c with
          | nil => rfl
          | cons x c ih => simp [AV.pureE, AV.pureL, AV.pure, ih]
        simp [AV.pureL, AV.pure, this]⟩) (fun i hil j hj => by
        obtain rfl : j = 0 := by omega
        simpa using (hzf i hil).1) (fun i hil => ⟨_, _, rfl, (hzf i hil).2.1, rfl⟩) hl (by omega)
      simpa [List.map_map, Function.comp_def] using this
    · obtain ⟨i, hi', rfl⟩ := List.mem_map.1 hc
      exact (hzf i (by simpa using hi')).2.2

/-- A struct of a list and three integers, as it lies in four cells. -/
structure Row4 where
  cl : List Int
  l : Int
  r : Int
  p : Int
def Row4.ok (s : Row4) : Prop := ((∀ x ∈ s.cl, InR x) ∧ s.cl.length ≤ 9223372036854775807) ∧ InR s.l ∧ InR s.r ∧ InR s.p
def Row4.cells (s : Row4) : Cells := [.lst (s.cl.map fun x => [.int x]), .int s.l, .int s.r, .int s.p]
theorem rd_row4 {fs : Array Field} (hz : P.underlying tz = some (.int .i64)) (hcz : P.cellsOf tz = 1) (h1 : P.underlying t1 = some (.slice tz)) (hc1 : P.cellsOf t1 = 1) (hS : P.underlying tS = some (.struct fs)) (hcS : P.cellsOf tS = 4)
    (hfs : fs.toList.map (fun f => (f.type, f.offset)) = [(t1, 0), (tz, 1), (tz, 2), (tz, 3)]) {cs : List Value} (h : DataW.trod enc P W 0 (fun _ => true) true fuel tS cs = some x) :
    ∃ (s : Row4) (v0 v1 v2 v3 : Value), cs = [v0, v1, v2, v3] ∧ s.ok ∧ V (rest0 W) (Hp []) 0 (.lst (s.cl.map fun x => [.int x])) v0 ∧ v1 = .int .i64 s.l ∧ v2 = .int .i64 s.r ∧ v3 = .int .i64 s.p := by
  obtain ⟨xs, n, _, hx, hlen, hxl, hf⟩ := DataW.trod_struct hS h
  rw [hcS] at hlen
  obtain ⟨l⟩ := fs
  have hfl : l.length = 4 := by simpa using congrArg List.length hfs
  match l, hfl, hfs with
  | [f0, f1, f2, f3], _, hfs =>
    simp only [List.map_cons, List.map_nil, List.cons.injEq, Prod.mk.injEq, and_true] at hfs
    obtain ⟨⟨a0, b0⟩, ⟨a1, b1⟩, ⟨a2, b2⟩, ⟨a3, b3⟩⟩ := hfs
    match cs, hlen with
    | [v0, v1, v2, v3], _ =>
      match xs, hxl with
      | [y0, y1, y2, y3], _ =>
        have g0 := hf 0 f0 rfl
        have g1 := hf 1 f1 rfl
        have g2 := hf 2 f2 rfl
        have g3 := hf 3 f3 rfl
        rw [a0, b0, hc1] at g0
        rw [a1, b1, hcz] at g1
        rw [a2, b2, hcz] at g2
        rw [a3, b3, hcz] at g3
        obtain ⟨c, q1, q2, q3⟩ := rd_ints hz hcz h1 (v := v0) (x := y0) (by simpa using g0)
        obtain ⟨z1, r1, s1⟩ := rd_int hz (v := v1) (x := y1) (by simpa using g1)
        obtain ⟨z2, r2, s2⟩ := rd_int hz (v := v2) (x := y2) (by simpa using g2)
        obtain ⟨z3, r3, s3⟩ := rd_int hz (v := v3) (x := y3) (by simpa using g3)
        exact ⟨⟨c, z1, z2, z3⟩, v0, v1, v2, v3, rfl, ⟨⟨q2, q3⟩, s1, s2, s3⟩, q1, r1, r2, r3⟩
theorem rd_rows {fs : Array Field} (hz : P.underlying tz = some (.int .i64)) (hcz : P.cellsOf tz = 1) (h1 : P.underlying t1 = some (.slice tz)) (hc1 : P.cellsOf t1 = 1) (hS : P.underlying tS = some (.struct fs)) (hcS : P.cellsOf tS = 4)
    (hfs : fs.toList.map (fun f => (f.type, f.offset)) = [(t1, 0), (tz, 1), (tz, 2), (tz, 3)]) (h3 : P.underlying t3 = some (.slice tS)) (h : DataW.trod enc P W 0 (fun _ => true) true fuel t3 [v] = some x) :
    ∃ ss : List Row4, V (rest0 W) (Hp []) 0 (.lst (ss.map Row4.cells)) v ∧ (∀ s ∈ ss, s.ok) ∧ ss.length ≤ 9223372036854775807 := by
  rcases open_slice h3 h with ⟨hcs, _⟩ | ⟨a, len, cap, m, n, D, Pl, hcs, hb, hl, hm, hmm, hx, hi⟩
  · simp only [List.cons.injEq, and_true] at hcs
    subst hcs
    exact ⟨[], V_lst_nil, by simp, by simp⟩
  · simp only [List.cons.injEq, and_true] at hcs
    subst hcs
    simp only [if_true] at hmm
    subst hmm
    rw [hcS] at hi
    have hall : ∀ i, ∃ z : Row4 × (Nat → Value), i < len → (∀ j, j < 4 → W.cell? (a.add (i * 4 + j)) = some (z.2 j)) ∧ z.1.ok ∧ Vs (rest0 W) (Hp []) 0 z.1.cells ((List.range 4).map z.2) := fun i => by
      by_cases hil : i < len
      · obtain ⟨cs', hc, ht⟩ := hi i (by omega)
        obtain ⟨_, hcl, hat⟩ := World.cells?_some hc
        obtain ⟨s, v0, v1, v2, v3, rfl, hok, q0, q1, q2, q3⟩ := rd_row4 hz hcz h1 hc1 hS hcS hfs ht
        refine ⟨(s, fun j => [v0, v1, v2, v3].getD j v0), fun _ => ⟨fun j hj => ?_, hok, v0, _, rfl, q0, v1, _, rfl, q1, v2, _, rfl, q2, v3, _, rfl, q3, rfl⟩⟩
        have := hat j hj
        rw [Go.Deep.add_add] at this
        rw [this]
        have hj' : j = 0 ∨ j = 1 ∨ j = 2 ∨ j = 3 := by omega
        rcases hj' with rfl | rfl | rfl | rfl <;> rfl
      · exact ⟨(⟨[], 0, 0, 0⟩, fun _ => .bool true), fun h => absurd h hil⟩
    obtain ⟨zf, hzf⟩ := Classical.axiomOfChoice hall
    refine ⟨(List.range len).map fun i => (zf i).1, ?_, fun c hc => ?_, by unfold maxLen at hm; simp; omega⟩
    · have := V_lst_of (W := W) (len := len) (cap := m) (k := 4) (a := a) (fun i => (zf i).1.cells) (fun i => (zf i).2) (fun i _ => ⟨rfl, by
        have : ∀ c : List Int, AV.pureE (c.map fun x => [AV.int x]) = true := fun c => by
          induction c with
          | nil => rfl
          | cons x c ih => simp [AV.pureE, AV.pureL, AV.pure, ih]
        simp [Row4.cells, AV.pureL, AV.pure, this]⟩) (fun i hil j hj => (hzf i hil).1 j hj) (fun i hil => (hzf i hil).2.2) hl (by omega)
      simpa [List.map_map, Function.comp_def] using this
    · obtain ⟨i, hi', rfl⟩ := List.mem_map.1 hc
      exact (hzf i (by simpa using hi')).2.1
theorem rd_cnf {fs : Array Field} (hz : P.underlying tz = some (.int .i64)) (hcz : P.cellsOf tz = 1) (h1 : P.underlying t1 = some (.slice tz)) (hc1 : P.cellsOf t1 = 1) (h2 : P.underlying t2 = some (.slice t1)) (hc2 : P.cellsOf t2 = 1) (hC : P.underlying tC = some (.struct fs)) (hcC : P.cellsOf tC = 2)
    (hfs : fs.toList.map (fun f => (f.type, f.offset)) = [(tz, 0), (t2, 1)]) {b0 : Nat} (hv : Value.okWide P W .any b0 tC v) (h : DataW.trod enc P W 0 (fun _ => true) true fuel tC v.cells.toList = some x) :
    ∃ (n : Int) (cs : List (List Int)), V (rest0 W) (Hp []) 0 (.agg [.int n, .lst (cs.map fun c => [.lst (c.map fun x => [.int x])])]) v ∧ InR n ∧ (∀ c ∈ cs, (∀ x ∈ c, InR x) ∧ c.length ≤ 9223372036854775807) ∧ cs.length ≤ 9223372036854775807 := by
  obtain ⟨cells, rfl, hsz⟩ := okWide_struct hC hv
  obtain ⟨xs, n, _, hx, hlen, hxl, hf⟩ := DataW.trod_struct hC h
  rw [hcC] at hlen
  obtain ⟨l⟩ := fs
  have hfl : l.length = 2 := by simpa using congrArg List.length hfs
  match l, hfl, hfs with
  | [f0, f1], _, hfs =>
    simp only [List.map_cons, List.map_nil, List.cons.injEq, Prod.mk.injEq, and_true] at hfs
    obtain ⟨⟨a0, b0⟩, ⟨a1, b1⟩⟩ := hfs
    obtain ⟨cl⟩ := cells
    simp only [Value.cells] at hlen hf
    match cl, hlen with
    | [v0, v1], _ =>
      match xs, hxl with
      | [y0, y1], _ =>
        have g0 := hf 0 f0 rfl
        have g1 := hf 1 f1 rfl
        rw [a0, b0, hcz] at g0
        rw [a1, b1, hc2] at g1
        obtain ⟨z0, r0, s0⟩ := rd_int hz (v := v0) (x := y0) (by simpa using g0)
        obtain ⟨cs, q1, q2, q3⟩ := rd_intss hz hcz h1 hc1 h2 (v := v1) (x := y1) (by simpa using g1)
        exact ⟨z0, cs, ⟨[v0, v1], rfl, v0, _, rfl, r0, v1, _, rfl, q1, rfl⟩, s0, q2, q3⟩
end

/-- What a step of the memory at rest leaves of it. -/
theorem rest_below {W : World} {C' : Ctx} {h' : Heap} {nx' : Nat} (s : Step (rest0 W) (Hp []) 0 C' h' nx') : Below W.heap.size W C'.w :=
  ⟨s.os, s.tape, s.output.1, s.size, fun k hk => s.frame k hk fun ⟨n, h1, _⟩ => h1 rfl⟩

/-- A law that answers true and turns nothing that was there: its row's last step. -/
theorem law_post {H : Type} {enc : TypeId × Value → H} {P : Program} {f : Func} {s : ChangeSpec} {apart fresh handsOn again : Bool} {W W' : World} {args : Array Value} {ds : List (DataW H)} {before : List MemPlace} {tb : TypeId}
    (hl : laidOutB P = true) (hro : ∀ t ∈ f.params.toList, P.readableRec t = true ∧ t < P.types.size) (hr : f.resultTypes = #[tb]) (hbt : P.underlying tb = some .bool) (hvars : s.vars = [])
    (hres : (s.fn H (ds ++ [])).results = [.lit (.bool true)]) (hag : (s.fn H (ds ++ [])).args = ds) (hvs : (s.fn H (ds ++ [])).vars = [])
    (hW : DataW.Whole enc P f.params.toList s.vars apart W args.toList ds [] before) (hb : Below W.heap.size W W') : s.post enc P f apart fresh handsOn again W args (.bool true) W' := by
  have hlt : ∀ p ∈ before, p.block < W.heap.size := fun p hp => hW.lt p hp
  have hW0 := hW
  obtain ⟨p, q, hA, hV, hpq, hz, hn⟩ := hW
  rw [hvars] at hV
  obtain ⟨_, hq⟩ := trodVars_none hV
  subst hq
  rw [List.append_nil] at hpq
  subst hpq
  have carry : ∀ (sp : Nat → Bool), (∀ x ∈ before, sp x.block = true) → DataW.TrodAll enc P W' 0 sp true f.params.toList args.toList ds before := fun sp hsp => by
    have gen : ∀ (ts : List TypeId) (vs : List Value) (ds : List (DataW H)) (ps : List MemPlace), (∀ t ∈ ts, P.readableRec t = true ∧ t < P.types.size) → (∀ x ∈ ps, x.block < W.heap.size) → (∀ x ∈ ps, sp x.block = true) → DataW.TrodAll enc P W 0 (fun _ => true) true ts vs ds ps → DataW.TrodAll enc P W' 0 sp true ts vs ds ps := by
      intro ts
      induction ts with
      | nil =>
        intro vs ds ps _ _ _ h
        obtain ⟨rfl, rfl, rfl⟩ := trodAll_nil h
        rfl
      | cons t ts ih =>
        intro vs ds ps hro hlt hs h
        obtain ⟨v, vs1, d, ds1, a, b, rfl, rfl, rfl, h1, h2⟩ := trodAll_cons h
        have hta := hro t (List.mem_cons_self ..)
        exact ⟨a, b, WideElems.Trod_stays hl hta.1 hta.2 h1 (fun x hx => hb.same (hlt x (List.mem_append_left _ hx))) (fun x hx => hs x (List.mem_append_left _ hx)),
          ih vs1 ds1 b (fun t ht => hro t (List.mem_cons_of_mem _ ht)) (fun x hx => hlt x (List.mem_append_right _ hx)) (fun x hx => hs x (List.mem_append_right _ hx)) h2, rfl⟩
    exact gen _ _ _ _ hro hlt hsp hA
  have hold : ∀ x ∈ before, (fun b => decide (b < W.heap.size)) x.block = true := fun x hx => by simpa using hlt x hx
  have hresT : ∀ (b : Nat) (sp : Nat → Bool) (hd : Bool), DataW.TrodAll enc P W' b sp hd f.resultTypes.toList ((Value.bool true).resultList f.resultTypes.size) (s.fn H (ds ++ [])).results [] := fun b sp hd => by
    rw [hres, hr]
    refine ⟨[], [], ⟨1, ?_⟩, rfl, rfl⟩
    simp [DataW.trod, hbt, Value.cells]
  have hvarsT : ∀ sp : Nat → Bool, DataW.TrodVars enc P W' sp s.vars (s.fn H (ds ++ [])).vars [] := fun sp => by rw [hvars, hvs]; rfl
  have hargT : ∀ sp : Nat → Bool, (∀ x ∈ before, sp x.block = true) → DataW.TrodAll enc P W' 0 sp true f.params.toList args.toList (s.fn H (ds ++ [])).args before := fun sp hsp => by rw [hag]; exact carry sp hsp
  refine ⟨ds, [], before, [], before, [], hW0, hresT _ _ _, hargT _ hold, hvarsT _, World.keptBut_mono (fun x hx => ⟨hx, .inr (.inl hx)⟩) (hb.frame (· ∈ before)), fun _ => ?_⟩
  refine ⟨fun j t r h1 h2 => ?_, _, _, ([] ++ before) ++ [], ⟨[] ++ before, [], trodAll_append (hargT _ fun _ _ => rfl) (hresT _ _ _), hvarsT _, rfl, fun b off hin => ?_, fun ha => by simpa using hn ha⟩, fun x hx _ => by simpa using hx⟩
  · rw [hr] at h1 h2
    match j, h1, h2 with
    | 0, h1, h2 =>
      simp [Value.resultList] at h1 h2
      subst h1 h2
      simp [Value.okWide, hbt, Cell.okWide, Cell.ok]
  · have hin' : MemPlace.cell b off ∈ before := by simpa using hin
    rw [hb.frozen (hlt _ hin')]
    exact hz b off hin'
end Go.Abs
