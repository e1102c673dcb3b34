/- Contracts: splits, the program. -/
import Derived.Test.YtogdmmccbeipkaaGreatF17
set_option linter.all false
namespace Go.Proofs.YtogdmmccbeipkaaGreat.A
open Go Go.Abs Go.Shelf
set_option pp.maxSteps 3000
set_option pp.deepTerms true
set_option linter.unusedSimpArgs false
set_option maxRecDepth 20000

theorem ofConst_nilp : ofConst (.pointer none) = .sc (.pointer none) := _root_.id rfl
theorem cells_nilp : AV.cells (.sc (.pointer none)) = [.sc (.pointer none)] := _root_.id rfl
theorem isCell_nilp : AV.isCell (.sc (.pointer none)) = true := _root_.id rfl
attribute [go_sem] ofConst_nilp cells_nilp isCell_nilp

theorem left_p (n : Int) (cs : List (List Int)) (k : Nat) (hk : k ≤ cs.length) (s : AV) (m : Nat) (h : Heap) (nx : Nat) (hm : h m = some ⟨4, [[.int n, intss cs, .int k, s]]⟩) :
    CallsQ Tryz.prog 84 [.ptr m 1 0 0] h nx (intss (cs.take k)) := by
  refine in84 ?_
  simp [go_sem, Tryz.f84, hm, intss, hk]
theorem right_p (n : Int) (cs : List (List Int)) (k : Nat) (hk : k ≤ cs.length) (s : AV) (m : Nat) (h : Heap) (nx : Nat) (hm : h m = some ⟨4, [[.int n, intss cs, .int k, s]]⟩) :
    CallsQ Tryz.prog 76 [.ptr m 1 0 0] h nx (intss (cs.drop k)) := by
  refine in76 ?_
  simp [go_sem, Tryz.f76, hm, intss, hk]
theorem left_i (n : Int) (cs : List (List Int)) (k : Nat) (hk : k ≤ cs.length) (s : AV) (h : Heap) (nx : Nat) :
    CallsQ Tryz.prog 84 [.iptr [.int n, intss cs, .int k, s]] h nx (intss (cs.take k)) := by
  refine in84 ?_
  simp [go_sem, Tryz.f84, intss, hk]
theorem right_i (n : Int) (cs : List (List Int)) (k : Nat) (hk : k ≤ cs.length) (s : AV) (h : Heap) (nx : Nat) :
    CallsQ Tryz.prog 76 [.iptr [.int n, intss cs, .int k, s]] h nx (intss (cs.drop k)) := by
  refine in76 ?_
  simp [go_sem, Tryz.f76, intss, hk]

def sharedM (cs : List (List Int)) (k : Nat) : List Int := (varsM (cs.take k)).filter fun v => hasB (varsM (cs.drop k)) v
theorem good_clauses {n : Int} {cs : List (List Int)} (h : goodB n cs = true) : cs.length ≤ 60 ∧ ∀ c ∈ cs, clauseB n c = true := by
  rw [goodB_all] at h
  simp only [Bool.and_eq_true, decide_eq_true_eq, List.all_eq_true] at h
  exact ⟨h.1.2, h.2⟩
theorem absAll_good {n : Int} : ∀ {cs : List (List Int)}, (∀ c ∈ cs, clauseB n c = true) → (absAll cs).length ≤ 12 * cs.length
  | [], _ => by simp [absAll]
  | c :: cs, h => by
    have h1 := clause_length (h c (List.mem_cons_self ..))
    have h2 := absAll_good (cs := cs) fun d hd => h d (List.mem_cons_of_mem _ hd)
    simp only [absAll, List.flatMap_cons, List.length_append, List.length_map, List.length_cons] at h2 ⊢
    omega
theorem varsM_length (cs : List (List Int)) : (varsM cs).length ≤ (absAll cs).length := by
  have := compactI_length (sortI (absAll cs)) (sortI (absAll cs)).length
  simpa [varsM, sortI] using this
theorem OkC.take {n : Int} {cs : List (List Int)} (ok : OkC n cs) (k : Nat) : ∀ c ∈ cs.take k, InRs c ∧ Len c := fun c hc => ok.cl c (List.mem_of_mem_take hc)
theorem OkC.drop {n : Int} {cs : List (List Int)} (ok : OkC n cs) (k : Nat) : ∀ c ∈ cs.drop k, InRs c ∧ Len c := fun c hc => ok.cl c (List.mem_of_mem_drop hc)

def splitA (n : Int) (cs : List (List Int)) (k : Nat) : AV := .iptr [.int n, intss cs, .int k, ints (sharedM cs k)]
theorem view_split {h : Heap} {m : Nat} {n : Int} {cs : List (List Int)} {k : Nat} {s : AV} (hm : h m = some ⟨4, [[.int n, intss cs, .int k, s]]⟩) (hs : view 1 h s = ints (sharedM cs k)) :
    view 2 h (.tup [.ptr m 1 0 0, .bool true]) = .tup [splitA n cs k, .bool true] := by
  have h1 : ∀ x : Int, view 1 h (.int x) = .int x := fun _ => rfl
  have h2 : view 1 h (intss cs) = intss cs := rfl
  show AV.tup [vw h (view 1 h) (.ptr m 1 0 0), vw h (view 1 h) (.bool true)] = _
  simp only [vw, hm, List.length_cons, List.length_nil, Nat.zero_add, if_true, List.getElem?_cons_zero, List.drop_zero, List.map_cons, List.map_nil, h1, h2, hs]
  rfl
theorem splitOf_q (n : Int) (cs : List (List Int)) (k : Int) (ok : OkC n cs) (h : Heap) (nx : Nat) :
    CallsQ Tryz.prog 74 [cnfA n cs, .int k] h nx (if goodB n cs && inB k 0 cs.length then .tup [splitA n cs k.toNat, .bool true] else .tup [.sc (.pointer none), .bool false]) := by
  refine CallsQ.of_pure 2 (by simp [go_sem, cnfA]) (in74 ?_) h nx
  simp [go_sem, Tryz.f74, cnfA]
  refine (IsCnf_q n cs ok _ _).call ?_
  cases h1 : goodB n cs
  · simp [go_sem, view, vw, vwL]
  simp [go_sem, intss]
  refine (within_q _ _ _ _ _).call ?_
  cases h2 : inB k 0 cs.length
  · simp [go_sem, view, vw, vwL]
  have hk : 0 ≤ k ∧ k ≤ cs.length := by simpa [inB] using h2
  obtain ⟨kn, rfl⟩ : ∃ m : Nat, k = m := ⟨k.toNat, by omega⟩
  have hkn : kn ≤ cs.length := by omega
  have hgc := good_clauses h1
  have hbt : (absAll (cs.take kn)).length ≤ 12 * (cs.take kn).length := absAll_good fun c hc => hgc.2 c (List.mem_of_mem_take hc)
  have hbd : (absAll (cs.drop kn)).length ≤ 12 * (cs.drop kn).length := absAll_good fun c hc => hgc.2 c (List.mem_of_mem_drop hc)
  rw [List.length_take] at hbt
  rw [List.length_drop] at hbd
  have hvt := varsM_length (cs.take kn)
  have hvd := varsM_length (cs.drop kn)
  simp [go_sem]
  refine (right_p n cs kn hkn .nils 1 _ _ (by simp [go_sem, intss])).call ?_
  simp [go_sem]
  refine (varsOf_q (cs.drop kn) (by rw [List.length_drop]; omega) (by omega) (OkC.drop ok kn) _ _).call ?_
  simp [go_sem]
  refine (left_p n cs kn hkn .nils 1 _ _ (by simp [go_sem, intss])).call ?_
  simp [go_sem]
  refine (varsOf_f (cs.take kn) (by rw [List.length_take]; omega) (by omega) (OkC.take ok kn) _ _).call ?_
  simp [go_sem]
  refine DeleteFunc_a (varsM (cs.take kn)) _ [.ptr 2 1 0 0] [.iptr [ints (varsM (cs.drop kn))]] (fun v => !hasB (varsM (cs.drop kn)) v) (by unfold Len; omega) 3 _ _ (by simp [go_sem]) (fun es => by simp [upd, Hp_cons, view, vw, pure_ints]) (fun x hx => splitOf1_q _ x (by unfold Len; omega) _ _) (by simp [go_sem]) _ fun ys hy1 hy2 => ?_
  have hf : ((varsM (cs.take kn)).filter fun x => !(fun v => !hasB (varsM (cs.drop kn)) v) x) = sharedM cs kn := by simp [sharedM]
  rw [hf] at hy2 ⊢
  simp [go_sem]
  refine view_split (m := 1) (n := n) (cs := cs) (k := kn) (s := .sl 3 (varsM (cs.take kn)).length 0 (sharedM cs kn).length) (by simp [go_sem, intss]) ?_
  rw [view_ints_take 0 (k := 1) (xs := ys) (by simp [go_sem]) (by omega), hy2]
end Go.Proofs.YtogdmmccbeipkaaGreat.A
namespace Go.Proofs.YtogdmmccbeipkaaGreat.A
open Go Go.Abs Go.Shelf
set_option pp.maxSteps 3000
set_option pp.deepTerms true
set_option linter.unusedSimpArgs false
set_option maxRecDepth 20000

theorem alloc_op (e : Nat → AV) (h : Heap) (nx N : Nat) (b : Blk) : AS.alloc ⟨e, h, nx, N⟩ b = ⟨e, upd h nx (some b), nx + 1, N⟩ := _root_.id rfl
theorem hput_op (e : Nat → AV) (h : Heap) (nx N n : Nat) (b : Blk) : AS.hput ⟨e, h, nx, N⟩ n b = ⟨e, upd h n (some b), nx, N⟩ := _root_.id rfl
theorem upd_ne {h : Heap} {n m : Nat} {b : Option Blk} (e : m ≠ n) : upd h n b m = h m := by simp [upd, e]

theorem upd_same' {h : Heap} {n : Nat} {b : Option Blk} : upd h n b n = b := by simp [upd]
theorem signFree_q (n : Int) (cs : List (List Int)) (k : Nat) (cl : List (List Int)) (sg : Int) (hs : ∀ v ∈ sharedM cs k, InR (sg * v)) (hsl : (sharedM cs k).length ≤ 1000) (hl : cl.length ≤ 1099511627776) (hc : ∀ c ∈ cl, Len c) (h : Heap) (nx : Nat) :
    CallsQ Tryz.prog 75 [splitA n cs k, intss cl, .int sg] h nx (.bool (!(sharedM cs k).any fun v => occursB cl (sg * v))) := by
  refine CallsQ.of_pure 1 (by simp [go_sem, splitA]) (in75 ?_) h nx
  simp [go_sem, Tryz.f75, splitA, ints]
  refine ⟨{i : Nat // i ≤ (sharedM cs k).length ∧ ((sharedM cs k).take i).any (fun v => occursB cl (sg * v)) = false}, fun i => ⟨E [(0, splitA n cs k), (1, intss cl), (2, .int sg), (6, .bool false), (12, ints (sharedM cs k)), (13, .int (sharedM cs k).length), (14, .int i.1)], Hp [], 0, 24⟩, fun i => (sharedM cs k).length - i.1, ⟨0, by simp⟩, Leads.E (by simp [E_cons, E_nil, ints, splitA]) rfl rfl, ?_⟩
  rintro ⟨i, hi, hok⟩
  by_cases hlt : i < (sharedM cs k).length
  · have hR := hs _ (List.getElem_mem hlt)
    simp [go_sem, ints, splitA, hlt, hR]
    refine (occurs_q cl _ hl hc _ _).call ?_
    cases h1 : occursB cl (sg * (sharedM cs k)[i])
    · simp [go_sem]
      exact ⟨inR_of (by omega) (by omega), ⟨i + 1, by omega, any_next hok hlt h1⟩, by simp; omega, Leads.E (by simp [E_cons, E_nil, ints, splitA]) rfl rfl⟩
    · have hr : ((sharedM cs k).any fun v => occursB cl (sg * v)) = true := any_found hlt h1
      simp only [hr]
      simp [go_sem, view, vw]
  · have hr : ((sharedM cs k).any fun v => occursB cl (sg * v)) = false := any_done hok hlt
    simp only [hr]
    simp [go_sem, ints, splitA, hlt, view, vw]

theorem put_a (m g : Nat) (sp a : AV) (es : List Cells) (t : Nat) (kd x y : Int) (h : Heap) (nx : Nat) (hm : h m = some ⟨3, [[sp, .sl g t 0 t, a]]⟩) (hg : h g = some ⟨3, es⟩) (ht : es.length = t) (hmg : g ≠ m) (hr : t < 1000000) (K : AV → Heap → Nat → Prop)
    (hk : K (.int t) (upd (upd h g (some ⟨3, es ++ [[.int kd, .int x, .int y]]⟩)) m (some ⟨3, [[sp, .sl g (t + 1) 0 (t + 1), a]]⟩)) nx) :
    CallsA Tryz.prog 82 [.ptr m 1 0 0, .int kd, .int x, .int y] h nx K := by
  have e1 : ∀ b, upd h g b m = h m := fun b => upd_ne (Ne.symm hmg)
  refine in82 ?_
  simp [go_sem, Tryz.f82, hm, hg, ht, hput_op, e1, upd_same]
  exact ⟨by unfold roomy; omega, inR_of (by omega) (by omega), hk⟩
theorem upd_upd2 {h : Heap} {g m : Nat} (e : g ≠ m) (a b c d : Option Blk) : upd (upd (upd (upd h g a) m b) g c) m d = upd (upd h g c) m d := by
  funext x
  simp only [upd]
  by_cases h1 : x = m
  · simp [h1]
  · by_cases h2 : x = g
    · simp [h2, e]
    · simp [h1, h2]

/-- What a rule for axioms puts there: gates that come of the number of gates and of the step. -/
def AxOk (f : FuncId) (n : Int) (cs : List (List Int)) (k : Nat) (ax : Nat → Step' → List G3) (B : Nat) (Ok : Step' → Prop) : Prop :=
  (∀ t s, Ok s → 0 < (ax t s).length ∧ (ax t s).length ≤ B) ∧
  ∀ (m g : Nat) (a : AV) (s : Step') (es : List Cells) (t : Nat) (h : Heap) (nx : Nat) (K : AV → Heap → Nat → Prop), Ok s → h m = some ⟨3, [[splitA n cs k, .sl g t 0 t, a]]⟩ → h g = some ⟨3, es⟩ → es.length = t → g ≠ m → t < 100000 → m < nx → g < nx →
    (∀ h' nx', nx ≤ nx' → (∀ x, x < nx → h' x = upd (upd h g (some ⟨3, es ++ (ax t s).map gcell⟩)) m (some ⟨3, [[splitA n cs k, .sl g (t + (ax t s).length) 0 (t + (ax t s).length), a]]⟩) x) → K (.int ((t + (ax t s).length : Nat) - 1)) h' nx') →
    CallsA Tryz.prog f [.ptr m 1 0 0, .agg (stepC s)] h nx K
/-- What a rule for resolvents on shared variables puts there. -/
def ShOk (f : FuncId) (sh : Nat → Int → Int → Int → List G3) : Prop :=
  (∀ t v x y, 0 < (sh t v x y).length ∧ (sh t v x y).length ≤ 5) ∧
  ∀ (m g : Nat) (sp a : AV) (v x y : Int) (es : List Cells) (t : Nat) (h : Heap) (nx : Nat) (K : AV → Heap → Nat → Prop), h m = some ⟨3, [[sp, .sl g t 0 t, a]]⟩ → h g = some ⟨3, es⟩ → es.length = t → g ≠ m → t < 100000 →
    K (.int ((t + (sh t v x y).length : Nat) - 1)) (upd (upd h g (some ⟨3, es ++ (sh t v x y).map gcell⟩)) m (some ⟨3, [[sp, .sl g (t + (sh t v x y).length) 0 (t + (sh t v x y).length), a]]⟩)) nx →
    CallsA Tryz.prog f [.ptr m 1 0 0, .int v, .int x, .int y] h nx K
def axM (k : Nat) (_t : Nat) (s : Step') : List G3 := [(if s.r < k then 3 else 2, 0, 0)]
theorem axiom_ok (n : Int) (cs : List (List Int)) (k : Nat) : AxOk 80 n cs k (axM k) 1 (fun _ => True) := by
  refine ⟨fun t s _ => by simp [axM], fun m g a s es t h nx K _ hm hg ht hmg hr hmx hgx hk => ?_⟩
  have e1 : ∀ b, upd h nx b m = h m := fun b => upd_ne (by omega)
  have e2 : ∀ b, upd h nx b g = h g := fun b => upd_ne (by omega)
  refine in80 ?_
  simp [go_sem, Tryz.f80, alloc_op, hm, hg, ht, stepC, splitA, e1, e2, upd_same]
  have hk' := fun kd (e : kd = (if s.r < k then (3 : Int) else 2)) => hk (upd (upd (upd h nx (some ⟨4, [stepC s]⟩)) g (some ⟨3, es ++ [[.int kd, .int 0, .int 0]]⟩)) m (some ⟨3, [[splitA n cs k, .sl g (t + 1) 0 (t + 1), a]]⟩)) (nx + 1) (by omega) (fun x hx => by
    have hne : x ≠ nx := by omega
    subst e
    simp [upd, hne, axM, gcell])
  have e3 : ((t + (axM k t s).length : Nat) : Int) - 1 = t := by simp [axM]
  rw [e3] at hk'
  by_cases h1 : s.r < k
  · simp [go_sem, h1]
    refine put_a m g _ a es t 3 0 0 _ _ ((e1 _).trans hm) ((e2 _).trans hg) ht hmg (by omega) _ ?_
    simp [go_sem]
    exact hk' 3 (by rw [if_pos h1])
  · simp [go_sem, h1]
    refine put_a m g _ a es t 2 0 0 _ _ ((e1 _).trans hm) ((e2 _).trans hg) ht hmg (by omega) _ ?_
    simp [go_sem]
    exact hk' 2 (by rw [if_neg h1])
def negSh (t : Nat) (v x y : Int) : List G3 := [(1, v, 0), (5, (t : Int), y), (6, (t : Int) + 1, x)]
def posSh (t : Nat) (v x y : Int) : List G3 := [(1, v, 0), (6, (t : Int), x), (5, (t : Int) + 1, y)]
theorem neg1_ok : ShOk 81 negSh := by
  refine ⟨fun t v x y => by simp [negSh], fun m g sp a v x y es t h nx K hm hg ht hmg hr hk => ?_⟩
  have e1 : ∀ h' : Heap, ∀ a b, upd (upd h' g a) m b g = a := fun h' a b => by simp [upd, hmg]
  refine in81 ?_
  simp [go_sem, Tryz.f81, hm, hg, ht]
  refine put_a m g sp a es t 1 v 0 h nx hm hg ht hmg (by omega) _ ?_
  simp [go_sem]
  refine put_a m g sp a _ (t + 1) 5 t y _ nx upd_same' (e1 _ _ _) (by simp [ht]) hmg (by omega) _ ?_
  simp [go_sem]
  refine put_a m g sp a _ (t + 1 + 1) 6 _ x _ nx upd_same' (e1 _ _ _) (by simp [ht]) hmg (by omega) _ ?_
  simp [go_sem, upd_upd2 hmg]
  have e3 : ((t + (negSh t v x y).length : Nat) : Int) - 1 = t + 1 + 1 := by simp [negSh]; omega
  rw [e3] at hk
  simpa [negSh, gcell] using hk
theorem pos1_ok : ShOk 85 posSh := by
  refine ⟨fun t v x y => by simp [posSh], fun m g sp a v x y es t h nx K hm hg ht hmg hr hk => ?_⟩
  have e1 : ∀ h' : Heap, ∀ a b, upd (upd h' g a) m b g = a := fun h' a b => by simp [upd, hmg]
  refine in85 ?_
  simp [go_sem, Tryz.f85, hm, hg, ht]
  refine put_a m g sp a es t 1 v 0 h nx hm hg ht hmg (by omega) _ ?_
  simp [go_sem]
  refine put_a m g sp a _ (t + 1) 6 t x _ nx upd_same' (e1 _ _ _) (by simp [ht]) hmg (by omega) _ ?_
  simp [go_sem]
  refine put_a m g sp a _ (t + 1 + 1) 5 _ y _ nx upd_same' (e1 _ _ _) (by simp [ht]) hmg (by omega) _ ?_
  simp [go_sem, upd_upd2 hmg]
  have e3 : ((t + (posSh t v x y).length : Nat) : Int) - 1 = t + 1 + 1 := by simp [posSh]; omega
  rw [e3] at hk
  simpa [posSh, gcell] using hk

def sideI (cs : List (List Int)) (k : Nat) (v : Int) : Int := if hasB (varsM (cs.drop k)) v then (if hasB (varsM (cs.take k)) v then 0 else 1) else -1
theorem sideOf_q (m : Nat) (n : Int) (cs : List (List Int)) (k : Nat) (g a : AV) (v : Int) (ok : OkC n cs) (hgood : goodB n cs = true) (hk : k ≤ cs.length) (h : Heap) (nx : Nat) (hm : h m = some ⟨3, [[splitA n cs k, g, a]]⟩) :
    CallsQ Tryz.prog 137 [.ptr m 1 0 0, .int v] h nx (.int (sideI cs k v)) := by
  have hgc := good_clauses hgood
  have hbt : (absAll (cs.take k)).length ≤ 12 * (cs.take k).length := absAll_good fun c hc => hgc.2 c (List.mem_of_mem_take hc)
  have hbd : (absAll (cs.drop k)).length ≤ 12 * (cs.drop k).length := absAll_good fun c hc => hgc.2 c (List.mem_of_mem_drop hc)
  have hvt := varsM_length (cs.take k)
  have hvd := varsM_length (cs.drop k)
  rw [List.length_take] at hbt
  rw [List.length_drop] at hbd
  refine in137 ?_
  simp [go_sem, Tryz.f137, hm, splitA]
  refine (right_i n cs k hk _ _ _).call ?_
  simp [go_sem]
  refine (varsOf_q (cs.drop k) (by rw [List.length_drop]; omega) (by omega) (OkC.drop ok k) _ _).call ?_
  simp [go_sem]
  refine (Contains_q _ v (by unfold Len; omega) _ _).call ?_
  cases h1 : hasB (varsM (cs.drop k)) v
  · simp [go_sem, sideI, h1]
  simp [go_sem, hm, splitA]
  refine (left_i n cs k hk _ _ _).call ?_
  simp [go_sem]
  refine (varsOf_q (cs.take k) (by rw [List.length_take]; omega) (by omega) (OkC.take ok k) _ _).call ?_
  simp [go_sem]
  refine (Contains_q _ v (by unfold Len; omega) _ _).call ?_
  cases h2 : hasB (varsM (cs.take k)) v
  · simp [go_sem, sideI, h1, h2]
  simp [go_sem, sideI, h1, h2]
end Go.Proofs.YtogdmmccbeipkaaGreat.A
