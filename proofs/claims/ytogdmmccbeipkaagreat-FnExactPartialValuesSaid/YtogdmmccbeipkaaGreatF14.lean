/- Contracts: the library's sorts, the comparison of literals. -/
import Derived.Test.YtogdmmccbeipkaaGreatF13
import Derived.Test.YtogdmmccbeipkaaGreatShelfT
import Derived.Test.YtogdmmccbeipkaaGreatAbsSort
set_option linter.all false
namespace Go.Proofs.YtogdmmccbeipkaaGreat.A
open Go Go.Abs Go.Shelf
set_option pp.maxSteps 3000
set_option pp.deepTerms true
set_option linter.unusedSimpArgs false
set_option maxRecDepth 20000

def sortI (xs : List Int) : List Int := xs.mergeSort fun x y => decide (x ≤ y)
theorem Sort_a (xs : List Int) (hl : Len xs) (n : Nat) (h : Heap) (nx : Nat) (hn : h n = some ⟨1, xs.map fun x => [.int x]⟩) (K : AV → Heap → Nat → Prop)
    (hk : K (.tup []) (upd h n (some ⟨1, (sortI xs).map fun x => [.int x]⟩)) nx) : CallsA Tryz.prog 131 [.sl n xs.length 0 xs.length] h nx K := by
  have hl' := hl
  unfold Len at hl'
  refine CallsA.of_sort (xs := xs) (ys := sortI xs) (ex := []) (exv := []) ⟨_, Tryz.func131, rfl, by kernel_rfl⟩ (by simp [sortI]) (fun _ _ _ _ hv => hv) (fun blk cap w hp hH hb => ?_) (fun p cap w => Any.slices_Sort_int_none Tryz.lays189 p cap w) hn hk
  exact Any.slices_Sort_int Tryz.lays189 blk 0 cap xs w hH hb (by omega)

/-- How the program compares literals. -/
def cmpI (x y : Int) : Int := if x < y then -1 else if y < x then 1 else 0
def cmpL (x y : Int) : Int := if cmpI (absI x) (absI y) = 0 then cmpI y x else cmpI (absI x) (absI y)
theorem isNaN_q (x : Int) (h : Heap) (nx : Nat) : CallsQ Tryz.prog 182 [.int x] h nx (.bool false) := by
  refine CallsQ.of_pure 1 rfl (in182 ?_) h nx
  simp [go_sem, Tryz.f182, view, vw]
theorem Compare_q (x y : Int) (h : Heap) (nx : Nat) : CallsQ Tryz.prog 187 [.int x, .int y] h nx (.int (cmpI x y)) := by
  refine CallsQ.of_pure 1 rfl (in187 ?_) h nx
  simp [go_sem, Tryz.f187]
  refine (isNaN_q x _ _).call ?_
  simp [go_sem]
  refine (isNaN_q y _ _).call ?_
  simp [go_sem]
  by_cases h1 : x < y
  · simp [go_sem, h1, view, vw, cmpI]
  · by_cases h2 : y < x
    · simp [go_sem, h1, h2, view, vw, cmpI]
    · simp [go_sem, h1, h2, view, vw, cmpI]
theorem Or_q (x y : Int) (h : Heap) (nx : Nat) : CallsQ Tryz.prog 186 [ints [x, y]] h nx (.int (if x = 0 then y else x)) := by
  refine CallsQ.of_pure 1 (by simp [go_sem]) (in186 ?_) h nx
  simp [go_sem, Tryz.f186, ints]
  refine ⟨{i : Nat // i ≤ 2 ∧ (0 < i → x = 0) ∧ (1 < i → y = 0)}, fun i => ⟨E [(0, ints [x, y]), (2, .int 0), (3, .int 0), (6, ints [x, y]), (7, .int 2), (8, .int i.1)], Hp [], 0, 18⟩, fun i => 2 - i.1, ⟨0, by simp⟩, Leads.E (by simp [E_cons, E_nil, ints]) rfl rfl, ?_⟩
  rintro ⟨i, hi, h1, h2⟩
  match i, hi, h1, h2 with
  | 0, _, _, _ =>
    by_cases hx : x = 0
    · simp [go_sem, ints, hx]
      exact ⟨inR_of (by omega) (by omega), ⟨1, by omega, fun _ => hx, by omega⟩, by simp, Leads.E (by simp [E_cons, E_nil, ints, hx]) rfl rfl⟩
    · simp [go_sem, ints, hx, view, vw]
  | 1, _, h1, _ =>
    have hx := h1 (by omega)
    by_cases hy : y = 0
    · simp [go_sem, ints, hy]
      exact ⟨inR_of (by omega) (by omega), ⟨2, by omega, fun _ => hx, fun _ => hy⟩, by simp, Leads.E (by simp [E_cons, E_nil, ints, hy]) rfl rfl⟩
    · simp [go_sem, ints, hx, hy, view, vw]
  | 2, _, h1, h2 =>
    have hx := h1 (by omega)
    have hy := h2 (by omega)
    simp [go_sem, ints, hx, hy, view, vw]
theorem compareLiterals_q (x y : Int) (hx : InR x) (hy : InR y) (h : Heap) (nx : Nat) : CallsQ Tryz.prog 174 [.int x, .int y] h nx (.int (cmpL x y)) := by
  refine CallsQ.of_pure 1 rfl (in174 ?_) h nx
  simp [go_sem, Tryz.f174]
  refine (abs_q x hx _ _).call ?_
  simp [go_sem]
  refine (abs_q y hy _ _).call ?_
  simp [go_sem]
  refine (Compare_q _ _ _ _).call ?_
  simp [go_sem]
  refine (Compare_q _ _ _ _).call ?_
  simp [go_sem]
  refine (Or_q _ _ _ _).call ?_
  simp [go_sem, view, vw, cmpL]

/-- The order of literals. -/
def leL (x y : Int) : Bool := decide (absI x < absI y ∨ absI x = absI y ∧ y ≤ x)
def sortL (xs : List Int) : List Int := xs.mergeSort leL
theorem ltL_iff (x y : Int) : ltOf cmpL x y = true ↔ absI x < absI y ∨ absI x = absI y ∧ y < x := by
  simp only [ltOf, decide_eq_true_eq, cmpL, cmpI]
  by_cases h1 : absI x < absI y
  · simp [h1]
  · by_cases h2 : absI y < absI x
    · simp [h1, h2]; omega
    · have e : absI x = absI y := by omega
      by_cases h3 : y < x
      · simp [e, h3]
      · by_cases h4 : x < y <;> simp [e, h3, h4]

abbrev LitI := {x : Int // InR x}
instance : Inhabited LitI := ⟨⟨0, inR_of (by omega) (by omega)⟩⟩
def encL (x : LitI) : Value := .int .i64 x.1
def cfL (x y : LitI) : Int := cmpL x.1 y.1
theorem swoL : Go.Sort.SWO (ltOf cfL) where
  irrefl x := by
    have := ltL_iff x.1 x.1
    have h : ltOf cfL x x = ltOf cmpL x.1 x.1 := rfl
    rw [h]
    cases h2 : ltOf cmpL x.1 x.1
    · rfl
    · have := this.1 h2; omega
  trans x y z h1 h2 := by
    have h1' := (ltL_iff x.1 y.1).1 h1
    have h2' := (ltL_iff y.1 z.1).1 h2
    exact (ltL_iff x.1 z.1).2 (by omega)
  ntrans x y z h1 h2 := by
    have h1' : ¬ _ := fun h => by have := (ltL_iff x.1 y.1).2 h; have e : ltOf cfL x y = ltOf cmpL x.1 y.1 := rfl; rw [e, this] at h1; cases h1
    have h2' : ¬ _ := fun h => by have := (ltL_iff y.1 z.1).2 h; have e : ltOf cfL y z = ltOf cmpL y.1 z.1 := rfl; rw [e, this] at h2; cases h2
    cases h3 : ltOf cfL x z
    · rfl
    · have := (ltL_iff x.1 z.1).1 h3; omega
theorem totL (x y : LitI) (h1 : ltOf cfL x y = false) (h2 : ltOf cfL y x = false) : x = y := by
  have h1' : ¬ _ := fun h => by have := (ltL_iff x.1 y.1).2 h; have e : ltOf cfL x y = ltOf cmpL x.1 y.1 := rfl; rw [e, this] at h1; cases h1
  have h2' : ¬ _ := fun h => by have := (ltL_iff y.1 x.1).2 h; have e : ltOf cfL y x = ltOf cmpL y.1 x.1 := rfl; rw [e, this] at h2; cases h2
  apply Subtype.ext
  omega
theorem leL_eq (x y : LitI) : (!ltOf cfL y x) = leL x.1 y.1 := by
  have e : ltOf cfL y x = ltOf cmpL y.1 x.1 := rfl
  have := ltL_iff y.1 x.1
  rw [e]
  cases h : ltOf cmpL y.1 x.1
  · rw [h] at this
    have h2 : ¬ _ := fun h3 => by cases this.2 h3
    simp only [leL, Bool.not_false]
    exact (decide_eq_true (by omega)).symm
  · rw [h] at this
    have h2 := this.1 rfl
    simp only [leL, Bool.not_true]
    exact (decide_eq_false (by omega)).symm

theorem putCells_enc (d : Array LitI) (off : Nat) (c : Array Value) : Sort.putCells encL off d c = Sort.putCells (Value.int .i64) off (d.map (·.1)) c := by
  apply Array.ext_getElem?
  intro k
  simp only [Sort.putCells, Array.getElem?_mapIdx, Array.size_map]
  cases c[k]? with
  | none => rfl
  | some x =>
    simp only [Option.map_some]
    split
    · rename_i hk
      have h1 : k - off < d.size := by omega
      rw [getElem!_pos d _ h1, getElem!_pos (d.map (·.1)) _ (by simpa using h1)]
      simp [encL]
    · rfl

theorem SortFunc_a (xs : List Int) (hl : Len xs) (hR : InRs xs) (n : Nat) (h : Heap) (nx : Nat) (hn : h n = some ⟨1, xs.map fun x => [.int x]⟩) (K : AV → Heap → Nat → Prop)
    (hk : K (.tup []) (upd h n (some ⟨1, (sortL xs).map fun x => [.int x]⟩)) nx) : CallsA Tryz.prog 173 [.sl n xs.length 0 xs.length, .fn (.func 174) [] []] h nx K := by
  have hl' := hl
  unfold Len at hl'
  refine CallsA.of_sort (xs := xs) (ys := sortL xs) (ex := [.fn (.func 174) [] []]) (exv := [.func (.func 174) #[] #[]]) ⟨_, Tryz.func173, rfl, by kernel_rfl⟩ (by simp [sortL]) (fun C h nx vs hv => ?_) (fun blk cap w hp hH hb => ?_) (fun p cap w => ?_) hn hk
  · obtain ⟨v, r, rfl, ⟨us, ws, rfl, h1, h2⟩, h3⟩ := hv
    simp only [Vs] at h1 h2 h3
    subst h1 h2 h3
    rfl
  · let d : Array LitI := (xs.attach.map fun x => (⟨x.1, hR x.1 x.2⟩ : LitI)).toArray
    have hdl : d.size = xs.length := by simp [d]
    have hdm : d.toList.map (·.1) = xs := by simp [d, List.map_map, Function.comp_def]
    have hH' : Sort.Holds encL w blk 0 d := fun j hj => by
      have hj' : j < xs.length := by omega
      obtain ⟨h1, h2⟩ := hH j (by simpa using hj')
      refine ⟨?_, h2⟩
      rw [h1, getElem!_pos d j hj, getElem!_pos xs.toArray j (by simpa using hj')]
      simp [encL, d]
    have hcmp : CmpLays1 Tryz.prog 174 #[] encL cfL blk 0 d.size w := fun m os dk _ x y =>
      CallsQ.cmp (compareLiterals_q x.1 y.1 x.2 y.2 _ _) _
    have eg : ∀ args w, (callFunc 174 args).run Tryz.prog w = .ok (.enter 174 args) w := enters_of Tryz.func174 (by kernel_rfl) rfl
    have hS := Any.slices_SortFunc_total Tryz.laysSlF6 encL (fun _ => rfl) cfL swoL 174 #[] blk 0 cap d w eg hcmp hH' hb (by omega) totL
    rw [hdl] at hS
    refine Calls.mono hS fun e w' ⟨he, n, os, hw⟩ => ⟨he, n, os, ?_⟩
    have e1 : (d.toList.mergeSort fun x y => !ltOf cfL y x).map (·.1) = sortL xs := by
      rw [List.map_mergeSort (s := leL) (fun a _ b _ => leL_eq a b), hdm]; rfl
    rw [hw]
    unfold sortWorld Sort.putRow Sort.mapBlock
    congr 3
    apply congrArg
    funext c
    rw [putCells_enc, ← e1]
    simp
  · exact AnyF.slices_SortFunc_none (P := Tryz.prog) (ρ := Tryz.laysSlF6_ren) { Tryz.laysSlF6 with } p cap (.func (.func 174) #[] #[]) w
end Go.Proofs.YtogdmmccbeipkaaGreat.A
