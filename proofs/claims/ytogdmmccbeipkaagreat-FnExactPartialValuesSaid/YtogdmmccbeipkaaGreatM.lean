/- The plain mathematics of clauses and derivations: no program. -/
import Derived.Test.YtogdmmccbeipkaaGreatAbsShift
import Derived.Test.YtogdmmccbeipkaaGreatAbsSimp
set_option linter.all false
namespace Go.Abs

/-- A step of a derivation. -/
structure Step' where
  cl : List Int
  l : Int
  r : Int
  p : Int
  deriving DecidableEq, Inhabited

def ints (c : List Int) : AV := .lst (c.map fun x => [.int x])
def intss (cs : List (List Int)) : AV := .lst (cs.map fun c => [ints c])
def cnfA (n : Int) (cs : List (List Int)) : AV := .agg [.int n, intss cs]
def stepC (s : Step') : Cells := [ints s.cl, .int s.l, .int s.r, .int s.p]
def stepsA (ss : List Step') : AV := .lst (ss.map stepC)

theorem pure_ints (c : List Int) : (ints c).pure = true := by
  unfold ints AV.pure
  induction c with
  | nil => rfl
  | cons x c ih => simp [AV.pureE, AV.pureL, AV.pure, ih]
theorem pure_intss (cs : List (List Int)) : (intss cs).pure = true := by
  unfold intss AV.pure
  induction cs with
  | nil => rfl
  | cons x c ih => simp [AV.pureE, AV.pureL, pure_ints, ih]
theorem pure_steps (ss : List Step') : (stepsA ss).pure = true := by
  unfold stepsA AV.pure
  induction ss with
  | nil => rfl
  | cons x c ih => simp [AV.pureE, AV.pureL, stepC, pure_ints, AV.pure, ih]

theorem cells_ints (c : List Int) : AV.cells (ints c) = [ints c] := _root_.id rfl
theorem isCell_ints (c : List Int) : AV.isCell (ints c) = true := _root_.id rfl
theorem cells_intss (c : List (List Int)) : AV.cells (intss c) = [intss c] := _root_.id rfl
theorem isCell_intss (c : List (List Int)) : AV.isCell (intss c) = true := _root_.id rfl
theorem cells_stepsA (c : List Step') : AV.cells (stepsA c) = [stepsA c] := _root_.id rfl
theorem isCell_stepsA (c : List Step') : AV.isCell (stepsA c) = true := _root_.id rfl
theorem vw_ints (h : Heap) (s : AV → AV) (c : List Int) : vw h s (ints c) = ints c := _root_.id rfl
attribute [go_sem] vw_ints cells_intss isCell_intss cells_stepsA isCell_stepsA cells_ints isCell_ints pure_ints pure_intss pure_steps AV.pureE AV.pureL AV.pure

def absI (l : Int) : Int := if l < 0 then wneg l else l
def varsB (n : Int) : Bool := decide (0 ≤ n ∧ n ≤ 12)
def inB (a b c : Int) : Bool := decide (b ≤ a ∧ a ≤ c)
def litB (n l : Int) : Bool := decide (l ≠ 0) && inB l (wneg n) n
def clOkAt (n : Int) (c : List Int) (j : Nat) : Bool := litB n (c.getD j 0) && (decide (j = 0) || decide (absI (c.getD (j - 1) 0) < absI (c.getD j 0)))
def clausesB (n : Int) (c : List Int) : Bool := (List.range c.length).all (clOkAt n c)
def clauseB (n : Int) (c : List Int) : Bool := clausesB n c && varsB n

theorem clausesB_bad {n : Int} {c : List Int} {i : Nat} (h1 : i < c.length) (h2 : clOkAt n c i = false) : clausesB n c = false := by
  simp only [clausesB, List.all_eq_false]
  exact ⟨i, by simpa using h1, by simp [h2]⟩
theorem clausesB_good {n : Int} {c : List Int} (h : ∀ j, j < c.length → clOkAt n c j = true) : clausesB n c = true := by
  simp only [clausesB, List.all_eq_true, List.mem_range]
  exact h

theorem inR_small {n : Nat} (h : n ≤ 4611686018427387904) : InR n := by constructor <;> omega
theorem inR_of {n : Int} (h0 : -4611686018427387904 ≤ n) (h : n ≤ 4611686018427387904) : InR n := by constructor <;> omega

/-! Searches. -/
section
variable {α : Type} {c : List α} {p : α → Bool} {i : Nat}
theorem any_next (h : (c.take i).any p = false) (hi : i < c.length) (hp : p c[i] = false) : (c.take (i + 1)).any p = false := by
  rw [List.take_succ_eq_append_getElem hi, List.any_append, h]; simp [hp]
theorem any_found (hi : i < c.length) (hp : p c[i] = true) : c.any p = true := List.any_eq_true.2 ⟨_, List.getElem_mem hi, hp⟩
theorem any_done (h : (c.take i).any p = false) (hi : ¬ i < c.length) : c.any p = false := by rwa [List.take_of_length_le (by omega)] at h
theorem all_next (h : (c.take i).all p = true) (hi : i < c.length) (hp : p c[i] = true) : (c.take (i + 1)).all p = true := by
  rw [List.take_succ_eq_append_getElem hi, List.all_append, h]; simp [hp]
theorem all_bad (hi : i < c.length) (hp : p c[i] = false) : c.all p = false := List.all_eq_false.2 ⟨_, List.getElem_mem hi, by simp [hp]⟩
theorem all_done (h : (c.take i).all p = true) (hi : ¬ i < c.length) : c.all p = true := by rwa [List.take_of_length_le (by omega)] at h
end
def hasB (c : List Int) (l : Int) : Bool := c.any fun x => decide (x = l)
def subB (a b : List Int) : Bool := a.all fun x => hasB b x
def occursB (cs : List (List Int)) (l : Int) : Bool := cs.any fun c => hasB c l
def sameB (a b : List Int) : Bool := decide (a = b)
def withoutV (c : List Int) (v : Int) : List Int := c.filter fun x => !decide (absI x = v)
def goodB (n : Int) (cs : List (List Int)) : Bool := varsB n && decide (cs.length ≤ 60) && cs.all (clausesB n)
def indexI (c : List Int) (v : Int) : Int := match c.findIdx? (fun x => decide (x = v)) with
  | some i => i
  | none => -1
theorem indexI_found {c : List Int} {v : Int} {i : Nat} (h : (c.take i).any (fun x => decide (x = v)) = false) (hi : i < c.length) (hp : c[i] = v) : indexI c v = i := by
  have : c.findIdx? (fun x => decide (x = v)) = some i := by
    rw [List.findIdx?_eq_some_iff_getElem]
    refine ⟨hi, by simp [hp], fun j hj => ?_⟩
    rw [List.any_eq_false] at h
    have hjl : j < (c.take i).length := by rw [List.length_take]; omega
    have := h _ (List.getElem_mem hjl)
    simpa using this
  simp [indexI, this]
theorem indexI_none {c : List Int} {v : Int} (h : c.any (fun x => decide (x = v)) = false) : indexI c v = -1 := by
  have : c.findIdx? (fun x => decide (x = v)) = none := by
    rw [List.findIdx?_eq_none_iff]; rw [List.any_eq_false] at h
    intro x hx; simpa using h x hx
  simp [indexI, this]
theorem hasB_index (c : List Int) (v : Int) : decide (0 ≤ indexI c v) = hasB c v := by
  unfold indexI hasB
  cases h : c.findIdx? (fun x => decide (x = v)) with
  | none => rw [List.findIdx?_eq_none_iff] at h; simp; intro x hx; simpa using h x hx
  | some i =>
    obtain ⟨hi, hp, _⟩ := List.findIdx?_eq_some_iff_getElem.1 h
    have := any_found (p := fun x => decide (x = v)) hi hp
    rw [this]; simp
/-- A clause's length is not beyond a slice's. -/
def Len (c : List Int) : Prop := c.length ≤ 1099511627776
def InRs (c : List Int) : Prop := ∀ x ∈ c, InR x
theorem Len.room {c : List Int} (h : Len c) : roomy c.length := h
structure OkC (n : Int) (cs : List (List Int)) : Prop where
  n : InR n
  len : cs.length ≤ 1099511627776
  cl : ∀ c ∈ cs, InRs c ∧ Len c
structure OkS (ss : List Step') : Prop where
  len : ss.length ≤ 1099511627776
  cl : ∀ s ∈ ss, (InRs s.cl ∧ Len s.cl) ∧ InR s.l ∧ InR s.r ∧ InR s.p

/-- What is left of a clause and then put in place. -/
def putM (c : List Int) (l : Int) : List Int := c.takeWhile (fun x => decide (absI x < absI l)) ++ l :: c.dropWhile (fun x => decide (absI x < absI l))
def joinM : List Int → List Int → Option (List Int)
  | out, [] => some out
  | out, x :: b => if hasB out (wneg x) then none else joinM (if hasB out x then out else putM out x) b
def resolveM (a b : List Int) (v : Int) : Option (List Int) := if hasB a v && hasB b (wneg v) then joinM (withoutV a v) (withoutV b v) else none

def clAt (ss : List Step') (i : Int) : List Int := (ss.getD i.toNat default).cl
def earlierB (n : Int) (ss : List Step') (k : Nat) (i : Int) : Bool := inB i 0 (k - 1) && clauseB n (clAt ss i)
def resB (r : Option (List Int)) (cl : List Int) : Bool := match r with
  | some c => sameB c cl
  | none => false
def stepB (n : Int) (cs : List (List Int)) (ss : List Step') (k : Nat) (s : Step') : Bool :=
  clauseB n s.cl && if s.l = -1 then decide (s.p = 0) && (inB s.r 0 (cs.length - 1) && sameB (cs.getD s.r.toNat []) s.cl)
  else earlierB n ss k s.l && if s.r = -1 then decide (s.p = 0) && subB (clAt ss s.l) s.cl
  else (earlierB n ss k s.r && inB s.p 1 n) && resB (resolveM (clAt ss s.l) (clAt ss s.r) s.p) s.cl
def correctB (n : Int) (cs : List (List Int)) (ss : List Step') (k : Nat) : Bool := stepB n cs ss k (ss.getD k default)

theorem pureE_cells (c : List Int) : AV.pureE (c.map fun x => [.int x]) = true := by
  induction c with
  | nil => rfl
  | cons x c ih => simp [AV.pureE, AV.pureL, AV.pure, ih]
theorem filter_next {α : Type} {p : α → Bool} {c : List α} {i : Nat} (hi : i < c.length) : (c.take (i + 1)).filter p = (c.take i).filter p ++ if p c[i] then [c[i]] else [] := by
  rw [List.take_succ_eq_append_getElem hi, List.filter_append]
  congr 1
  cases h : p c[i] <;> simp [List.filter, h]
theorem without_skip {c : List Int} {v : Int} {i : Nat} (hi : i < c.length) (h : absI c[i] = v) : withoutV (c.take (i + 1)) v = withoutV (c.take i) v := by
  unfold withoutV; rw [filter_next hi]; simp [h]
theorem without_next {c : List Int} {v : Int} {i : Nat} (hi : i < c.length) (h : ¬ absI c[i] = v) : withoutV (c.take (i + 1)) v = withoutV (c.take i) v ++ [c[i]] := by
  unfold withoutV; rw [filter_next hi]; simp [h]
theorem without_le {c : List Int} {v : Int} {i : Nat} : (withoutV (c.take i) v).length ≤ i := by
  have := List.length_filter_le (fun x => !decide (absI x = v)) (c.take i)
  rw [List.length_take] at this
  unfold withoutV; omega
theorem takeWhile_getElem {p : Int → Bool} {c : List Int} {i : Nat} (h : i < (c.takeWhile p).length) : ∃ hi : i < c.length, p c[i] = true := by
  have htw := List.takeWhile_append_dropWhile (p := p) (l := c)
  have hle : (c.takeWhile p).length ≤ c.length := by rw [← congrArg List.length htw, List.length_append]; omega
  refine ⟨by omega, ?_⟩
  have h1 : c[i]? = (c.takeWhile p)[i]? := by
    conv => lhs; rw [← htw]
    rw [List.getElem?_append_left h]
  rw [List.getElem?_eq_getElem (by omega), List.getElem?_eq_getElem h, Option.some.injEq] at h1
  rw [h1]
  exact (List.all_eq_true.1 (List.all_takeWhile (p := p) (l := c))) _ (List.getElem_mem h)
theorem drop_cells (c : List Int) (i : Nat) : ∀ e : Cells, e ∈ List.drop i (c.map fun x => [.int x]) → List.length e = 1 ∧ ∀ x : AV, x ∈ e → x.isCell = true := by
  intro e he
  obtain ⟨x, _, rfl⟩ := List.mem_map.1 (List.mem_of_mem_drop he)
  exact ⟨rfl, by intro y hy; simp at hy; subst hy; rfl⟩
/-- What comes back where there may be no clause: an empty list, then. -/
def joinR : Option (List Int) → AV
  | some c => .tup [ints c, .bool true]
  | none => .tup [ints [], .bool false]
theorem putM_length (c : List Int) (l : Int) : (putM c l).length = c.length + 1 := by
  have := congrArg List.length (List.takeWhile_append_dropWhile (p := fun x => decide (absI x < absI l)) (l := c))
  rw [List.length_append] at this
  simp only [putM, List.length_append, List.length_cons]; omega
theorem mem_putM {c : List Int} {l x : Int} : x ∈ putM c l ↔ x ∈ c ∨ x = l := by
  have : x ∈ c ↔ x ∈ c.takeWhile (fun x => decide (absI x < absI l)) ∨ x ∈ c.dropWhile (fun x => decide (absI x < absI l)) := by
    rw [← List.mem_append, List.takeWhile_append_dropWhile]
  simp only [putM, List.mem_append, List.mem_cons, this]
  constructor
  · rintro (h | h | h)
    · exact .inl (.inl h)
    · exact .inr h
    · exact .inl (.inr h)
  · rintro ((h | h) | h)
    · exact .inl h
    · exact .inr (.inr h)
    · exact .inr (.inl h)
theorem putM_inRs {c : List Int} {l : Int} (hc : InRs c) (hl : InR l) : InRs (putM c l) := fun x hx => by
  rcases mem_putM.1 hx with h | h
  · exact hc x h
  · rw [h]; exact hl
theorem without_length (c : List Int) (v : Int) : (withoutV c v).length ≤ c.length := List.length_filter_le _ _
theorem without_inRs {c : List Int} {v : Int} (hc : InRs c) : InRs (withoutV c v) := fun x hx => hc x (List.mem_filter.1 hx).1
theorem goodB_all (n : Int) (cs : List (List Int)) : goodB n cs = (varsB n && decide (cs.length ≤ 60) && cs.all (clauseB n)) := by
  unfold goodB
  cases h : varsB n
  · simp
  · have : clauseB n = clausesB n := by funext c; simp [clauseB, h]
    rw [this]
theorem good_le {n : Int} {cs : List (List Int)} (h : varsB n = true) (ha : cs.all (clauseB n) = true) : goodB n cs = decide ((cs.length : Int) ≤ 60) := by
  rw [goodB_all, h, ha]; simp; omega
theorem varsB_iff {n : Int} : varsB n = true ↔ 0 ≤ n ∧ n ≤ 12 := by simp [varsB]
theorem litB_iff {n l : Int} (hn : 0 ≤ n ∧ n ≤ 12) : litB n l = true ↔ 1 ≤ absI l ∧ absI l ≤ n := by
  have hw : wneg n = -n := by unfold wneg; split <;> omega
  have hl : absI l = if l < 0 then wneg l else l := rfl
  simp only [litB, inB, hw, Bool.and_eq_true, decide_eq_true_eq]
  unfold wneg at hl
  constructor
  · rintro ⟨h1, h2, h3⟩
    rw [hl]; split <;> (try split) <;> omega
  · rintro ⟨h1, h2⟩
    rw [hl] at h1 h2
    split at h1 <;> (try split at h1) <;> split at h2 <;> (try split at h2) <;> (refine ⟨?_, ?_, ?_⟩ <;> omega)
theorem clause_at {n : Int} {c : List Int} (h : clausesB n c = true) (hn : 0 ≤ n ∧ n ≤ 12) : ∀ j, j < c.length → (j : Int) + 1 ≤ absI (c.getD j 0) ∧ absI (c.getD j 0) ≤ n := by
  have hall : ∀ j, j < c.length → clOkAt n c j = true := by simpa [clausesB] using h
  intro j
  induction j with
  | zero =>
    intro hj
    have h0 := hall 0 hj
    simp only [clOkAt, Bool.and_eq_true] at h0
    have := (litB_iff hn).1 h0.1
    exact ⟨by simpa using this.1, this.2⟩
  | succ j ih =>
    intro hj
    have h0 := hall (j + 1) hj
    have h1 := ih (by omega)
    simp only [clOkAt, Bool.and_eq_true, Bool.or_eq_true, decide_eq_true_eq, Nat.add_sub_cancel] at h0
    have := (litB_iff hn).1 h0.1
    refine ⟨?_, this.2⟩
    rcases h0.2 with h2 | h2
    · omega
    · have := h1.1; omega
theorem clause_length {n : Int} {c : List Int} (h : clauseB n c = true) : c.length ≤ 12 := by
  simp only [clauseB, Bool.and_eq_true] at h
  have hn := varsB_iff.1 h.2
  rcases Nat.eq_zero_or_pos c.length with h0 | h0
  · omega
  · have := clause_at h.1 hn (c.length - 1) (by omega)
    omega
theorem joinM_length : ∀ (b a c : List Int), joinM a b = some c → c.length ≤ a.length + b.length
  | [], a, c, h => by simp only [joinM, Option.some.injEq] at h; subst h; simp
  | x :: b, a, c, h => by
    simp only [joinM] at h
    split at h
    · cases h
    · have := joinM_length b _ c h
      split at this
      · simp only [List.length_cons]; omega
      · rw [putM_length] at this; simp only [List.length_cons]; omega
theorem resolve_length {a b c : List Int} {v : Int} (h : resolveM a b v = some c) : c.length ≤ a.length + b.length := by
  unfold resolveM at h
  split at h
  · have := joinM_length _ _ _ h
    have := without_length a v
    have := without_length b v
    omega
  · cases h
def wrongI (n : Int) (cs : List (List Int)) (ss : List Step') : Int := match (List.range ss.length).find? fun k => !correctB n cs ss k with
  | some k => k
  | none => -1
theorem wrongI_found {n : Int} {cs : List (List Int)} {ss : List Step'} {i : Nat} (h : ∀ j, j < i → correctB n cs ss j = true) (hi : i < ss.length) (hb : correctB n cs ss i = false) : wrongI n cs ss = i := by
  have : (List.range ss.length).find? (fun k => !correctB n cs ss k) = some i := by
    rw [List.find?_range_eq_some]
    exact ⟨by simp [hb], by simpa using hi, fun j hj => by simp [h j hj]⟩
  simp [wrongI, this]
theorem wrongI_none {n : Int} {cs : List (List Int)} {ss : List Step'} (h : ∀ j, j < ss.length → correctB n cs ss j = true) : wrongI n cs ss = -1 := by
  have : (List.range ss.length).find? (fun k => !correctB n cs ss k) = none := by
    rw [List.find?_eq_none]; intro x hx; simp [h x (by simpa using hx)]
  simp [wrongI, this]
def derivB (n : Int) (cs : List (List Int)) (ss : List Step') : Bool := decide (ss.length ≤ 200) && goodB n cs && decide (wrongI n cs ss < 0)
def refutB (n : Int) (cs : List (List Int)) (ss : List Step') : Bool := derivB n cs ss && decide (0 < ss.length) && decide ((clAt ss (ss.length - 1)).length = 0)
def leftB (cs : List (List Int)) (k : Nat) (v : Int) : Bool := occursB (cs.take k) v || occursB (cs.take k) (wneg v)
def rightB (cs : List (List Int)) (k : Nat) (v : Int) : Bool := occursB (cs.drop k) v || occursB (cs.drop k) (wneg v)
theorem intss_take (c : List (List Int)) (i : Nat) : AV.lst (List.take i (c.map fun x => [ints x])) = intss (c.take i) := by simp [intss, List.map_take]
theorem intss_drop (c : List (List Int)) (i : Nat) : AV.lst (List.drop i (c.map fun x => [ints x])) = intss (c.drop i) := by simp [intss, List.map_drop]
def upTo (i : Nat) : List Int := (List.range i).map fun j : Nat => (j : Int) + 1
theorem upTo_next (i : Nat) : upTo (i + 1) = upTo i ++ [(i : Int) + 1] := by simp [upTo, List.range_succ]
def sideM (p : Int → Bool) (i : Nat) : List Int := (upTo i).filter p
theorem side_next (p : Int → Bool) (i : Nat) : sideM p (i + 1) = sideM p i ++ if p ((i : Int) + 1) then [(i : Int) + 1] else [] := by
  unfold sideM
  rw [upTo_next, List.filter_append]
  congr 1
  cases h : p ((i : Int) + 1) <;> simp [List.filter, h]
theorem side_length (p : Int → Bool) (i : Nat) : (sideM p i).length ≤ i := by
  have := List.length_filter_le p (upTo i)
  simpa [sideM, upTo] using this
def bothP (cs : List (List Int)) (k : Nat) (v : Int) : Bool := leftB cs k v && rightB cs k v
def leftP (cs : List (List Int)) (k : Nat) (v : Int) : Bool := leftB cs k v && !rightB cs k v
def rightP (cs : List (List Int)) (k : Nat) (v : Int) : Bool := !leftB cs k v && rightB cs k v
def bothM (n : Int) (cs : List (List Int)) (k : Nat) : List Int := sideM (bothP cs k) n.toNat
def signP (both : List Int) (pos : Bool) (l : Int) : Bool := (decide (0 < l) == pos) && hasB both (absI l)
def signC (both : List Int) (pos : Bool) (c : List Int) : Bool := c.any (signP both pos)
def signB (cs : List (List Int)) (both : List Int) (pos : Bool) : Bool := cs.any (signC both pos)
abbrev G3 := Int × Int × Int
def gcell (g : G3) : Cells := [.int g.1, .int g.2.1, .int g.2.2]
def gatesA (gs : List G3) : AV := .lst (gs.map gcell)
def atI (at' : List Int) (i : Int) : Int := at'.getD i.toNat 0
def gateM (cs : List (List Int)) (k : Int) (kn : Nat) (pos : Bool) (s : Step') (g : List G3) (a : List Int) : List G3 × List Int :=
  if s.l < 0 then (g ++ [(if s.r < k then 3 else 2, 0, 0)], a ++ [(g.length : Int)])
  else if s.r < 0 then (g, a ++ [atI a s.l])
  else if rightB cs kn s.p = false then (g ++ [(6, atI a s.l, atI a s.r)], a ++ [(g.length : Int)])
  else if leftB cs kn s.p = false then (g ++ [(5, atI a s.l, atI a s.r)], a ++ [(g.length : Int)])
  else if pos then (g ++ [(1, s.p, 0), (6, (g.length : Int), atI a s.l), (5, (g.length : Int) + 1, atI a s.r)], a ++ [(g.length : Int) + 1 + 1])
  else (g ++ [(1, s.p, 0), (5, (g.length : Int), atI a s.r), (6, (g.length : Int) + 1, atI a s.l)], a ++ [(g.length : Int) + 1 + 1])
def gatesM (cs : List (List Int)) (kn : Nat) (pos : Bool) : List Step' → List G3 × List Int → List G3 × List Int
  | [], st => st
  | s :: r, st => if st.1.length > 200 then st else gatesM cs kn pos r (gateM cs kn kn pos s st.1 st.2)
theorem deriv_all {n : Int} {cs : List (List Int)} {ss : List Step'} (h : derivB n cs ss = true) : ∀ j, j < ss.length → correctB n cs ss j = true := by
  simp only [derivB, Bool.and_eq_true, decide_eq_true_eq] at h
  intro j hj
  have h2 := h.2
  unfold wrongI at h2
  split at h2
  · omega
  · rename_i hn
    rw [List.find?_eq_none] at hn
    simpa using hn j (by simpa using hj)
theorem correct_idx {n : Int} {cs : List (List Int)} {ss : List Step'} {i : Nat} {s : Step'} (hi : i < ss.length) (hs : ss[i] = s) (h : correctB n cs ss i = true) :
    s.l = -1 ∨ (0 ≤ s.l ∧ s.l < i) ∧ (s.r = -1 ∨ 0 ≤ s.r ∧ s.r < i) := by
  unfold correctB at h
  rw [List.getD_eq_getElem?_getD, List.getElem?_eq_getElem hi, Option.getD_some, hs] at h
  simp only [stepB, Bool.and_eq_true] at h
  by_cases h1 : s.l = -1
  · exact .inl h1
  · right
    rw [if_neg h1] at h
    have h2 := h.2
    simp only [Bool.and_eq_true, earlierB, inB, decide_eq_true_eq] at h2
    refine ⟨by omega, ?_⟩
    by_cases h3 : s.r = -1
    · exact .inl h3
    · right
      rw [if_neg h3] at h2
      have h4 := h2.2
      simp only [Bool.and_eq_true, decide_eq_true_eq] at h4
      omega
theorem gates_end {cs : List (List Int)} {kn : Nat} {pos : Bool} {l : List Step'} {st : List G3 × List Int} (h : 200 < st.1.length) : gatesM cs kn pos l st = st := by
  cases l with
  | nil => rfl
  | cons s r => simp only [gatesM]; rw [if_pos (by omega)]
theorem view_gates (d : Nat) {h : Heap} {n k L : Nat} {xs : List G3} (hn : h n = some ⟨k, xs.map gcell⟩) (hL : L = xs.length) : view (d + 1) h (.sl n L 0 L) = gatesA xs := by
  subst hL
  have : ∀ x : Int, view d h (.int x) = .int x := fun x => by cases d <;> rfl
  simp only [view, vw, hn, List.length_map, if_true, List.drop_zero]
  rw [List.take_of_length_le (by simp)]
  simp [gatesA, gcell, Function.comp_def, this]
theorem view_gates_take (d : Nat) {h : Heap} {n k L m : Nat} {xs : List G3} (hn : h n = some ⟨k, xs.map gcell⟩) (hL : L = xs.length) : view (d + 1) h (.sl n L 0 m) = gatesA (xs.take m) := by
  subst hL
  have : ∀ x : Int, view d h (.int x) = .int x := fun x => by cases d <;> rfl
  have e : (xs.map gcell).map (fun e => e.map (view d h)) = xs.map gcell := by simp [gcell, Function.comp_def, this]
  simp only [view, vw, hn, List.length_map, if_true, List.drop_zero, gatesA, List.map_take]
  rw [e]
theorem pure_gates (g : List G3) : (gatesA g).pure = true := by
  unfold gatesA AV.pure
  induction g with
  | nil => rfl
  | cons x c ih => simp [AV.pureE, AV.pureL, AV.pure, gcell, ih]
def giveA : Option (List G3) → AV
  | some g => .tup [gatesA g, .bool true]
  | none => .tup [gatesA [], .bool false]
def takeG (st : List G3 × List Int) : List G3 := if st.1.length > 200 then st.1 else st.1.take (atI st.2 (st.2.length - 1) + 1).toNat
def negM (n : Int) (cs : List (List Int)) (k : Int) (ss : List Step') : Option (List G3) :=
  if goodB n cs && inB k 0 cs.length && !signB (cs.drop k.toNat) (bothM n cs k.toNat) true && refutB n cs ss then
    (if (takeG (gatesM cs k.toNat false ss ([], []))).length > 200 then none else some (takeG (gatesM cs k.toNat false ss ([], []))))
  else none
def indexP {α : Type} (c : List α) (p : α → Bool) : Int := match c.findIdx? p with
  | some i => i
  | none => -1
theorem indexP_found {α : Type} {c : List α} {p : α → Bool} {i : Nat} (h : (c.take i).any p = false) (hi : i < c.length) (hp : p c[i] = true) : indexP c p = i := by
  have : c.findIdx? p = some i := by
    rw [List.findIdx?_eq_some_iff_getElem]
    refine ⟨hi, hp, fun j hj => ?_⟩
    rw [List.any_eq_false] at h
    have hjl : j < (c.take i).length := by rw [List.length_take]; omega
    have := h _ (List.getElem_mem hjl)
    simpa using this
  simp [indexP, this]
theorem indexP_none {α : Type} {c : List α} {p : α → Bool} (h : c.any p = false) : indexP c p = -1 := by
  have : c.findIdx? p = none := by
    rw [List.findIdx?_eq_none_iff]; rw [List.any_eq_false] at h
    intro x hx; simpa using h x hx
  simp [indexP, this]
theorem indexP_some {α : Type} {c : List α} {p : α → Bool} (h : ¬ indexP c p = -1) : ∃ i, ∃ hi : i < c.length, (indexP c p = i ∧ p c[i] = true) ∧ (c.take i).any p = false := by
  unfold indexP at h ⊢
  cases h2 : c.findIdx? p with
  | none => rw [h2] at h; exact absurd rfl h
  | some i =>
    obtain ⟨hi, hp, hb⟩ := List.findIdx?_eq_some_iff_getElem.1 h2
    refine ⟨i, hi, ⟨rfl, hp⟩, ?_⟩
    rw [List.any_eq_false]
    intro x hx
    obtain ⟨j, hj, rfl⟩ := List.getElem_of_mem hx
    rw [List.length_take] at hj
    have := hb j (by omega)
    simpa using this
theorem any_indexP {α : Type} (c : List α) (p : α → Bool) : decide (0 ≤ indexP c p) = c.any p := by
  cases h : c.any p with
  | false => rw [indexP_none h]; rfl
  | true =>
    unfold indexP
    cases h2 : c.findIdx? p with
    | none =>
      rw [List.findIdx?_eq_none_iff] at h2
      obtain ⟨x, hx, hp⟩ := List.any_eq_true.1 h
      rw [h2 x hx] at hp; cases hp
    | some i => simp
theorem ints_take (c : List Int) (i : Nat) : AV.lst (List.take i (c.map fun x => [AV.int x])) = ints (c.take i) := by simp [ints, List.map_take]
theorem ints_drop (c : List Int) (i : Nat) : AV.lst (List.drop i (c.map fun x => [AV.int x])) = ints (c.drop i) := by simp [ints, List.map_drop]
theorem view_ints (d : Nat) {h : Heap} {n k L : Nat} {xs : List Int} (hn : h n = some ⟨k, xs.map fun x => [.int x]⟩) (hL : L = xs.length) : view (d + 1) h (.sl n L 0 L) = ints xs := by
  subst hL
  have : ∀ x : Int, view d h (.int x) = .int x := fun x => by cases d <;> rfl
  simp only [view, vw, hn, List.length_map, if_true, List.drop_zero]
  rw [List.take_of_length_le (by simp)]
  simp [ints, Function.comp_def, this]

theorem takeWhile_next {p : Int → Bool} {c : List Int} {k : Nat} (h : c.take k = (c.takeWhile p).take k) (hk : k < c.length) (hp : p c[k] = true) (hle : k ≤ (c.takeWhile p).length) : k + 1 ≤ (c.takeWhile p).length := by
  rcases Nat.lt_or_ge k (c.takeWhile p).length with hlt | hge
  · exact hlt
  · exfalso
    have hlen : (c.takeWhile p).length = k := by omega
    have hd : c.dropWhile p = c.drop k := by
      have := List.takeWhile_append_dropWhile (p := p) (l := c)
      have h2 : c.drop k = (c.takeWhile p ++ c.dropWhile p).drop k := by rw [this]
      rw [h2, List.drop_append, List.drop_of_length_le (by omega)]
      simp [hlen]
    have hne : c.dropWhile p ≠ [] := by rw [hd]; intro e; rw [List.drop_eq_nil_iff] at e; omega
    have := List.head_dropWhile_not p hne
    have hh : (c.dropWhile p).head hne = c[k] := by
      have : ∀ (l : List Int) (hl : l ≠ []), l = c.drop k → l.head hl = c[k] := fun l hl e => by
        subst e; rw [List.head_drop]
      exact this _ hne hd
    rw [hh, hp] at this
    cases this
end Go.Abs
