/- The library's sort in the terms of abstract values; a comparison's contract as the sort asks for it. -/
import Derived.Test.YtogdmmccbeipkaaGreatAbsShift
import Derived.Sort.Row
import Derived.Sort.Grow
import Derived.Deep.Draws
set_option linter.all false
namespace Go.Abs
open Go

section
variable {P : Program} {C : Ctx} {h : Heap} {nx : Nat}

/-- The world with more blocks behind it. -/
theorem grow_step (H : HeapRel C h nx) {w' : World} {os : Array Obj} (hw : w'.heap = C.w.heap ++ os) (hos : w'.os = C.w.os) (hta : w'.tape = C.w.tape) (hou : w'.output = C.w.output ∧ C.w.drawn ≤ w'.drawn) :
    HeapRel ⟨C.I, C.β, w'⟩ h nx ∧ Step C h nx ⟨C.I, C.β, w'⟩ h nx := by
  have hold : ∀ b, b < C.w.heap.size → w'.heap[b]? = C.w.heap[b]? := fun b hb => by rw [hw, Array.getElem?_append, if_pos hb]
  have hst : Step C h nx ⟨C.I, C.β, w'⟩ h nx :=
    ⟨Nat.le_refl _, fun b hb => hb, fun b hb => .inl hb, fun m hm k' es' he => ⟨es', he, Nat.le_refl _, fun _ => rfl⟩, fun b hb => .inl hb, hos, hta, hou, by rw [hw]; simp, fun b hb _ => hold b hb, fun b hb => by simp only [bsize, hold b hb]⟩
  refine ⟨⟨H.new, fun n k es he => ?_, H.inj, fun b hb => ?_⟩, hst⟩
  · obtain ⟨h1, h2⟩ := H.blk n k es he
    refine ⟨h1, ?_⟩
    rcases h2 with h2 | ⟨b, c, ty', h3, h4, h5, h6⟩
    · exact .inl h2
    · have hb : b < C.w.heap.size := (Array.getElem?_eq_some_iff.1 h4).1
      exact .inr ⟨b, c, ty', h3, (hold b hb).trans h4, h5, VE_moves (hst.moves H) _ _ _ _ (hold b hb) h6⟩
  · have := H.old b hb
    rw [hw]; simp; omega

theorem putRow_size {α : Type} (enc : α → Value) [Inhabited α] (off : Nat) (d : Array α) (c : Array Value) : (Sort.putCells enc off d c).size = c.size := by simp [Sort.putCells]

theorem Vs_ints (ys : List Int) : Vs C h nx (ys.map fun x => [AV.int x]).flatten (ys.map (Value.int .i64)) := by
  induction ys with
  | nil => rfl
  | cons y ys ih => exact ⟨_, _, rfl, rfl, ih⟩

/-- A block of integers, sorted by the library. -/
theorem sorted_block (H : HeapRel C h nx) {n b m : Nat} {xs ys : List Int} {c : Array Value} {ty : Nat} {os : Array Obj} {w' : World}
    (hn : h n = some ⟨1, xs.map fun x => [.int x]⟩) (hβ : C.β n = some b) (hb : C.w.heap[b]? = some (.cells c ty (0, 0))) (hlen : ys.length = xs.length) (hc : xs.length ≤ c.size)
    (hw : w' = Sort.grow (Sort.putRow (Value.int .i64) (Sort.ahead C.w m) b 0 ys.toArray) os) :
    HeapRel ⟨C.I, C.β, w'⟩ (upd h n (some ⟨1, ys.map fun x => [.int x]⟩)) nx ∧ Step C h nx ⟨C.I, C.β, w'⟩ (upd h n (some ⟨1, ys.map fun x => [.int x]⟩)) nx := by
  have hsz := putRow_size (Value.int .i64) 0 ys.toArray c
  obtain ⟨H1, s1⟩ := set_block (w' := C.w.setRow b (Sort.putCells (Value.int .i64) 0 ys.toArray c)) (cs' := Sort.putCells (Value.int .i64) 0 ys.toArray c) (vs := ys.map (Value.int .i64))
    (es' := ys.map fun x => [.int x]) H hn hβ hb (by simp [hlen]) (by
      intro e he; obtain ⟨x, _, rfl⟩ := List.mem_map.1 he; rfl) (Vs_ints ys) (fun j v hj => by
      rw [List.getElem?_map] at hj
      cases hy : ys[j]? with
      | none => rw [hy] at hj; cases hj
      | some y =>
        rw [hy] at hj
        simp only [Option.map_some, Option.some.injEq] at hj
        obtain ⟨hjl, hyj⟩ := List.getElem?_eq_some_iff.1 hy
        have hjc : j < c.size := by omega
        simp only [Sort.putCells, Array.getElem?_mapIdx, Nat.zero_le, Nat.zero_add, true_and, List.size_toArray, if_pos hjl, Nat.sub_zero, Array.getElem?_eq_getElem hjc, Option.map_some, Option.some.injEq]
        rw [getElem!_pos _ j (by simpa using hjl)]
        simp [hyj, hj]) hsz rfl
  have hheap : w'.heap = (C.w.setRow b (Sort.putCells (Value.int .i64) 0 ys.toArray c)).heap ++ os := by
    rw [hw]
    show (C.w.heap.modify b _) ++ os = _
    congr 1
    apply Array.ext_getElem?
    intro i
    by_cases hi : i = b
    · subst hi
      rw [setRow_heap _ _ _ _ _ _ hb, Array.getElem?_modify, if_pos rfl, hb]
      rfl
    · rw [setRow_other _ _ _ _ hi, Array.getElem?_modify, if_neg (Ne.symm hi)]
  obtain ⟨H2, s2⟩ := grow_step H1 (w' := w') hheap (by rw [hw]; rfl) (by rw [hw]; rfl) (by rw [hw]; exact ⟨rfl, Nat.le_add_right _ _⟩)
  exact ⟨H2, s1.trans s2⟩

/-- A name for nothing as yet. -/
theorem thaw_core (H : HeapRel C h nx) {k : Nat} (hk : 0 < k) : HeapRel ⟨C.I, upd C.β nx none, C.w⟩ (upd h nx (some ⟨k, []⟩)) (nx + 1) ∧ Step C h nx ⟨C.I, upd C.β nx none, C.w⟩ (upd h nx (some ⟨k, []⟩)) (nx + 1) := by
  let C2 : Ctx := ⟨C.I, upd C.β nx none, C.w⟩
  have hhn : h nx = none := H.new _ (Nat.le_refl _)
  have hst : Step C h nx C2 (upd h nx (some ⟨k, []⟩)) (nx + 1) := by
    refine ⟨Nat.le_succ _, fun b hb => hb, fun b hb => .inl hb, fun n hn k' es he => ?_, fun b ⟨n, h1, h2⟩ => ?_, rfl, rfl, ⟨rfl, Nat.le_refl _⟩, Nat.le_refl _, fun _ _ _ => rfl, fun _ _ => rfl⟩
    · have hne : n ≠ nx := by omega
      simp only [upd, if_neg hne] at he
      exact ⟨es, he, Nat.le_refl _, fun _ => by simp [C2, upd, hne]⟩
    · by_cases hne : n = nx
      · subst hne; simp [C2, upd] at h2
      · simp only [C2, upd, if_neg hne] at h1 h2
        exact .inl ⟨n, h1, h2⟩
  have hmv := hst.moves H
  have H2 : HeapRel C2 (upd h nx (some ⟨k, []⟩)) (nx + 1) := by
    refine ⟨fun n hn => ?_, fun n k' es he => ?_, fun n m b h1 h2 h3 h4 => ?_, H.old⟩
    · have hne : n ≠ nx := by omega
      simp only [upd, if_neg hne]; exact H.new n (by omega)
    · by_cases hne : n = nx
      · subst hne
        simp only [upd, if_true, Option.some.injEq, Blk.mk.injEq] at he
        obtain ⟨rfl, rfl⟩ := he
        exact ⟨hk, .inl ⟨by simp [C2, upd], rfl⟩⟩
      · simp only [upd, if_neg hne] at he
        obtain ⟨h1, h2⟩ := H.blk n k' es he
        refine ⟨h1, ?_⟩
        rcases h2 with ⟨h2, h3⟩ | ⟨b, c, ty, h3, h4, h5, h6⟩
        · exact .inl ⟨by simp [C2, upd, hne, h2], h3⟩
        · exact .inr ⟨b, c, ty, by simp [C2, upd, hne, h3], h4, h5, VE_moves hmv _ _ _ _ rfl h6⟩
    · have f : ∀ n b, C2.β n = some b → n ≠ nx := fun n b hb e => by subst e; simp [C2, upd] at hb
      have e1 := f n b h3
      have e2 := f m b h4
      simp only [C2, upd, if_neg e1, if_neg e2] at h1 h2 h3 h4
      exact H.inj n m b h1 h2 h3 h4
  exact ⟨H2, hst⟩

/-- The library's sort of integers, as a call of this model: its contract comes off the shelf. -/
theorem CallsA.of_sort {f : FuncId} {xs ys : List Int} {ex : List AV} {exv : List Value} (hbody : ∃ fn, P.funcs[f]? = some fn ∧ fn.body.isSome = true ∧ (fn.name == "runtime.NumGoroutine") = false)
    (hlen : ys.length = xs.length) (hex : ∀ (C : Ctx) (h : Heap) (nx : Nat) (vs : List Value), Vs C h nx ex vs → vs = exv)
    (hs : ∀ (blk cap : Nat) (w : World), 0 < xs.length → Sort.Holds (Value.int .i64) w blk 0 xs.toArray → blk < w.heap.size → Calls P f ⟨.slice (some ⟨blk, 0, none⟩) xs.length cap :: exv⟩ w fun e w' =>
      e = .returned (.tuple #[]) ∧ ∃ n os, w' = Sort.grow (Sort.putRow (Value.int .i64) (Sort.ahead w n) blk 0 ys.toArray) os)
    (h0 : ∀ (p : Option Addr) (cap : Nat) (w : World), Calls P f ⟨.slice p 0 cap :: exv⟩ w fun e w' => e = .returned (.tuple #[]) ∧ w' = w)
    {n : Nat} {K : AV → Heap → Nat → Prop} (hh : h n = some ⟨1, xs.map fun x => [.int x]⟩) (hk : K (.tup []) (upd h n (some ⟨1, ys.map fun x => [.int x]⟩)) nx) :
    CallsA P f (.sl n xs.length 0 xs.length :: ex) h nx K := by
  refine ⟨hbody, fun C vs H hv => ?_⟩
  clear hbody
  obtain ⟨v, r, rfl, hv, hr⟩ := hv
  rw [hex _ _ _ _ hr]
  obtain ⟨hnx, ⟨a, cap, rfl⟩, hv⟩ := hv
  obtain ⟨_, hv⟩ := hv 1 _ hh
  obtain ⟨_, hv⟩ := hv (by simp)
  have hsame : xs.length = 0 → upd h n (some ⟨1, ys.map fun x => [.int x]⟩) = h := fun e => by
    have e1 : xs = [] := List.eq_nil_of_length_eq_zero e
    have e2 : ys = [] := List.eq_nil_of_length_eq_zero (by omega)
    subst e1 e2
    funext m; simp only [upd]; split
    · rename_i e; rw [e, hh]
    · rfl
  by_cases hx : xs.length = 0
  · rw [hsame hx] at hk
    rw [hx]
    exact (h0 a cap C.w).mono fun e w' ⟨he, hw⟩ => ⟨_, _, _, C, _, he, hk, ⟨[], rfl, rfl⟩, H, Step.refl, hw.symm⟩
  · have hxp : 0 < xs.length := Nat.pos_of_ne_zero hx
    rcases hv with ⟨_, _, _, hz⟩ | ⟨b, cap', o, hβ, hsl, ho, hlc, hbs⟩
    · omega
    · simp only [Value.slice.injEq] at hsl
      obtain ⟨rfl, _, rfl⟩ := hsl
      have ho' : o = 0 := by
        have := ho (Nat.ne_of_gt (Nat.lt_of_lt_of_le hxp hlc))
        simpa using this
      subst ho'
      obtain ⟨_, hblk⟩ := H.blk n 1 _ hh
      rcases hblk with ⟨h1, h2⟩ | ⟨b', c, ty, hb1, hb2, hb3, hb4⟩
      · rw [hβ] at h1; cases h1
      · rw [hβ] at hb1; cases hb1
        have hlt : b < C.w.heap.size := (Array.getElem?_eq_some_iff.1 hb2).1
        obtain ⟨vs', hvl, hvv, hvc⟩ := VE_flat _ _ _ _ hb4
        have hcells : ∀ j (hj : j < xs.length), C.w.cell? ⟨b, 0 + j, none⟩ = some (.int .i64 xs[j]) := fun j hj => by
          have key : ∀ (xs : List Int) (vs : List Value), Vs C h nx (xs.map fun x => [AV.int x]).flatten vs → ∀ j (hj : j < xs.length), vs[j]? = some (.int .i64 xs[j]) := by
            intro xs
            induction xs with
            | nil => intro vs _ j hj; simp at hj
            | cons x xs ih =>
              intro vs ⟨v, r, hvr, hv1, hv2⟩ j hj
              subst hvr
              cases j with
              | zero => simp only [V] at hv1; subst hv1; rfl
              | succ j => simpa using ih r hv2 j (by simpa using hj)
          exact hvc j _ (key xs vs' hvv j hj)
        have hcs : xs.length ≤ c.size := by
          have := hcells (xs.length - 1) (Nat.sub_lt hxp Nat.one_pos)
          simp only [World.cell?, hb2, Option.isSome_none, Bool.false_eq_true, if_false, Nat.zero_add] at this
          have := (Array.getElem?_eq_some_iff.1 this).1
          omega
        refine (hs b cap C.w hxp (fun j hj => ?_) hlt).mono fun e w' ⟨he, m, os, hw⟩ => ?_
        · have hj' : j < xs.length := by simpa using hj
          refine ⟨?_, ?_⟩
          · rw [hcells j hj', getElem!_pos _ j hj]; simp
          · simp only [World.frozen?, hb2]; simp
        · obtain ⟨H', s'⟩ := sorted_block H hh hβ hb2 hlen hcs hw
          exact ⟨_, _, _, _, _, he, hk, ⟨[], rfl, rfl⟩, H', s', rfl⟩

/-- A comparison, as the sort asks for it. -/
theorem CallsQ.cmp {g : FuncId} {x y r : Int} (hq : CallsQ P g [.int x, .int y] (Hp []) 0 (.int r)) (w : World) :
    Calls P g #[.int .i64 x, .int .i64 y] w fun e w' => e = .returned (.int .i64 r) ∧ ∃ q os', w' = Sort.grow (w.drewN q) os' := by
  refine (hq.2 ⟨fun _ => False, fun _ => none, w⟩ [.int .i64 x, .int .i64 y] ⟨fun _ _ => rfl, fun n k es he => (by cases he), fun n m b h1 => absurd rfl h1, fun b hb => hb.elim⟩ ⟨_, _, rfl, rfl, _, _, rfl, rfl, rfl⟩).mono fun e w' ⟨r', h', nx', C', v, he, ⟨hr, _, _⟩, hV, _, hst, hw⟩ => ?_
  subst hr hw
  simp only [V] at hV
  subst hV
  refine ⟨he, C'.w.drawn - w.drawn, C'.w.heap.extract w.heap.size C'.w.heap.size, ?_⟩
  have h1 := hst.output.2
  have h2 : C'.w.heap = w.heap ++ C'.w.heap.extract w.heap.size C'.w.heap.size := by
    apply Array.ext_getElem?
    intro i
    rw [Array.getElem?_append]
    split
    · rename_i hi
      exact hst.frame i hi fun ⟨n, h1, _⟩ => h1 rfl
    · rename_i hi
      rw [Array.getElem?_extract]
      have hsz := hst.size
      simp only at hsz
      split
      · congr 1; omega
      · rw [Array.getElem?_eq_none (by omega)]
  have e : ∀ (a b : World), a.heap = b.heap → a.tape = b.tape → a.drawn = b.drawn → a.os = b.os → a.output = b.output → a = b := by
    intro a b h1 h2 h3 h4 h5
    cases a; cases b; simp_all
  apply e
  · exact h2
  · exact hst.tape
  · show C'.w.drawn = w.drawn + (C'.w.drawn - w.drawn)
    simp only at h1; omega
  · exact hst.os
  · exact hst.output.1
end
end Go.Abs
