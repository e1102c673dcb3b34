/- The verification conditions of code are sound: regions, loops, calls. -/
import Derived.Test.YtogdmmccbeipkaaGreatAbsMixS
import Derived.Tactics
import Derived.Deep.LoopGhost
set_option linter.all false
namespace Go.Abs
open Go

section
variable {P : Program} {A : AS} {C : Ctx} {a : Act}

/-- What is asked behind a piece of code, on the concrete side. -/
def post (C : Ctx) (A : AS) (K : Exit → AS → Prop) (e : Exit) (a' : Act) (w' : World) : Prop :=
  ∃ A' C', K e A' ∧ Rel C' A' a' ∧ C'.w = w' ∧ Step C A.heap A.nx C' A'.heap A'.nx ∧ A'.N = A.N

theorem AWp_def {c : Code} {K : Exit → AS → Prop} : AWp P c A K = ∀ C a, Rel C A a → c.wp P (post C A K) a C.w := rfl

theorem post_trans {A' : AS} {C' : Ctx} {K : Exit → AS → Prop} (hs : Step C A.heap A.nx C' A'.heap A'.nx) (hN : A'.N = A.N) (e : Exit) (a' : Act) (w' : World) (h : post C' A' K e a' w') : post C A K e a' w' := by
  obtain ⟨A'', C'', h1, h2, h3, h4, h5⟩ := h
  exact ⟨A'', C'', h1, h2, h3, hs.trans h4, h5.trans hN⟩

theorem AWp.mono {c : Code} {K K' : Exit → AS → Prop} (h : AWp P c A K) (hk : ∀ e A', A'.N = A.N → K e A' → K' e A') : AWp P c A K' :=
  fun C a r => wp_mono (h C a r) fun _ _ _ ⟨A', C', h1, h2⟩ => ⟨A', C', hk _ _ h2.2.2.2 h1, h2⟩

theorem AWp.seq {x y : Code} {K : Exit → AS → Prop} (h : AWp P x A (kseq (fun A' => AWp P y A' K) K)) : AWp P (.seq x y) A K := by
  intro C a r
  refine wp_seq (wp_mono (h C a r) fun e a' w' ⟨A', C', h1, h2, h3, h4, h5⟩ => ?_)
  cases e with
  | normal =>
    subst h3
    exact wp_mono (h1 C' a' h2) (post_trans h4 h5)
  | _ => exact ⟨A', C', h1, h2, h3, h4, h5⟩

theorem AWp.block {id : Nat} {c : Code} {K : Exit → AS → Prop} (h : AWp P c A (kblock id K)) : AWp P (.block id c) A K := by
  intro C a r
  refine wp_block (wp_mono (h C a r) fun e a' w' ⟨A', C', h1, h2⟩ => ?_)
  cases e with
  | exit id' =>
    simp only [kblock] at h1
    simp only [Exit.inBlock]
    split
    · rename_i hid; rw [if_pos hid] at h1; exact ⟨A', C', h1, h2⟩
    · rename_i hid; rw [if_neg hid] at h1; exact ⟨A', C', h1, h2⟩
  | _ => exact ⟨A', C', h1, h2⟩

theorem AWp.cond {c : Operand} {x y : Code} {K : Exit → AS → Prop} {b : Bool} (hc : A.ev c = .bool b) (h : AWp P (if b then x else y) A K) : AWp P (.cond c x y) A K := by
  intro C a r
  have hv := V_ev r.env c
  rw [hc] at hv
  exact wp_cond (t := b) hv (h C a r)

/-- A state that says no more than another one. -/
structure Weaker (A A' : AS) : Prop where
  env : ∀ t, A'.env t = .undef ∨ A'.env t = A.env t
  heap : ∀ n, A'.heap n = none ∨ A'.heap n = A.heap n
  nx : A'.nx = A.nx
  N : A'.N = A.N

theorem Leads.refl (A : AS) : Leads A A := ⟨rfl, fun C _ r => ⟨C, r, rfl, Step.refl⟩⟩
theorem Leads.trans {A A' A'' : AS} (h : Leads A A') (h' : Leads A' A'') : Leads A A'' :=
  ⟨h'.1.trans h.1, fun C a r => by
    obtain ⟨C', r', e, s⟩ := h.2 C a r
    obtain ⟨C'', r'', e', s'⟩ := h'.2 C' a r'
    exact ⟨C'', r'', e'.trans e, s.trans s'⟩⟩

theorem AWp.leads {c : Code} {A' : AS} {K : Exit → AS → Prop} (hl : Leads A A') (h : AWp P c A' K) : AWp P c A K := by
  intro C a r
  obtain ⟨C', r', e, s⟩ := hl.2 C a r
  rw [← e]
  exact wp_mono (h C' a r') (post_trans s hl.1)

theorem Weaker.leads {A A' : AS} (h : Weaker A A') : Leads A A' := by
  refine ⟨h.N, fun C a r => ⟨C, ?_⟩⟩
  have hnames : ∀ n k es, A'.heap n = some ⟨k, es⟩ → A.heap n = some ⟨k, es⟩ := fun n k es he => by
    rcases h.heap n with h1 | h1
    · rw [h1] at he; cases he
    · rw [← h1]; exact he
  have hne : ∀ n, A'.heap n ≠ none → A.heap n ≠ none := fun n hn => by
    rcases h.heap n with h1 | h1
    · exact absurd h1 hn
    · rw [← h1]; exact hn
  have hst : Step C A.heap A.nx C A'.heap A'.nx := by
    refine ⟨by rw [h.nx]; exact Nat.le_refl _, fun b hb => hb, fun b hb => .inl hb, fun n hn k es' he => ⟨es', hnames n k es' he, Nat.le_refl _, fun _ => rfl⟩, fun b ⟨n, h1, h2⟩ => .inl ⟨n, hne n h1, h2⟩, rfl, rfl, ⟨rfl, Nat.le_refl _⟩, Nat.le_refl _, fun _ _ _ => rfl, fun _ _ => rfl⟩
  have hmv := hst.moves r.heap
  have H : HeapRel C A'.heap A'.nx := by
    refine ⟨fun n hn => ?_, fun n k es he => ?_, fun n m b h1 h2 h3 h4 => r.heap.inj n m b (hne n h1) (hne m h2) h3 h4, r.heap.old⟩
    · rcases h.heap n with h1 | h1
      · exact h1
      · rw [h1]; exact r.heap.new n (by rw [h.nx] at hn; exact hn)
    · obtain ⟨h1, h2⟩ := r.heap.blk n k es (hnames n k es he)
      refine ⟨h1, ?_⟩
      rcases h2 with h2 | ⟨b, c, ty, h3, h4, h5, h6⟩
      · exact .inl h2
      · exact .inr ⟨b, c, ty, h3, h4, h5, VE_moves hmv _ _ _ _ rfl h6⟩
  refine ⟨⟨r.defers, by rw [r.size, h.N], fun t => ?_, H⟩, rfl, hst⟩
  rcases h.env t with h1 | h1
  · rw [h1]; trivial
  · rw [h1]; exact V_moves hmv _ _ (r.env t)

theorem keep_leads (A : AS) (L : List Nat) : Leads A (A.keep L) :=
  Weaker.leads ⟨fun t => by
    simp only [AS.keep]
    split
    · exact .inr rfl
    · exact .inl rfl, fun _ => .inr rfl, rfl, rfl⟩

theorem post_leads {K : Exit → AS → Prop} {A' : AS} (hl : Leads A A') (e : Exit) {a' : Act} (r : Rel C A a') (hk : K e A') : post C A K e a' C.w := by
  obtain ⟨C', r', e', s⟩ := hl.2 C a' r
  exact ⟨A', C', hk, r', e', s, hl.1⟩

/-- The operations of a region, in the order of the text. -/
theorem aops_sound {ops : Array Oper} {K : AS → Prop} {C0 : Ctx} {A0 : AS} (hok : ∀ o ∈ ops.toList, opOk P o.op = true ∧ ∀ d, o.dst = some d → d < A0.N) (Kx : Exit → AS → Prop) (hK : ∀ A', A'.N = A0.N → K A' → ∃ A'', Leads A' A'' ∧ Kx .normal A'') :
    ∀ (l : List Oper) (pre : List Oper) (A1 : AS) (C1 : Ctx) (a1 : Act), ops.toList = pre ++ l → A1.N = A0.N → Step C0 A0.heap A0.nx C1 A1.heap A1.nx → aops P (tiOf P) (ops.toList.map (·.dst)) K l A1 → Rel C1 A1 a1 →
      wpOps P ops (post C0 A0 Kx) (List.range' pre.length l.length) a1 C1.w
  | [], pre, A1, C1, a1, _, hN, hs, h, r => by
    obtain ⟨A'', hl, hk⟩ := hK A1 hN h
    exact post_trans hs hN _ _ _ (post_leads hl .normal r hk)
  | o :: l, pre, A1, C1, a1, hops, hN, hs0, h, r => by
    have hget : ops[pre.length]? = some o := by rw [← Array.getElem?_toList, hops]; simp
    have hmem : o ∈ ops.toList := by rw [hops]; simp
    obtain ⟨hop, hd⟩ := hok o hmem
    have hd1 : ∀ d, o.dst = some d → d < A1.N := fun d hd' => by rw [hN]; exact hd d hd'
    have hops' : ops.toList = (pre ++ [o]) ++ l := by rw [hops]; simp
    have hlen : pre.length + 1 = (pre ++ [o]).length := by simp
    simp only [List.length_cons, List.range'_succ, wpOps, hget]
    have hrec : ∀ A' C' a', A'.N = A1.N → aops P (tiOf P) (ops.toList.map (·.dst)) K l A' → Rel C' A' a' → Step C1 A1.heap A1.nx C' A'.heap A'.nx →
        wpOps P ops (post C0 A0 Kx) (List.range' (pre.length + 1) l.length) a' C'.w := by
      intro A' C' a' hN' h' r' hs
      have := aops_sound hok Kx hK l (pre ++ [o]) A' C' a' hops' (hN'.trans hN) (hs0.trans hs) h' r'
      rw [← hlen] at this
      exact this
    have hdo : ∀ A2, A2.N = A1.N → A2.heap = A1.heap → A2.nx = A1.nx → Rel C1 A2 a1 → aop P (tiOf P) o.dst o.op (aops P (tiOf P) (ops.toList.map (·.dst)) K l) A2 →
        o.wp P a1 C1.w (wpOps P ops (post C0 A0 Kx) (List.range' (pre.length + 1) l.length)) (post C0 A0 Kx) := by
      intro A2 hN2 hh hn r2 h2
      refine aop_sound hop (fun d hd' => by rw [hN2]; exact hd1 d hd') h2 C1 a1 r2 _ _ fun A' C' a' hk r' hs hN' => ?_
      rw [hh, hn] at hs
      exact hrec A' C' a' (hN'.trans hN2) hk r' hs
    have hskip : ∀ A2, A2.N = A1.N → A2.heap = A1.heap → A2.nx = A1.nx → Rel C1 A2 a1 → askip o.dst (aops P (tiOf P) (ops.toList.map (·.dst)) K l) A2 →
        wpOps P ops (post C0 A0 Kx) (List.range' (pre.length + 1) l.length) (a1.put o.dst undef) C1.w := by
      intro A2 hN2 hh hn r2 h2
      refine hrec (A2.put o.dst (.tup [])) C1 _ (by cases o.dst <;> exact hN2) h2 (r2.put (av := .tup []) (v := undef) ⟨[], rfl, rfl⟩ _ (fun d hd' => by rw [hN2]; exact hd1 d hd')) ?_
      have e1 : (A2.put o.dst (.tup [])).heap = A1.heap := by cases o.dst <;> exact hh
      have e2 : (A2.put o.dst (.tup [])).nx = A1.nx := by cases o.dst <;> exact hn
      rw [e1, e2]
      exact Step.refl
    have hw := wanted_of ops o r
    simp only [aops] at h
    cases hwant : awant (ops.toList.map (·.dst)) o.guard A1 with
    | yes =>
      rw [hwant] at hw h
      simp only at hw
      rw [if_pos hw]
      exact .inl (hdo A1 rfl rfl rfl r h)
    | no =>
      rw [hwant] at hw h
      simp only at hw
      rw [if_neg (by rw [hw]; simp)]
      exact hskip A1 rfl rfl rfl r h
    | bad => rw [hwant] at h; exact h.elim
    | ask t b want =>
      rw [hwant] at hw h
      simp only at hw
      obtain ⟨ht, hw⟩ := hw
      have hput : Rel C1 (A1.put (some t) (.bool b)) a1 := by
        refine ⟨r.defers, r.size, fun s => ?_, r.heap⟩
        simp only [AS.put, upd]
        split
        · rename_i hs; have := r.env s; rw [hs, ht] at this; rw [hs]; exact this
        · exact r.env s
      simp only [awhen] at h
      rw [hw]
      cases b <;> cases want <;> simp only [aask] at h
      · rw [if_pos (by rfl)]; exact .inl (hdo (A1.put (some t) (.bool false)) rfl rfl rfl hput h)
      · rw [if_neg (by decide)]; exact hskip (A1.put (some t) (.bool false)) rfl rfl rfl hput h
      · rw [if_neg (by decide)]; exact hskip (A1.put (some t) (.bool true)) rfl rfl rfl hput h
      · rw [if_pos (by rfl)]; exact .inl (hdo (A1.put (some t) (.bool true)) rfl rfl rfl hput h)

theorem AWp.region {id : Nat} {ops : Array Oper} {K : Exit → AS → Prop} {L : List Nat} (hok : ∀ o ∈ ops.toList, opOk P o.op = true ∧ ∀ d, o.dst = some d → d < A.N)
    (h : aops P (tiOf P) (ops.toList.map (·.dst)) (kreg L K) ops.toList A) : AWp P (.region id ops false) A K := by
  intro C a r
  refine wp_region ?_
  have := aops_sound (C0 := C) (A0 := A) hok K (fun A' hN hk => ⟨A'.keep L, keep_leads A' L, hk⟩) ops.toList [] A C a rfl rfl Step.refl h r
  rw [List.range_eq_range']
  rw [Array.length_toList] at this
  exact this

/-- A name laid to rest. -/
theorem rest_leads {A : AS} {t n k : Nat} {cs : Cells} (ht : A.env t = .ptr n 1 0 0) (hn : A.heap n = some ⟨k, [cs]⟩) (hp : AV.pureL cs = true) : Leads A ⟨upd A.env t (.iptr cs), upd A.heap n none, A.nx, A.N⟩ := by
  refine ⟨rfl, fun C a r => ?_⟩
  have Hh := r.heap
  obtain ⟨hk, hblk⟩ := Hh.blk n k _ hn
  obtain ⟨b, c, ty, hβ, hb, hI, hVE⟩ : ∃ b c ty, C.β n = some b ∧ C.w.heap[b]? = some (.cells c ty (0, 0)) ∧ ¬ C.I b ∧ VE C A.heap A.nx b 0 k [cs] := by
    rcases hblk with ⟨_, h2⟩ | h2
    · cases h2
    · exact h2
  let C2 : Ctx := ⟨fun x => C.I x ∨ x = b, C.β, C.w⟩
  have hsub : ∀ m bl, upd A.heap n none m = some bl → A.heap m = some bl ∧ m ≠ n := fun m bl h1 => by
    simp only [upd] at h1
    split at h1
    · cases h1
    · rename_i h2; exact ⟨h1, h2⟩
  have hne : ∀ m, upd A.heap n none m ≠ none → A.heap m ≠ none ∧ m ≠ n := fun m h1 => by
    obtain ⟨bl, hbl⟩ := Option.ne_none_iff_exists'.1 h1
    obtain ⟨h2, h3⟩ := hsub m bl hbl
    exact ⟨by rw [h2]; simp, h3⟩
  have hst : Step C A.heap A.nx C2 (upd A.heap n none) A.nx :=
    ⟨Nat.le_refl _, fun x hx => .inl hx, fun x hx => by
      rcases hx with hx | hx
      · exact .inl hx
      · exact .inr (.inr ⟨n, by simp [hn], by rw [hx]; exact hβ⟩), fun m hm k' es' he => ⟨es', (hsub m _ he).1, Nat.le_refl _, fun _ => rfl⟩, fun x ⟨m, h1, h2⟩ => .inl ⟨m, (hne m h1).1, h2⟩, rfl, rfl, ⟨rfl, Nat.le_refl _⟩, Nat.le_refl _, fun _ _ _ => rfl, fun _ _ => rfl⟩
  have hmv := hst.moves Hh
  have H2 : HeapRel C2 (upd A.heap n none) A.nx := by
    refine ⟨fun m hm => ?_, fun m k' es' he => ?_, fun m m' x h1 h2 h3 h4 => Hh.inj m m' x (hne m h1).1 (hne m' h2).1 h3 h4, fun x hx => ?_⟩
    · simp only [upd]; split
      · rfl
      · exact Hh.new m hm
    · obtain ⟨h1, h2⟩ := hsub m _ he
      obtain ⟨h3, h4⟩ := Hh.blk m k' es' h1
      refine ⟨h3, ?_⟩
      rcases h4 with h4 | ⟨b', c', ty', h5, h6, h7, h8⟩
      · exact .inl h4
      · refine .inr ⟨b', c', ty', h5, h6, fun hx => ?_, VE_moves hmv _ _ _ _ rfl h8⟩
        rcases hx with hx | hx
        · exact h7 hx
        · exact h2 (Hh.inj m n b (by rw [h1]; simp) (by rw [hn]; simp) (by rw [← hx]; exact h5) hβ)
    · rcases hx with hx | hx
      · exact Hh.old x hx
      · rw [hx]; exact (Array.getElem?_eq_some_iff.1 hb).1
  refine ⟨C2, ⟨r.defers, r.size, fun s => ?_, H2⟩, rfl, hst⟩
  show V C2 _ _ (upd A.env t (.iptr cs) s) _
  by_cases hs : s = t
  · have e1 : upd A.env t (.iptr cs) s = .iptr cs := by simp [upd, hs]
    rw [e1]
    have hv := r.env t
    rw [ht] at hv
    obtain ⟨_, _, hv⟩ := hv
    obtain ⟨_, hv⟩ := hv k _ hn
    obtain ⟨b', hb', hv⟩ := hv rfl
    rw [hβ] at hb'; cases hb'
    rw [hs, hv]
    refine ⟨b, 0, by simp, ⟨.inr rfl, hp⟩, ?_⟩
    exact VC_moves hmv _ _ _ rfl hVE.2.1
  · have e1 : upd A.env t (.iptr cs) s = A.env s := by simp [upd, hs]
    rw [e1]
    exact V_moves hmv _ _ (r.env s)

theorem AWp.regionR {id : Nat} {ops : Array Oper} {K : Exit → AS → Prop} {L : List Nat} {t : Nat} (hok : ∀ o ∈ ops.toList, opOk P o.op = true ∧ ∀ d, o.dst = some d → d < A.N)
    (h : aops P (tiOf P) (ops.toList.map (·.dst)) (kregR t L K) ops.toList A) : AWp P (.region id ops false) A K := by
  intro C a r
  refine wp_region ?_
  have := aops_sound (C0 := C) (A0 := A) hok K (fun A' hN hk => by
    simp only [kregR, arest] at hk
    generalize hA : A'.keep L = A2 at hk
    have hl : Leads A' A2 := hA ▸ keep_leads A' L
    unfold arestV at hk
    split at hk
    · rename_i n he
      unfold arestB at hk
      split at hk
      · rename_i m cs hb
        exact ⟨_, hl.trans (rest_leads he hb hk.1), hk.2⟩
      · exact hk.elim
    · exact hk.elim) ops.toList [] A C a rfl rfl Step.refl h r
  rw [List.range_eq_range']
  rw [Array.length_toList] at this
  exact this

/-- The world behind a draw. -/
theorem Rel.drew (r : Rel C A a) : Rel ⟨C.I, C.β, { C.w with drawn := C.w.drawn + 1 }⟩ A a ∧ Step C A.heap A.nx ⟨C.I, C.β, { C.w with drawn := C.w.drawn + 1 }⟩ A.heap A.nx := by
  have hs : Step C A.heap A.nx ⟨C.I, C.β, { C.w with drawn := C.w.drawn + 1 }⟩ A.heap A.nx :=
    ⟨Nat.le_refl _, fun b hb => hb, fun b hb => .inl hb, fun n hn k es he => ⟨es, he, Nat.le_refl _, fun _ => rfl⟩, fun b hb => .inl hb, rfl, rfl, ⟨rfl, Nat.le_succ _⟩, Nat.le_refl _, fun _ _ _ => rfl, fun _ _ => rfl⟩
  have hm := hs.moves r.heap
  refine ⟨⟨r.defers, r.size, fun t => V_moves hm _ _ (r.env t), ⟨r.heap.new, fun n k es he => ?_, r.heap.inj, r.heap.old⟩⟩, hs⟩
  obtain ⟨h1, h2⟩ := r.heap.blk n k es he
  refine ⟨h1, ?_⟩
  rcases h2 with h2 | ⟨b, c, ty, h3, h4, h5, h6⟩
  · exact .inl h2
  · exact .inr ⟨b, c, ty, h3, h4, h5, VE_moves hm _ _ _ _ rfl h6⟩

theorem AWp.regionQ {id : Nat} {ops : Array Oper} {K : Exit → AS → Prop} {L : List Nat} (hm : P.follows .mixedOrders = true) (hB : Region.lexB .any ops = true) (hok : ∀ o ∈ ops.toList, opOk P o.op = true ∧ ∀ d, o.dst = some d → d < A.N)
    (h : aopsQ P (tiOf P) (ops.toList.map (·.dst)) (kreg L K) ops.toList A) : AWp P (.region id ops true) A K := by
  intro C a r
  refine wp_region_any hm ?_
  obtain ⟨r', hs'⟩ := r.drew
  simp only [Region.lexB, Bool.and_eq_true] at hB
  have H := anyA_lex (md := .any) (fun o ho => (hok o ho).1) ops.toList 0 (Array.replicate ops.size false) A (by simp) (by simpa using hB.2) h
  have := wpAny_of_anyA (g := 0) (Q' := post C A K) (C0 := C) (A0 := A) (fun o ho => (hok o ho).2) (fun listed A1 C1 a1 hL r1 hN1 hs1 => ⟨hL.1, post_trans hs1 hN1 _ _ _ (post_leads (keep_leads A1 L) .normal r1 hL.2)⟩) _ _ A _ a H r' rfl hs'
  rw [Nat.add_zero, Array.length_toList] at this
  exact this

theorem AWp.regionT {id : Nat} {ops : Array Oper} {K : Exit → AS → Prop} {L : List Nat} {n : Nat} (hm : P.follows .mixedOrders = true) (hB : Region.lexTailB .any ops n = true) (hok : ∀ o ∈ ops.toList, opOk P o.op = true ∧ ∀ d, o.dst = some d → d < A.N)
    (h : aopsQ P (tiOf P) (ops.toList.map (·.dst)) (aops P (tiOf P) (ops.toList.map (·.dst)) (kreg L K) (ops.toList.drop n)) (ops.toList.take n) A) : AWp P (.region id ops true) A K := by
  intro C a r
  refine wp_region_any hm ?_
  obtain ⟨r', hs'⟩ := r.drew
  simp only [Region.lexTailB, Bool.and_eq_true, decide_eq_true_eq] at hB
  obtain ⟨⟨⟨⟨hsel, hn⟩, hs⟩, hc⟩, hlex⟩ := hB
  have htl : (ops.toList.take n).length = n := by simp; omega
  have hdl : (ops.toList.drop n).length = ops.size - n := by simp
  have inv0 : HeadInv .any ops n (Array.replicate ops.size false) :=
    ⟨by simp, fun j oj _ hl => (by rw [getD_replicate_false] at hl; cases hl), fun t _ ht => getD_in (by simpa using ht) (getD_replicate_false _ _)⟩
  have H := anyA_lexTail (md := .any) (g := ops.size - n) (fun o ho => (hok o ho).1) hs hc hn (ops.toList.take n) 0 _ A (fun j hj => by
    have hj' : j < n := by rw [htl] at hj; exact hj
    simp [hj']) (by simpa using htl) inv0 (by rw [htl]; exact hlex) h
  have := wpAny_of_anyA (g := ops.size - n) (Q' := post C A K) (C0 := C) (A0 := A) (fun o ho => (hok o ho).2) (fun listed A1 C1 a1 hL r1 hN1 hs1 => by
    have hops := aops_sound (C0 := C) (A0 := A) hok K (fun A' hN hk => ⟨A'.keep L, keep_leads A' L, hk⟩) (ops.toList.drop n) (ops.toList.take n) A1 C1 a1 (by simp) hN1 hs1 hL.2 r1
    rw [htl, wpOps_eq_wpList _ n (fun j => by simp [List.getElem?_drop])] at hops
    have := wpAny_of_seq (md := .any) (Q' := post C A K) (ops.toList.drop n) n listed a1 C1.w (fun j => by simp [List.getElem?_drop]) (by rw [hdl]; exact hL.1) hops
    rwa [hdl] at this) _ _ A _ a H r' rfl hs'
  rw [htl, show n + (ops.size - n) = ops.size by omega] at this
  exact this

theorem AWp.regionM {id : Nat} {ops : Array Oper} {K : Exit → AS → Prop} {L : List Nat} (hm : P.follows .mixedOrders = true) (hB : Region.lexB .any ops = true) (hc : tchainB ops = true) (hok : ∀ o ∈ ops.toList, opOk P o.op = true ∧ ∀ d, o.dst = some d → d < A.N)
    (h : aopsM P (tiOf P) (ops.toList.map (·.dst)) (kreg L K) ops.toList A) : AWp P (.region id ops true) A K := by
  intro C a r
  refine wp_region_any hm ?_
  obtain ⟨r', hs'⟩ := r.drew
  simp only [Region.lexB, Bool.and_eq_true] at hB
  have inv : Closed .any ops 0 (Array.replicate ops.size false) := ⟨by simp, fun j oj _ hl => (by rw [getD_replicate_false] at hl; cases hl), fun j hj => absurd hj (Nat.not_lt_zero j)⟩
  have H := anyM_lex hc (fun o ho => (hok o ho).1) ops.toList 0 (Array.replicate ops.size false) A (by simp) inv (by simpa using hB.2) h
  have := wpAny_of_anyM (Q' := post C A K) (C0 := C) (A0 := A) (fun o ho => (hok o ho).2) (fun A1 C1 a1 hL r1 hN1 hs1 => post_trans hs1 hN1 _ _ _ (post_leads (keep_leads A1 L) .normal r1 hL)) _ _ A _ a H r' rfl hs'
  rw [Array.length_toList] at this
  exact this

theorem AWp.regionS {id : Nat} {ops : Array Oper} {K : Exit → AS → Prop} {L : List Nat} {n0 : Nat} (hm : P.follows .mixedOrders = true) (hB : Region.lexB .any ops = true) (hc : tchainB ops = true) (hok : ∀ o ∈ ops.toList, opOk P o.op = true ∧ ∀ d, o.dst = some d → d < A.N)
    (hn0 : (A.heap n0).isSome = true) (h : aopsS P (tiOf P) n0 (ops.toList.map (·.dst)) (kreg L K) ops.toList A) : AWp P (.region id ops true) A K := by
  intro C a r
  refine wp_region_any hm ?_
  obtain ⟨r', hs'⟩ := r.drew
  simp only [Region.lexB, Bool.and_eq_true] at hB
  have inv : Closed .any ops 0 (Array.replicate ops.size false) := ⟨by simp, fun j oj _ hl => (by rw [getD_replicate_false] at hl; cases hl), fun j hj => absurd hj (Nat.not_lt_zero j)⟩
  have H := anyS_lex hc (fun o ho => (hok o ho).1) ops.toList 0 (Array.replicate ops.size false) A (by simp) inv hn0 (by simpa using hB.2) h
  have := wpAny_of_anyS (Q' := post C A K) (C0 := C) (A0 := A) (fun o ho => (hok o ho).2) (fun A1 C1 a1 hL r1 hN1 hs1 => post_trans hs1 hN1 _ _ _ (post_leads (keep_leads A1 L) .normal r1 hL)) _ _ A _ a H r' rfl hs'
  rw [Array.length_toList] at this
  exact this

/-- A loop: states J i at its head, a measure on i that every round lowers. -/
theorem AWp.loop {ι : Type} {c : Code} {K : Exit → AS → Prop} (J : ι → AS) (μ : ι → Nat) (i0 : ι) (h0 : Leads A (J i0))
    {q : Prop} (_ : q) (round : ∀ i, (J i).N = A.N → AWp P c (J i) (kseq (kround μ J i) K)) : AWp P (.loop c) A K := by
  intro C a r
  obtain ⟨C0, r0, e0, s0⟩ := h0.2 C a r
  refine wp_loop_ghost (fun n a' w' => ∃ i C', μ i = n ∧ Rel C' (J i) a' ∧ C'.w = w' ∧ Step C A.heap A.nx C' (J i).heap (J i).nx ∧ (J i).N = A.N) (μ i0) ⟨i0, C0, rfl, r0, e0, s0, h0.1⟩ ?_
  rintro n a' w' ⟨i, C', rfl, r', rfl, s', hN'⟩
  refine wp_mono (round i hN' C' a' r') fun e a1 w1 ⟨A1, C1, hk, r1, hw1, s1, hN1⟩ => ?_
  cases e with
  | normal =>
    obtain ⟨i', hlt, hl⟩ := hk
    obtain ⟨C2, r2, e2, s2⟩ := hl.2 C1 a1 r1
    exact ⟨μ i', hlt, i', C2, rfl, r2, e2.trans hw1, s'.trans (s1.trans s2), hl.1.trans (hN1.trans hN')⟩
  | _ => exact ⟨A1, C1, hk, r1, hw1, s'.trans s1, hN1.trans hN'⟩

theorem aw_sound {D : List (Nat × Nat)} (hm : P.follows .mixedOrders = true) {L : List Nat} : ∀ (c : Code) (K : Exit → AS → Prop) (A : AS), codeOk P D A.N c = true → aw P (tiOf P) D L c K A → AWp P c A K := by
  intro c
  induction c with
  | skip => exact fun K A _ h C a r => wp_skip (post_leads (Leads.refl A) .normal r h)
  | exit id => exact fun K A _ h C a r => wp_exit (post_leads (Leads.refl A) _ r h)
  | ret => exact fun K A _ h C a r => wp_ret (post_leads (Leads.refl A) _ r h)
  | region id ops d =>
    intro K A hok h
    simp only [codeOk, Bool.and_eq_true] at hok
    obtain ⟨hdraw, hok⟩ := hok
    have hok' : ∀ o ∈ ops.toList, opOk P o.op = true ∧ ∀ d, o.dst = some d → d < A.N := fun o ho => by
      have := Array.all_eq_true'.1 hok o (by simpa using ho)
      simp only [Bool.and_eq_true] at this
      refine ⟨this.1, fun d hd => ?_⟩
      rw [hd] at this
      simpa using this.2
    cases d with
    | false =>
      simp only [aw] at h
      cases ht : tailAt D id with
      | none => rw [ht] at h; exact AWp.region hok' h
      | some t => rw [ht] at h; exact AWp.regionR hok' h
    | true =>
      simp only [aw] at h
      cases ht : tailAt D id with
      | none => rw [ht] at h hdraw; exact AWp.regionQ hm (by simpa using hdraw) hok' h
      | some n =>
        rw [ht] at h hdraw
        cases n with
        | zero =>
          simp only [Bool.not_true, Bool.false_or, Bool.and_eq_true] at hdraw
          exact AWp.regionM hm hdraw.1 hdraw.2 hok' h
        | succ n =>
          simp only [Bool.not_true, Bool.false_or] at hdraw h
          by_cases hs : 1000 ≤ n + 1
          · rw [if_pos hs] at h hdraw
            simp only [Bool.and_eq_true] at hdraw
            unfold aslotV at h
            split at h
            · exact AWp.regionS hm hdraw.1 hdraw.2 hok' h.1 h.2
            · exact h.elim
          · rw [if_neg hs] at h hdraw
            exact AWp.regionT hm hdraw hok' h
  | seq x y ihx ihy =>
    intro K A hok h
    simp only [codeOk, Bool.and_eq_true] at hok
    refine AWp.seq ((ihx _ A hok.1 h).mono fun e A' hN hk => ?_)
    cases e with
    | normal => exact ihy K A' (by rw [hN]; exact hok.2) hk
    | _ => exact hk
  | cond c x y ihx ihy =>
    intro K A hok h
    simp only [codeOk, Bool.and_eq_true] at hok
    simp only [aw] at h
    unfold acond at h
    split at h
    · rename_i hc; exact AWp.cond hc (ihx K A hok.1 h)
    · rename_i hc; exact AWp.cond hc (ihy K A hok.2 h)
    · exact h.elim
  | block id c ih =>
    intro K A hok h
    exact AWp.block (ih _ A hok h)
  | loop c ih =>
    intro K A hok h
    obtain ⟨ι, J, μ, i0, hl, hround⟩ := h
    exact AWp.loop J μ i0 hl hok fun i hi => ih _ (J i) (by rw [hi]; exact hok) (hround i)
  | _ => intro K A _ h; exact h.elim

def resVal : List Value → Value
  | [v] => v
  | vs => .tuple ⟨vs⟩

/-- What one result reads as. -/
def resOne (tmps : Array Value) : ResultVar → Sem Value
  | .tmp t => pure (tmps.getD t undef)
  | .cell a t => do loadVar t (← asAddr (tmps.getD a undef))

def resOk (P : Program) : ResultVar → Bool
  | .tmp _ => true
  | .cell _ t => typOk P t

theorem run_results {fn : Func} {rs : List ResultVar} (hres : fn.results = rs.toArray) (h5 : rs.length ≤ 5) {tmps : Array Value} {w : World} {vs : List Value}
    (hv : ∀ (i : Nat) (r : ResultVar), rs[i]? = some r → ∃ v, vs[i]? = some v ∧ (resOne tmps r).run P w = .ok v w) (hl : vs.length = rs.length) : (results fn tmps).run P w = .ok (resVal vs) w := by
  have hr : results fn tmps = (do let us ← fn.results.mapM (resOne tmps); pure (if h : us.size = 1 then us[0] else .tuple us)) := by
    unfold results
    congr 1
  have hl0 : ∀ (rs : List ResultVar) (vs : List Value), (∀ (i : Nat) (r : ResultVar), rs[i]? = some r → ∃ v, vs[i]? = some v ∧ (resOne tmps r).run P w = .ok v w) → vs.length = rs.length → (rs.mapM (resOne tmps)).run P w = .ok vs w := by
    intro rs
    induction rs with
    | nil => intro vs _ hl; cases vs with
      | nil => rfl
      | cons => simp at hl
    | cons r rs ih =>
      intro vs hv hl
      cases vs with
      | nil => simp at hl
      | cons v vs =>
        obtain ⟨v', h1, h2⟩ := hv 0 r rfl
        simp at h1
        subst h1
        have := ih vs (fun i r hr => hv (i + 1) r (by simpa using hr)) (by simpa using hl)
        simp [List.mapM_cons, h2, this, Result.andThen]
  have h1 := hl0 rs vs hv hl
  have h2 : (fn.results.mapM (resOne tmps)).run P w = .ok vs.toArray w := by
    rw [hres, Array.mapM_eq_mapM_toList]
    simp [h1, Result.andThen]
  rw [hr]
  simp only [Sem.run_bind, h2, Result.andThen, Sem.run_pure]
  cases vs with
  | nil => rfl
  | cons v vs => cases vs with
    | nil => rfl
    | cons u vs => simp [resVal]

theorem aress_spec {A : AS} {K : AV → Heap → Nat → Prop} : ∀ (rs : List ResultVar) (acc : List AV), rs.all (resOk P) = true → aress (tiOf P) A K rs acc →
    ∃ as, K (mkRes (acc.reverse ++ as)) A.heap A.nx ∧ as.length = rs.length ∧ ∀ C a, Rel C A a → ∃ vs, Vs C A.heap A.nx as vs ∧
      ∀ (i : Nat) (r : ResultVar), rs[i]? = some r → ∃ v, vs[i]? = some v ∧ (resOne a.tmps r).run P C.w = .ok v C.w
  | [], acc, _, h => ⟨[], by simpa [aress] using h, rfl, fun C a _ => ⟨[], rfl, fun i r hi => by simp at hi⟩⟩
  | .tmp t :: rs, acc, hok, h => by
    simp only [List.all_cons, Bool.and_eq_true] at hok
    obtain ⟨as, h1, h2, h3⟩ := aress_spec rs _ hok.2 h
    refine ⟨A.env t :: as, by simpa using h1, by simp [h2], fun C a r => ?_⟩
    obtain ⟨vs, h4, h5⟩ := h3 C a r
    refine ⟨a.tmps.getD t undef :: vs, ⟨_, vs, rfl, r.env t, h4⟩, fun i x hi => ?_⟩
    cases i with
    | zero => simp at hi; subst hi; exact ⟨_, rfl, rfl⟩
    | succ i => exact h5 i x (by simpa using hi)
  | .cell b t :: rs, acc, hok, h => by
    simp only [List.all_cons, Bool.and_eq_true] at hok
    obtain ⟨av, h0, hrun⟩ := aload_spec hok.1 h
    obtain ⟨as, h1, h2, h3⟩ := aress_spec rs _ hok.2 h0
    refine ⟨av :: as, by simpa using h1, by simp [h2], fun C a r => ?_⟩
    obtain ⟨vs, h4, h5⟩ := h3 C a r
    obtain ⟨v, h6, h7⟩ := hrun C _ r.heap (r.env b)
    refine ⟨v :: vs, ⟨_, vs, rfl, h7, h4⟩, fun i x hi => ?_⟩
    cases i with
    | zero =>
      simp at hi
      subst hi
      refine ⟨v, rfl, ?_⟩
      cases hp : a.tmps.getD b undef <;> rw [hp] at h6 <;> try (simp [Instr.loadAt, Instr.sureAddr, stuck, Sem.run, Result.andThen] at h6; done)
      rename_i p
      cases p with
      | none => simp [Instr.loadAt, Instr.sureAddr, stuck, Sem.run, Result.andThen] at h6
      | some p => simpa [resOne, hp, asAddr, Instr.loadAt, Instr.sureAddr, Result.andThen] using h6
    | succ i => exact h5 i x (by simpa using hi)

theorem V_mkRes {h : Heap} {nx : Nat} {as : List AV} {vs : List Value} (hv : Vs C h nx as vs) : V C h nx (mkRes as) (resVal vs) := by
  cases as with
  | nil => rw [show vs = [] from hv]; exact ⟨[], rfl, rfl⟩
  | cons a as =>
    obtain ⟨v, r, rfl, h1, h2⟩ := hv
    cases as with
    | nil => rw [show r = [] from h2]; exact h1
    | cons b bs =>
      obtain ⟨u, s, rfl, h3, h4⟩ := h2
      exact ⟨_, rfl, v, _, rfl, h1, u, s, rfl, h3, h4⟩

/-- A contract of a function, out of its verification condition. -/
theorem CallsA.intro {f : FuncId} {fn : Func} {c : Code} {args : List AV} {hp : Heap} {nx : Nat} {K : AV → Heap → Nat → Prop} (D : List (Nat × Nat)) (L : List Nat) (rs : List ResultVar) (hm : P.follows .mixedOrders = true) (hf : P.funcs[f]? = some fn) (hb : fn.body = some c)
    (hname : (fn.name == "runtime.NumGoroutine") = false) (hok : codeOk P D fn.ntmps c = true) (hargs : args.length ≤ fn.ntmps) (hres : fn.results = rs.toArray) (h5 : rs.length ≤ 5) (hrs : rs.all (resOk P) = true)
    (h : aw P (tiOf P) D L c (postA (tiOf P) fn.results K) (startA fn args hp nx)) : CallsA P f args hp nx K := by
  refine ⟨⟨fn, hf, by rw [hb]; rfl, hname⟩, fun C vs H hv => ?_⟩
  refine calls_of_wp hf hb ?_
  have hlen := Vs_length _ _ hv
  have hstart : Rel C (startA fn args hp nx) { tmps := (⟨vs⟩ : Array Value) ++ Array.replicate (fn.ntmps - (⟨vs⟩ : Array Value).size) undef, defers := [] } := by
    refine ⟨rfl, by simp [startA]; omega, fun t => ?_, H⟩
    have gen : ∀ (as : List AV) (s t : Nat), (E ((as.zipIdx s).map fun p => (p.2, p.1)) t) = (if s ≤ t then (as[t - s]?).getD .undef else .undef) := by
      intro as
      induction as with
      | nil => intro s t; simp [E]
      | cons b as ih =>
        intro s t
        simp only [List.zipIdx_cons, List.map_cons, E, ih]
        by_cases h1 : t = s
        · subst h1; simp
        · rw [if_neg h1]
          by_cases h2 : s ≤ t
          · rw [if_pos h2, if_pos (by omega), show t - s = (t - (s + 1)) + 1 by omega]; simp
          · rw [if_neg h2, if_neg (by omega)]
    simp only [startA, gen, Nat.zero_le, if_true, Nat.sub_zero]
    cases ha : args[t]? with
    | none => trivial
    | some av =>
      obtain ⟨v, hv1, hv2⟩ := Vs_get _ _ hv t av ha
      have ht : t < vs.length := (List.getElem?_eq_some_iff.1 hv1).1
      have : ((⟨vs⟩ : Array Value) ++ Array.replicate (fn.ntmps - (⟨vs⟩ : Array Value).size) undef).getD t undef = v := by
        rw [Array.getD_eq_getD_getElem?, Array.getElem?_append_left (by simpa using ht)]
        simp [hv1]
      rw [this]
      exact hv2
  refine wp_mono (aw_sound hm c _ _ (by exact hok) h C _ hstart) fun e a' w' ⟨A', C', hk, r', hw, hs, hN⟩ => ?_
  have hfin : ∀ (hk : aress (tiOf P) A' K rs []), ∃ v, (results fn a'.tmps).run P w' = .ok v w' ∧ ∃ r, K r A'.heap A'.nx ∧ V C' A'.heap A'.nx r v := by
    intro hk
    obtain ⟨as, h1, h2, h3⟩ := aress_spec rs [] hrs hk
    obtain ⟨vs, h4, h5'⟩ := h3 C' a' r'
    rw [hw] at h5'
    exact ⟨_, run_results hres h5 h5' (by rw [Vs_length _ _ h4, h2]), _, by simpa using h1, V_mkRes h4⟩
  cases e with
  | normal =>
    have hk' : aress (tiOf P) A' K rs [] := by have := hk; rw [hres] at this; exact this
    obtain ⟨v, h1, rv, h2, h3⟩ := hfin hk'
    exact ⟨r'.defers, v, h1, rv, _, _, C', v, rfl, h2, h3, r'.heap, hs, hw⟩
  | ret =>
    have hk' : aress (tiOf P) A' K rs [] := by have := hk; rw [hres] at this; exact this
    obtain ⟨v, h1, rv, h2, h3⟩ := hfin hk'
    exact ⟨r'.defers, v, h1, rv, _, _, C', v, rfl, h2, h3, r'.heap, hs, hw⟩
  | _ => exact hk.elim

theorem E_cases (l : List (Nat × AV)) (t : Nat) : E l t = .undef ∨ (t, E l t) ∈ l := by
  induction l with
  | nil => exact .inl rfl
  | cons p r ih =>
    obtain ⟨k, v⟩ := p
    simp only [E]
    by_cases h : t = k
    · subst h; simp
    · rw [if_neg h]
      rcases ih with ih | ih
      · exact .inl ih
      · exact .inr (List.mem_cons_of_mem _ ih)

/-- States in the form of lists: the one says no more than the other. -/
theorem Leads.E {l l' : List (Nat × AV)} {h h' : Heap} {nx nx' N : Nat} (hl : ∀ p ∈ l', E l p.1 = p.2) (hh : h' = h) (hnx : nx' = nx) : Leads ⟨Abs.E l, h, nx, N⟩ ⟨Abs.E l', h', nx', N⟩ := by
  subst hh hnx
  refine Weaker.leads ⟨fun t => ?_, fun _ => .inr rfl, rfl, rfl⟩
  rcases E_cases l' t with e | e
  · exact .inl e
  · exact .inr (hl _ e).symm
end
end Go.Abs
