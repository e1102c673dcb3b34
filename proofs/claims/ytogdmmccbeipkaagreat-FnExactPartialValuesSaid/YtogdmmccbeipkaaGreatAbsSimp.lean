/- The verification conditions' rules, a row each, all by unfolding: what simp runs. -/
import Derived.Test.YtogdmmccbeipkaaGreatAbsDefs
import Derived.Attr
set_option linter.all false
namespace Go.Abs
section
variable {P : Program} {T : Tab} {D : List (Nat × Nat)} {L : List Nat} {K : Exit → AS → Prop} {A : AS} {k : AS → Prop} {kv : AV → Prop} {ds : List (Option Tmp)} {dst : Option Tmp} {hp : Heap} {sz : Nat}

def kres (T : Tab) (A : AS) (K : AV → Heap → Nat → Prop) (r : List ResultVar) (acc : List AV) (v : AV) : Prop := aress T A K r (v :: acc)

theorem E_nil (t : Nat) : E [] t = .undef := _root_.id rfl
theorem E_cons (k : Nat) (v : AV) (r : List (Nat × AV)) (t : Nat) : E ((k, v) :: r) t = if t = k then v else E r t := _root_.id rfl
theorem Hp_nil (t : Nat) : Hp [] t = none := _root_.id rfl
theorem Hp_cons (k : Nat) (v : Blk) (r : List (Nat × Blk)) (t : Nat) : Hp ((k, v) :: r) t = if t = k then some v else Hp r t := _root_.id rfl
theorem lset_nil {α : Type} (t : Nat) (v : α) : lset [] t v = [(t, v)] := _root_.id rfl
theorem lset_cons {α : Type} (k : Nat) (u : α) (r : List (Nat × α)) (t : Nat) (v : α) : lset ((k, u) :: r) t v = if t = k then (k, v) :: r else (k, u) :: lset r t v := _root_.id rfl

theorem upd_E (l : List (Nat × AV)) (t : Nat) (v : AV) : upd (E l) t v = E (lset l t v) := by
  funext s
  induction l with
  | nil => simp [upd, lset, E]
  | cons p r ih =>
    obtain ⟨k, u⟩ := p
    simp only [upd, lset] at *
    by_cases h : t = k
    · subst h; simp only [if_true, E]; split <;> rfl
    · simp only [if_neg h, E]
      by_cases h2 : s = k
      · subst h2; simp [Ne.symm h]
      · simp only [if_neg h2]; exact ih

theorem upd_Hp (l : List (Nat × Blk)) (t : Nat) (v : Blk) : upd (Hp l) t (some v) = Hp (lset l t v) := by
  funext s
  induction l with
  | nil => simp [upd, lset, Hp]
  | cons p r ih =>
    obtain ⟨k, u⟩ := p
    simp only [upd, lset] at *
    by_cases h : t = k
    · subst h; simp only [if_true, Hp]; split <;> rfl
    · simp only [if_neg h, Hp]
      by_cases h2 : s = k
      · subst h2; simp [Ne.symm h]
      · simp only [if_neg h2]; exact ih

theorem put_some (l : List (Nat × AV)) (h : Heap) (nx N : Nat) (d : Tmp) (v : AV) : AS.put ⟨E l, h, nx, N⟩ (some d) v = ⟨E (lset l d v), h, nx, N⟩ := by
  simp only [AS.put, upd_E]
theorem put_none (A : AS) (v : AV) : AS.put A none v = A := _root_.id rfl
theorem hput_Hp (e : Nat → AV) (l : List (Nat × Blk)) (nx N n : Nat) (b : Blk) : AS.hput ⟨e, Hp l, nx, N⟩ n b = ⟨e, Hp (lset l n b), nx, N⟩ := by
  simp only [AS.hput, upd_Hp]
theorem alloc_Hp (e : Nat → AV) (l : List (Nat × Blk)) (nx N : Nat) (b : Blk) : AS.alloc ⟨e, Hp l, nx, N⟩ b = ⟨e, Hp (lset l nx b), nx + 1, N⟩ := by
  simp only [AS.alloc, upd_Hp]
theorem keep_E (l : List (Nat × AV)) (h : Heap) (nx N : Nat) (L : List Nat) : AS.keep ⟨E l, h, nx, N⟩ L = ⟨E (l.filter fun p => L.contains p.1), h, nx, N⟩ := by
  simp only [AS.keep, AS.mk.injEq, and_true]
  funext t
  induction l with
  | nil => simp [E]
  | cons p r ih =>
    obtain ⟨k, u⟩ := p
    simp only [E, List.filter_cons]
    by_cases hk : L.contains k = true
    · simp only [hk, if_true, E]
      by_cases h2 : t = k
      · subst h2; simp only [hk, if_true]
      · simp only [if_neg h2]; exact ih
    · simp only [hk, if_false, Bool.false_eq_true]
      by_cases h2 : t = k
      · subst h2; rw [← ih]; simp only [hk, if_false, Bool.false_eq_true]
      · simp only [if_neg h2]; exact ih

theorem ev_tmp (e : Nat → AV) (h : Heap) (nx N : Nat) (t : Tmp) : AS.ev ⟨e, h, nx, N⟩ (.tmp t) = e t := _root_.id rfl
theorem ev_const (A : AS) (v : Value) : A.ev (.const v) = ofConst v := _root_.id rfl
theorem ev_func (A : AS) (f : FuncId) : A.ev (.func f) = .fn (.func f) [] [] := _root_.id rfl
theorem ofConst_int (n : Int) : ofConst (.int .i64 n) = .int n := _root_.id rfl
theorem ofConst_bool (b : Bool) : ofConst (.bool b) = .bool b := _root_.id rfl
theorem ofConst_nils : ofConst (.slice none 0 0) = .nils := _root_.id rfl
theorem cells_int (n : Int) : AV.cells (.int n) = [.int n] := _root_.id rfl
theorem cells_bool (b : Bool) : AV.cells (.bool b) = [.bool b] := _root_.id rfl
theorem cells_nils : AV.cells .nils = [.nils] := _root_.id rfl
theorem cells_lst (es : List Cells) : AV.cells (.lst es) = [.lst es] := _root_.id rfl
theorem cells_sl (n t o l : Nat) : AV.cells (.sl n t o l) = [.sl n t o l] := _root_.id rfl
theorem cells_ptr (n t o l : Nat) : AV.cells (.ptr n t o l) = [.ptr n t o l] := _root_.id rfl
theorem cells_iptr (cs : Cells) : AV.cells (.iptr cs) = [.iptr cs] := _root_.id rfl
theorem cells_fn (f : Fn) (a c : Cells) : AV.cells (.fn f a c) = [.fn f a c] := _root_.id rfl
theorem cells_agg (cs : Cells) : AV.cells (.agg cs) = cs := _root_.id rfl
theorem isCell_int (n : Int) : AV.isCell (.int n) = true := _root_.id rfl
theorem isCell_bool (b : Bool) : AV.isCell (.bool b) = true := _root_.id rfl
theorem isCell_nils : AV.isCell .nils = true := _root_.id rfl
theorem isCell_lst (es : List Cells) : AV.isCell (.lst es) = true := _root_.id rfl
theorem isCell_sl (n t o l : Nat) : AV.isCell (.sl n t o l) = true := _root_.id rfl
theorem isCell_ptr (n t o l : Nat) : AV.isCell (.ptr n t o l) = true := _root_.id rfl
theorem isCell_iptr (cs : Cells) : AV.isCell (.iptr cs) = true := _root_.id rfl
theorem isCell_fn (f : Fn) (a c : Cells) : AV.isCell (.fn f a c) = true := _root_.id rfl
theorem storable_def (x : AV) : x.storable = x.cells.all AV.isCell := _root_.id rfl
theorem pickv_true (a b : AV) : pickv true a b = a := _root_.id rfl
theorem pickv_false (a b : AV) : pickv false a b = b := _root_.id rfl
theorem pickv_bool (t p q : Bool) : pickv t (.bool p) (.bool q) = .bool (bif t then p else q) := by cases t <;> rfl

theorem aw_skip : aw P T D L .skip K A = K .normal A := _root_.id rfl
def awReg (P : Program) (T : Tab) (L : List Nat) (K : Exit → AS → Prop) (l : List Oper) (A : AS) : Option Nat → Prop
  | none => aops P T (l.map (·.dst)) (kreg L K) l A
  | some t => aops P T (l.map (·.dst)) (kregR t L K) l A
theorem aw_region (id : Nat) (l : List Oper) : aw P T D L (.region id l.toArray false) K A = awReg P T L K l A (tailAt D id) := by
  simp only [aw]; cases tailAt D id <;> rfl
theorem awReg_none (l : List Oper) : awReg P T L K l A none = aops P T (l.map (·.dst)) (kreg L K) l A := _root_.id rfl
theorem awReg_some (l : List Oper) (t : Nat) : awReg P T L K l A (some t) = aops P T (l.map (·.dst)) (kregR t L K) l A := _root_.id rfl
theorem kregR_def (t : Nat) : kregR t L K A = arest t (K .normal) (A.keep L) := _root_.id rfl
theorem arest_def (t : Nat) (e : Nat → AV) (h : Heap) (nx N : Nat) : arest t k ⟨e, h, nx, N⟩ = arestV t k ⟨e, h, nx, N⟩ (e t) := _root_.id rfl
theorem arestV_ptr (t n : Nat) (e : Nat → AV) (h : Heap) (nx N : Nat) : arestV t k ⟨e, h, nx, N⟩ (.ptr n 1 0 0) = arestB t n k ⟨e, h, nx, N⟩ (h n) := _root_.id rfl
theorem arestB_some (t n m : Nat) (cs : Cells) (e : Nat → AV) (h : Heap) (nx N : Nat) : arestB t n k ⟨e, h, nx, N⟩ (some ⟨m, [cs]⟩) = (AV.pureL cs = true ∧ k ⟨upd e t (.iptr cs), upd h n none, nx, N⟩) := _root_.id rfl
def ldel {α : Type} : List (Nat × α) → Nat → List (Nat × α)
  | [], _ => []
  | (k, v) :: r, t => if t = k then ldel r t else (k, v) :: ldel r t
theorem ldel_nil {α : Type} (t : Nat) : ldel ([] : List (Nat × α)) t = [] := _root_.id rfl
theorem ldel_cons {α : Type} (k : Nat) (v : α) (r : List (Nat × α)) (t : Nat) : ldel ((k, v) :: r) t = if t = k then ldel r t else (k, v) :: ldel r t := _root_.id rfl
theorem upd_Hp_none (l : List (Nat × Blk)) (t : Nat) : upd (Hp l) t none = Hp (ldel l t) := by
  induction l with
  | nil => funext m; simp [upd, Hp, ldel]
  | cons p l ih =>
    obtain ⟨k, v⟩ := p
    funext m
    have ih := congrFun ih m
    simp only [upd, ldel] at ih ⊢
    by_cases h1 : t = k
    · rw [if_pos h1]
      by_cases h2 : m = t
      · rw [if_pos h2] at ih ⊢; exact ih
      · rw [if_neg h2] at ih ⊢
        rw [← ih]
        simp only [Hp]; rw [if_neg (by omega)]
    · rw [if_neg h1]
      simp only [Hp]
      by_cases h2 : m = t
      · rw [if_pos h2] at ih ⊢; rw [if_neg (by omega)]; exact ih
      · rw [if_neg h2] at ih ⊢; rw [ih]
def awDraw (P : Program) (T : Tab) (l : List Oper) (k : AS → Prop) (A : AS) : Option Nat → Prop
  | none => aopsQ P T (l.map (·.dst)) k l A
  | some 0 => aopsM P T (l.map (·.dst)) k l A
  | some n => if 1000 ≤ n then aslotV (fun n0 => aopsS P T n0 (l.map (·.dst)) k l A) A (A.env (n - 1000)) else aopsQ P T (l.map (·.dst)) (aops P T (l.map (·.dst)) k (l.drop n)) (l.take n) A
theorem aw_draw (id : Nat) (l : List Oper) : aw P T D L (.region id l.toArray true) K A = awDraw P T l (kreg L K) A (tailAt D id) := by
  simp only [aw, awDraw]; rcases tailAt D id with _ | _ | _ <;> rfl
theorem awDraw_none (l : List Oper) : awDraw P T l k A none = aopsQ P T (l.map (·.dst)) k l A := _root_.id rfl
theorem awDraw_some (l : List Oper) (n : Nat) (hn : n ≠ 0) (hs : ¬ 1000 ≤ n) : awDraw P T l k A (some n) = aopsQ P T (l.map (·.dst)) (aops P T (l.map (·.dst)) k (l.drop n)) (l.take n) A := by
  cases n with
  | zero => exact absurd rfl hn
  | succ n => exact if_neg hs
theorem awDraw_slot (l : List Oper) (n : Nat) (hs : 1000 ≤ n) : awDraw P T l k A (some n) = aslotV (fun n0 => aopsS P T n0 (l.map (·.dst)) k l A) A (A.env (n - 1000)) := by
  cases n with
  | zero => omega
  | succ n => exact if_pos hs
theorem aslotV_ptr {K : Nat → Prop} (n tip i j : Nat) : aslotV K A (.ptr n tip i j) = ((A.heap n).isSome = true ∧ K n) := _root_.id rfl
theorem aopsS_nil (n0 : Nat) : aopsS P T n0 ds k [] A = k A := _root_.id rfl
theorem aopsS_cons (n0 : Nat) (d : Option Tmp) (op : Op) (t : TypeId) (p : String) (af : Array Edge) (r : List Oper) :
    aopsS P T n0 ds k (⟨d, op, t, p, af, none⟩ :: r) A = aopS P T n0 d op (aopsS P T n0 ds k r) A := _root_.id rfl
theorem aopsS_guard (n0 : Nat) (d : Option Tmp) (op : Op) (t : TypeId) (p : String) (af : Array Edge) (g : Nat × Bool) (r : List Oper) :
    aopsS P T n0 ds k (⟨d, op, t, p, af, some g⟩ :: r) A = awhen (awant ds (some g) A) (aopS P T n0 d op (aopsS P T n0 ds k r)) (askip d (aopsS P T n0 ds k r)) A := _root_.id rfl
theorem onName_ptr (n m tip i j : Nat) : onName n (.ptr m tip i j) = (m = n) := _root_.id rfl
theorem awDraw_zero (l : List Oper) : awDraw P T l k A (some 0) = aopsM P T (l.map (·.dst)) k l A := _root_.id rfl
theorem aopsM_nil : aopsM P T ds k [] A = k A := _root_.id rfl
theorem aopsM_cons (d : Option Tmp) (op : Op) (t : TypeId) (p : String) (af : Array Edge) (r : List Oper) :
    aopsM P T ds k (⟨d, op, t, p, af, none⟩ :: r) A = aopM P T d op (aopsM P T ds k r) A := _root_.id rfl
theorem aopsM_guard (d : Option Tmp) (op : Op) (t : TypeId) (p : String) (af : Array Edge) (g : Nat × Bool) (r : List Oper) :
    aopsM P T ds k (⟨d, op, t, p, af, some g⟩ :: r) A = awhen (awant ds (some g) A) (aopM P T d op (aopsM P T ds k r)) (askip d (aopsM P T ds k r)) A := _root_.id rfl
theorem tailAt_nil (id : Nat) : tailAt [] id = none := _root_.id rfl
theorem tailAt_cons (k n id : Nat) (r : List (Nat × Nat)) : tailAt ((k, n) :: r) id = if id = k then some n else tailAt r id := _root_.id rfl
theorem aw_seq (x y : Code) : aw P T D L (.seq x y) K A = aw P T D L x (kseq (aw P T D L y K) K) A := _root_.id rfl
theorem aw_cond (c : Operand) (x y : Code) : aw P T D L (.cond c x y) K A = acond (A.ev c) (aw P T D L x K) (aw P T D L y K) A := _root_.id rfl
theorem aw_block (id : Nat) (c : Code) : aw P T D L (.block id c) K A = aw P T D L c (kblock id K) A := _root_.id rfl
theorem aw_loop (c : Code) : aw P T D L (.loop c) K A = ALoop (aw P T D L c) K A := _root_.id rfl
theorem aw_exit (id : Nat) : aw P T D L (.exit id) K A = K (.exit id) A := _root_.id rfl
theorem aw_ret : aw P T D L .ret K A = K .ret A := _root_.id rfl
theorem acond_true (x y : AS → Prop) : acond (.bool true) x y A = x A := _root_.id rfl
theorem acond_false (x y : AS → Prop) : acond (.bool false) x y A = y A := _root_.id rfl
theorem kseq_normal : kseq k K .normal A = k A := _root_.id rfl
theorem kseq_ret : kseq k K .ret A = K .ret A := _root_.id rfl
theorem kseq_exit (id : Nat) : kseq k K (.exit id) A = K (.exit id) A := _root_.id rfl
theorem kreg_def : kreg L K A = K .normal (A.keep L) := _root_.id rfl
theorem kblock_exit (id id' : Nat) : kblock id K (.exit id') A = if id' = id then K .normal A else K (.exit id') A := _root_.id rfl
theorem kblock_normal (id : Nat) : kblock id K .normal A = K .normal A := _root_.id rfl
theorem kblock_ret (id : Nat) : kblock id K .ret A = K .ret A := _root_.id rfl

theorem aops_nil : aops P T ds k [] A = k A := _root_.id rfl
theorem aops_cons (d : Option Tmp) (op : Op) (t : TypeId) (p : String) (af : Array Edge) (r : List Oper) :
    aops P T ds k (⟨d, op, t, p, af, none⟩ :: r) A = aop P T d op (aops P T ds k r) A := _root_.id rfl
theorem aops_guard (d : Option Tmp) (op : Op) (t : TypeId) (p : String) (af : Array Edge) (g : Nat × Bool) (r : List Oper) :
    aops P T ds k (⟨d, op, t, p, af, some g⟩ :: r) A = awhen (awant ds (some g) A) (aop P T d op (aops P T ds k r)) (askip d (aops P T ds k r)) A := _root_.id rfl
theorem aopsQ_nil : aopsQ P T ds k [] A = k A := _root_.id rfl
theorem aopsQ_cons (d : Option Tmp) (op : Op) (t : TypeId) (p : String) (af : Array Edge) (r : List Oper) :
    aopsQ P T ds k (⟨d, op, t, p, af, none⟩ :: r) A = aopQ P T d op (aopsQ P T ds k r) A := _root_.id rfl
theorem aopsQ_guard (d : Option Tmp) (op : Op) (t : TypeId) (p : String) (af : Array Edge) (g : Nat × Bool) (r : List Oper) :
    aopsQ P T ds k (⟨d, op, t, p, af, some g⟩ :: r) A = awhen (awant ds (some g) A) (aopQ P T d op (aopsQ P T ds k r)) (askip d (aopsQ P T ds k r)) A := _root_.id rfl
theorem awant_some (j : Nat) (want : Bool) : awant ds (some (j, want)) A = awantD want A ds[j]? := _root_.id rfl
theorem awantD_some (want : Bool) (e : Nat → AV) (h : Heap) (nx N : Nat) (t : Tmp) : awantD want ⟨e, h, nx, N⟩ (some (some t)) = awantV want t (e t) := _root_.id rfl
theorem awantV_bool (want b : Bool) (t : Tmp) : awantV want t (.bool b) = .ask t b want := _root_.id rfl
theorem awantV_tup (want : Bool) (t : Tmp) (vs : List AV) : awantV want t (.tup vs) = .no := _root_.id rfl
theorem awhen_yes (y n : AS → Prop) : awhen .yes y n A = y A := _root_.id rfl
theorem awhen_no (y n : AS → Prop) : awhen .no y n A = n A := _root_.id rfl
theorem awhen_ask (y n : AS → Prop) (t : Tmp) (b want : Bool) : awhen (.ask t b want) y n A = aask t b want y n A := _root_.id rfl
theorem aask_tt (y n : AS → Prop) (t : Tmp) : aask t true true y n A = y (A.put (some t) (.bool true)) := _root_.id rfl
theorem aask_ff (y n : AS → Prop) (t : Tmp) : aask t false false y n A = y (A.put (some t) (.bool false)) := _root_.id rfl
theorem aask_tf (y n : AS → Prop) (t : Tmp) : aask t true false y n A = n (A.put (some t) (.bool true)) := _root_.id rfl
theorem aask_ft (y n : AS → Prop) (t : Tmp) : aask t false true y n A = n (A.put (some t) (.bool false)) := _root_.id rfl
theorem askip_def : askip dst k A = k (A.put dst (.tup [])) := _root_.id rfl

theorem aop_move (x : Operand) : aop P T dst (.move x) k A = k (A.put dst (A.ev x)) := _root_.id rfl
theorem aop_assign (x : Operand) : aop P T dst (.assign x) k A = k (A.put dst (A.ev x)) := _root_.id rfl
theorem aop_pick (c a b : Operand) : aop P T dst (.pick c a b) k A = apick (A.ev c) (A.ev a) (A.ev b) (kput dst A k) := _root_.id rfl
theorem aop_binOp (op : BinOp) (x y : Operand) (t u : TypeId) : aop P T dst (.binOp op t x y u) k A = abinN (T t).kind op (A.ev x) (A.ev y) (kput dst A k) := _root_.id rfl
theorem aop_unOp (op : UnOp) (x : Operand) (t : TypeId) : aop P T dst (.unOp op t x) k A = aun op (A.ev x) (kput dst A k) := _root_.id rfl
theorem aop_load (t : TypeId) (x : Operand) : aop P T dst (.load t x) k A = aload T A t (A.ev x) (kput dst A k) := _root_.id rfl
theorem aop_fieldAddr (s : TypeId) (x : Operand) (f : Nat) : aop P T dst (.fieldAddr s x f) k A = afieldAddr A.heap (T s).fields[f]? (A.ev x) (kput dst A k) := _root_.id rfl
theorem aop_field (s : TypeId) (x : Operand) (f : Nat) : aop P T dst (.field s x f) k A = afield T (T s).fields[f]? (A.ev x) (kput dst A k) := _root_.id rfl
theorem aop_indexAddr (t : TypeId) (x i : Operand) : aop P T dst (.indexAddr t x i) k A = aindexAddr T A t (A.ev x) (A.ev i) (kput dst A k) := _root_.id rfl
theorem aop_slice (t : TypeId) (x : Operand) (lo hi : Option Operand) : aop P T dst (.slice t x lo hi none) k A = aslice A.heap (T (T t).elem).size (A.ev x) (lo.map A.ev) (hi.map A.ev) (kput dst A k) := _root_.id rfl
theorem aop_nilCheck (x : Operand) : aop P T dst (.nilCheck x) k A = anil A.heap (A.ev x) (kput dst A k) := _root_.id rfl
theorem aop_extract (x : Operand) (i : Nat) : aop P T dst (.extract x i) k A = aextract (A.ev x) i (kput dst A k) := _root_.id rfl
theorem aop_makeFunc (f : Fn) (a c : List Operand) : aop P T dst (.makeFunc f a.toArray c.toArray) k A = k (A.put dst (.fn f (a.map A.ev) (c.map A.ev))) := _root_.id rfl
theorem aop_build (t : TypeId) (ps : List (Nat × Operand)) : aop P T dst (.build t ps.toArray) k A = abuild T (T t).fields (ps.map fun p => (p.1, A.ev p.2)) (T t).zero (kput dst A k) := _root_.id rfl
theorem aop_alloc (t : TypeId) : aop P T dst (.alloc t) k A = k ((A.alloc ⟨(T t).size, [(T t).zero]⟩).put dst (.ptr A.nx 1 0 0)) := _root_.id rfl
theorem aop_box (t : TypeId) (x : Operand) : aop P T dst (.box t x) k A = (((A.ev x).cells.length = (T t).size ∧ (A.ev x).storable = true) ∧ k ((A.alloc ⟨(T t).size, [(A.ev x).cells]⟩).put dst (.ptr A.nx 1 0 0))) := _root_.id rfl
theorem aop_buildSlice0 (t : TypeId) (n : Nat) : aop P T dst (.buildSlice t n #[]) k A = k ((A.alloc ⟨(T (T t).elem).size, []⟩).put dst (.sl A.nx n 0 n)) := _root_.id rfl
theorem aop_buildSlice (t : TypeId) (n : Nat) (p : Nat × Operand) (ps : List (Nat × Operand)) : aop P T dst (.buildSlice t n (p :: ps).toArray) k A = aslit T t ((p :: ps).map fun p => A.ev p.2) (kput dst A k) := _root_.id rfl
theorem aop_makeSlice (t : TypeId) (l c : Operand) : aop P T dst (.makeSlice t l c) k A = amake (T (T t).elem).size (T (T t).elem).zero A (A.ev l) dst k := _root_.id rfl
theorem aop_store (t : TypeId) (p x : Operand) : aop P T dst (.store t p x) k A = astore (T t).size A (A.ev p) (A.ev x) dst k := _root_.id rfl
theorem aop_append (s x : Operand) (t : TypeId) (ts : List TypeId) : aop P T dst (.call ⟨.builtin .append, #[s, x], (t :: ts).toArray⟩) k A = aelems A (A.ev x) (aappTo (T (T t).elem).size A (A.ev s) dst k) := _root_.id rfl
theorem aop_len (x : Operand) (ts : Array TypeId) : aop P T dst (.call ⟨.builtin .len, #[x], ts⟩) k A = alen (A.ev x) (kput dst A k) := _root_.id rfl
theorem aop_max (x y : Operand) (ts : Array TypeId) : aop P T dst (.call ⟨.builtin .max, #[x, y], ts⟩) k A = abuiltin .max [A.ev x, A.ev y] (kput dst A k) := _root_.id rfl
theorem aop_min (x y : Operand) (ts : Array TypeId) : aop P T dst (.call ⟨.builtin .min, #[x, y], ts⟩) k A = abuiltin .min [A.ev x, A.ev y] (kput dst A k) := _root_.id rfl
theorem aop_call (f : Operand) (xs : List Operand) (ts : Array TypeId) : aop P T dst (.call ⟨.value f, xs.toArray, ts⟩) k A = acall P (A.ev f) (xs.map A.ev) dst A k := _root_.id rfl
theorem acall_fn (g : FuncId) (a c args : List AV) : acall P (.fn (.func g) a c) args dst A k = CallsA P g (a ++ (args ++ c)) A.heap A.nx (kcall dst A k) := _root_.id rfl

theorem aopQ_move (x : Operand) : aopQ P T dst (.move x) k A = k (A.put dst (A.ev x)) := _root_.id rfl
theorem aopQ_assign (x : Operand) : aopQ P T dst (.assign x) k A = k (A.put dst (A.ev x)) := _root_.id rfl
theorem aopQ_pick (c a b : Operand) : aopQ P T dst (.pick c a b) k A = apick (A.ev c) (A.ev a) (A.ev b) (kput dst A k) := _root_.id rfl
theorem aopQ_binOp (op : BinOp) (x y : Operand) (t u : TypeId) : aopQ P T dst (.binOp op t x y u) k A = abin (T t).kind op (A.ev x) (A.ev y) (kput dst A k) := _root_.id rfl
theorem aopQ_unOp (op : UnOp) (x : Operand) (t : TypeId) : aopQ P T dst (.unOp op t x) k A = aun op (A.ev x) (kput dst A k) := _root_.id rfl
theorem aopQ_load (t : TypeId) (x : Operand) : aopQ P T dst (.load t x) k A = aload T A t (A.ev x) (kput dst A k) := _root_.id rfl
theorem aopQ_fieldAddr (s : TypeId) (x : Operand) (f : Nat) : aopQ P T dst (.fieldAddr s x f) k A = afieldAddr A.heap (T s).fields[f]? (A.ev x) (kput dst A k) := _root_.id rfl
theorem aopQ_field (s : TypeId) (x : Operand) (f : Nat) : aopQ P T dst (.field s x f) k A = afield T (T s).fields[f]? (A.ev x) (kput dst A k) := _root_.id rfl
theorem aopQ_indexAddr (t : TypeId) (x i : Operand) : aopQ P T dst (.indexAddr t x i) k A = aindexAddr T A t (A.ev x) (A.ev i) (kput dst A k) := _root_.id rfl
theorem aopQ_slice (t : TypeId) (x : Operand) (lo hi : Option Operand) : aopQ P T dst (.slice t x lo hi none) k A = aslice A.heap (T (T t).elem).size (A.ev x) (lo.map A.ev) (hi.map A.ev) (kput dst A k) := _root_.id rfl
theorem aopQ_nilCheck (x : Operand) : aopQ P T dst (.nilCheck x) k A = anil A.heap (A.ev x) (kput dst A k) := _root_.id rfl
theorem aopQ_extract (x : Operand) (i : Nat) : aopQ P T dst (.extract x i) k A = aextract (A.ev x) i (kput dst A k) := _root_.id rfl
theorem aopQ_makeFunc (f : Fn) (a c : List Operand) : aopQ P T dst (.makeFunc f a.toArray c.toArray) k A = k (A.put dst (.fn f (a.map A.ev) (c.map A.ev))) := _root_.id rfl
theorem aopQ_build (t : TypeId) (ps : List (Nat × Operand)) : aopQ P T dst (.build t ps.toArray) k A = abuild T (T t).fields (ps.map fun p => (p.1, A.ev p.2)) (T t).zero (kput dst A k) := _root_.id rfl
theorem aopQ_len (x : Operand) (ts : Array TypeId) : aopQ P T dst (.call ⟨.builtin .len, #[x], ts⟩) k A = alen (A.ev x) (kput dst A k) := _root_.id rfl
theorem aopQ_max (x y : Operand) (ts : Array TypeId) : aopQ P T dst (.call ⟨.builtin .max, #[x, y], ts⟩) k A = abuiltin .max [A.ev x, A.ev y] (kput dst A k) := _root_.id rfl
theorem aopQ_min (x y : Operand) (ts : Array TypeId) : aopQ P T dst (.call ⟨.builtin .min, #[x, y], ts⟩) k A = abuiltin .min [A.ev x, A.ev y] (kput dst A k) := _root_.id rfl
theorem aopQ_call (f : Operand) (xs : List Operand) (ts : Array TypeId) : aopQ P T dst (.call ⟨.value f, xs.toArray, ts⟩) k A = acallQ P (A.ev f) (xs.map A.ev) dst A k := _root_.id rfl
theorem acallQ_fn (g : FuncId) (a c args : List AV) : acallQ P (.fn (.func g) a c) args dst A k = (∃ r, CallsQ P g (a ++ (args ++ c)) A.heap A.nx r ∧ kput dst A k r) := _root_.id rfl

theorem aopQ_buildSlice (t : TypeId) (n : Nat) (ps : List (Nat × Operand)) : aopQ P T dst (.buildSlice t n ps.toArray) k A = aslit T t (ps.map fun p => A.ev p.2) (kput dst A k) := _root_.id rfl
theorem aopM_buildSlice (t : TypeId) (n : Nat) (ps : List (Nat × Operand)) : aopM P T dst (.buildSlice t n ps.toArray) k A = aslit T t (ps.map fun p => A.ev p.2) (kput dst A k) := _root_.id rfl
theorem aslit_def (t : TypeId) (xs : List AV) : aslit T t xs kv = (((∀ x ∈ xs, x.cells.length = (T (T t).elem).size ∧ x.storable = true) ∧ AV.pureE (xs.map AV.cells) = true) ∧ kv (.lst (xs.map AV.cells))) := _root_.id rfl
def robust (T : Tab) (op : Op) (dst : Option Tmp) (A : AS) (k : AS → Prop) : Prop := ∃ av, (∀ hp nx, aev T op { A with heap := hp, nx := nx } fun u => u = av) ∧ kput dst A k av
theorem aopM_move (x : Operand) : aopM P T dst (.move x) k A = k (A.put dst (A.ev x)) := by
  apply propext; constructor
  · rintro ⟨av, h1, h2⟩; have h := h1 A.heap A.nx; simp only [aev] at h; exact h ▸ h2
  · intro h; exact ⟨A.ev x, fun hp nx => by cases x <;> rfl, h⟩
theorem aopM_assign (x : Operand) : aopM P T dst (.assign x) k A = k (A.put dst (A.ev x)) := by
  apply propext; constructor
  · rintro ⟨av, h1, h2⟩; have h := h1 A.heap A.nx; simp only [aev] at h; exact h ▸ h2
  · intro h; exact ⟨A.ev x, fun hp nx => by cases x <;> rfl, h⟩
theorem ev_heap (A : AS) (hp : Heap) (nx : Nat) (x : Operand) : AS.ev { A with heap := hp, nx := nx } x = A.ev x := by cases x <;> rfl
theorem aopM_pick (c a b : Operand) : aopM P T dst (.pick c a b) k A = ∃ av, (∀ (_hp : Heap) (_nx : Nat), apick (A.ev c) (A.ev a) (A.ev b) fun u => u = av) ∧ kput dst A k av := by simp only [aopM, isT, aev, ev_heap]
theorem aopM_binOp (op : BinOp) (x y : Operand) (t u : TypeId) : aopM P T dst (.binOp op t x y u) k A = ∃ av, (∀ (_hp : Heap) (_nx : Nat), abin (T t).kind op (A.ev x) (A.ev y) fun u => u = av) ∧ kput dst A k av := by simp only [aopM, isT, aev, ev_heap]
theorem aopM_unOp (op : UnOp) (x : Operand) (t : TypeId) : aopM P T dst (.unOp op t x) k A = ∃ av, (∀ (_hp : Heap) (_nx : Nat), aun op (A.ev x) fun u => u = av) ∧ kput dst A k av := by simp only [aopM, isT, aev, ev_heap]
theorem aopM_load (t : TypeId) (x : Operand) : aopM P T dst (.load t x) k A = ∃ av, (∀ hp nx, aload T { A with heap := hp, nx := nx } t (A.ev x) fun u => u = av) ∧ kput dst A k av := by simp only [aopM, isT, aev, ev_heap]
theorem aopM_fieldAddr (s : TypeId) (x : Operand) (f : Nat) : aopM P T dst (.fieldAddr s x f) k A = ∃ av, (∀ (hp : Heap) (_nx : Nat), afieldAddr hp (T s).fields[f]? (A.ev x) fun u => u = av) ∧ kput dst A k av := by simp only [aopM, isT, aev, ev_heap]
theorem aopM_field (s : TypeId) (x : Operand) (f : Nat) : aopM P T dst (.field s x f) k A = ∃ av, (∀ (_hp : Heap) (_nx : Nat), afield T (T s).fields[f]? (A.ev x) fun u => u = av) ∧ kput dst A k av := by simp only [aopM, isT, aev, ev_heap]
theorem aopM_indexAddr (t : TypeId) (x i : Operand) : aopM P T dst (.indexAddr t x i) k A = ∃ av, (∀ hp nx, aindexAddr T { A with heap := hp, nx := nx } t (A.ev x) (A.ev i) fun u => u = av) ∧ kput dst A k av := by simp only [aopM, isT, aev, ev_heap]
theorem aopM_slice (t : TypeId) (x : Operand) (lo hi : Option Operand) : aopM P T dst (.slice t x lo hi none) k A = ∃ av, (∀ (hp : Heap) (_nx : Nat), aslice hp (T (T t).elem).size (A.ev x) (lo.map A.ev) (hi.map A.ev) fun u => u = av) ∧ kput dst A k av := by
  have e : ∀ (hp : Heap) (nx : Nat) (o : Option Operand), o.map (AS.ev { A with heap := hp, nx := nx }) = o.map A.ev := fun hp nx o => by cases o <;> simp [ev_heap]
  simp only [aopM, isT, aev, ev_heap, e]
theorem aopM_nilCheck (x : Operand) : aopM P T dst (.nilCheck x) k A = ∃ av, (∀ (hp : Heap) (_nx : Nat), anil hp (A.ev x) fun u => u = av) ∧ kput dst A k av := by simp only [aopM, isT, aev, ev_heap]
theorem aopM_extract (x : Operand) (i : Nat) : aopM P T dst (.extract x i) k A = ∃ av, (∀ (_hp : Heap) (_nx : Nat), aextract (A.ev x) i fun u => u = av) ∧ kput dst A k av := by simp only [aopM, isT, aev, ev_heap]
theorem aopM_len (x : Operand) (ts : Array TypeId) : aopM P T dst (.call ⟨.builtin .len, #[x], ts⟩) k A = ∃ av, (∀ (_hp : Heap) (_nx : Nat), alen (A.ev x) fun u => u = av) ∧ kput dst A k av := by simp only [aopM, isT, aev, ev_heap, abuiltin, List.map]
theorem aopM_alloc (t : TypeId) : aopM P T dst (.alloc t) k A = aop P T dst (.alloc t) k A := _root_.id rfl
theorem aopM_box (t : TypeId) (x : Operand) : aopM P T dst (.box t x) k A = aop P T dst (.box t x) k A := _root_.id rfl
theorem aopM_store (t : TypeId) (p x : Operand) : aopM P T dst (.store t p x) k A = aop P T dst (.store t p x) k A := _root_.id rfl
theorem aopM_append (s x : Operand) (t : TypeId) (ts : List TypeId) : aopM P T dst (.call ⟨.builtin .append, #[s, x], (t :: ts).toArray⟩) k A = aop P T dst (.call ⟨.builtin .append, #[s, x], (t :: ts).toArray⟩) k A := _root_.id rfl
theorem aopM_call (f : Operand) (xs : List Operand) (ts : Array TypeId) : aopM P T dst (.call ⟨.value f, xs.toArray, ts⟩) k A = acallD P (A.ev f) (xs.map A.ev) dst A k := _root_.id rfl
theorem acallD_fn (g : FuncId) (a c args : List AV) : acallD P (.fn (.func g) a c) args dst A k = (∃ r h n, CallsA P g (a ++ (args ++ c)) A.heap A.nx (fun r' h' n' => r' = r ∧ h' = h ∧ n' = n) ∧ kcall dst A k r h n) := _root_.id rfl

theorem ev_heapS (A : AS) (hp : Heap) (x : Operand) : AS.ev { A with heap := hp } x = A.ev x := by cases x <;> rfl
theorem aopS_move (n0 : Nat) (x : Operand) : aopS P T n0 dst (.move x) k A = k (A.put dst (A.ev x)) := by
  apply propext; constructor
  · rintro ⟨av, h1, h2⟩; have h := h1 ⟨0, []⟩; simp only [aev, ev_heapS] at h; exact h ▸ h2
  · intro h; exact ⟨A.ev x, fun b => by cases x <;> rfl, h⟩
theorem aopS_assign (n0 : Nat) (x : Operand) : aopS P T n0 dst (.assign x) k A = k (A.put dst (A.ev x)) := by
  apply propext; constructor
  · rintro ⟨av, h1, h2⟩; have h := h1 ⟨0, []⟩; simp only [aev, ev_heapS] at h; exact h ▸ h2
  · intro h; exact ⟨A.ev x, fun b => by cases x <;> rfl, h⟩
theorem aopS_pick (n0 : Nat) (c a b : Operand) : aopS P T n0 dst (.pick c a b) k A = ∃ av, (∀ _b : Blk, apick (A.ev c) (A.ev a) (A.ev b) fun u => u = av) ∧ kput dst A k av := by simp only [aopS, aev, ev_heapS]
theorem aopS_binOp (n0 : Nat) (op : BinOp) (x y : Operand) (t u : TypeId) : aopS P T n0 dst (.binOp op t x y u) k A = ∃ av, (∀ _b : Blk, abin (T t).kind op (A.ev x) (A.ev y) fun u => u = av) ∧ kput dst A k av := by simp only [aopS, aev, ev_heapS]
theorem aopS_unOp (n0 : Nat) (op : UnOp) (x : Operand) (t : TypeId) : aopS P T n0 dst (.unOp op t x) k A = ∃ av, (∀ _b : Blk, aun op (A.ev x) fun u => u = av) ∧ kput dst A k av := by simp only [aopS, aev, ev_heapS]
theorem aopS_load (n0 : Nat) (t : TypeId) (x : Operand) : aopS P T n0 dst (.load t x) k A = ∃ av, (∀ b : Blk, aload T { A with heap := upd A.heap n0 (some b) } t (A.ev x) fun u => u = av) ∧ kput dst A k av := by simp only [aopS, aev, ev_heapS]
theorem aopS_fieldAddr (n0 : Nat) (s : TypeId) (x : Operand) (f : Nat) : aopS P T n0 dst (.fieldAddr s x f) k A = ∃ av, (∀ b : Blk, afieldAddr (upd A.heap n0 (some b)) (T s).fields[f]? (A.ev x) fun u => u = av) ∧ kput dst A k av := by simp only [aopS, aev, ev_heapS]
theorem aopS_field (n0 : Nat) (s : TypeId) (x : Operand) (f : Nat) : aopS P T n0 dst (.field s x f) k A = ∃ av, (∀ _b : Blk, afield T (T s).fields[f]? (A.ev x) fun u => u = av) ∧ kput dst A k av := by simp only [aopS, aev, ev_heapS]
theorem aopS_indexAddr (n0 : Nat) (t : TypeId) (x i : Operand) : aopS P T n0 dst (.indexAddr t x i) k A = ∃ av, (∀ b : Blk, aindexAddr T { A with heap := upd A.heap n0 (some b) } t (A.ev x) (A.ev i) fun u => u = av) ∧ kput dst A k av := by simp only [aopS, aev, ev_heapS]
theorem aopS_slice (n0 : Nat) (t : TypeId) (x : Operand) (lo hi : Option Operand) : aopS P T n0 dst (.slice t x lo hi none) k A = ∃ av, (∀ b : Blk, aslice (upd A.heap n0 (some b)) (T (T t).elem).size (A.ev x) (lo.map A.ev) (hi.map A.ev) fun u => u = av) ∧ kput dst A k av := by
  have e : ∀ (b : Blk) (o : Option Operand), o.map (AS.ev { A with heap := upd A.heap n0 (some b) }) = o.map A.ev := fun b o => by cases o <;> simp [ev_heapS]
  simp only [aopS, aev, ev_heapS, e]
theorem aopS_nilCheck (n0 : Nat) (x : Operand) : aopS P T n0 dst (.nilCheck x) k A = ∃ av, (∀ b : Blk, anil (upd A.heap n0 (some b)) (A.ev x) fun u => u = av) ∧ kput dst A k av := by simp only [aopS, aev, ev_heapS]
theorem aopS_extract (n0 : Nat) (x : Operand) (i : Nat) : aopS P T n0 dst (.extract x i) k A = ∃ av, (∀ _b : Blk, aextract (A.ev x) i fun u => u = av) ∧ kput dst A k av := by simp only [aopS, aev, ev_heapS]
theorem aopS_len (n0 : Nat) (x : Operand) (ts : Array TypeId) : aopS P T n0 dst (.call ⟨.builtin .len, #[x], ts⟩) k A = ∃ av, (∀ _b : Blk, alen (A.ev x) fun u => u = av) ∧ kput dst A k av := by simp only [aopS, aev, ev_heapS, abuiltin, List.map]
theorem aopS_store (n0 : Nat) (t : TypeId) (p x : Operand) : aopS P T n0 dst (.store t p x) k A = (onName n0 (A.ev p) ∧ aop P T dst (.store t p x) k A) := _root_.id rfl
theorem aopS_call (n0 : Nat) (f : Operand) (xs : List Operand) (ts : Array TypeId) : aopS P T n0 dst (.call ⟨.value f, xs.toArray, ts⟩) k A = acallS P n0 (A.ev f) (xs.map A.ev) dst A k := _root_.id rfl
theorem acallS_fn (n0 : Nat) (g : FuncId) (a c args : List AV) : acallS P n0 (.fn (.func g) a c) args dst A k = (∃ r, (∀ b : Blk, CallsQ P g (a ++ (args ++ c)) (upd A.heap n0 (some b)) A.nx r) ∧ kput dst A k r) := _root_.id rfl
theorem kput_def (v : AV) : kput dst A k v = k (A.put dst v) := _root_.id rfl
theorem kcall_def (e : Nat → AV) (h h' : Heap) (nx nx' N : Nat) (r : AV) : kcall dst ⟨e, h, nx, N⟩ k r h' nx' = k (AS.put ⟨e, h', nx', N⟩ dst r) := _root_.id rfl

theorem abin_add (kd : TK) (a b : Int) : abin kd .add (.int a) (.int b) kv = (InR (a + b) ∧ kv (.int (a + b))) := _root_.id rfl
theorem abin_sub (kd : TK) (a b : Int) : abin kd .sub (.int a) (.int b) kv = (InR (a - b) ∧ kv (.int (a - b))) := _root_.id rfl
theorem abin_mul (kd : TK) (a b : Int) : abin kd .mul (.int a) (.int b) kv = (InR (a * b) ∧ kv (.int (a * b))) := _root_.id rfl
theorem abin_eql (kd : TK) (a b : Int) : abin kd .eql (.int a) (.int b) kv = kv (.bool (decide (a = b))) := _root_.id rfl
theorem abin_neq (kd : TK) (a b : Int) : abin kd .neq (.int a) (.int b) kv = kv (.bool (!decide (a = b))) := _root_.id rfl
theorem abin_lss (kd : TK) (a b : Int) : abin kd .lss (.int a) (.int b) kv = kv (.bool (decide (a < b))) := _root_.id rfl
theorem abin_leq (kd : TK) (a b : Int) : abin kd .leq (.int a) (.int b) kv = kv (.bool (decide (a ≤ b))) := _root_.id rfl
theorem abin_gtr (kd : TK) (a b : Int) : abin kd .gtr (.int a) (.int b) kv = kv (.bool (decide (b < a))) := _root_.id rfl
theorem abin_geq (kd : TK) (a b : Int) : abin kd .geq (.int a) (.int b) kv = kv (.bool (decide (b ≤ a))) := _root_.id rfl
theorem abin_shl (kd : TK) (a b : Int) : abin kd .shl (.int a) (.int b) kv = (0 ≤ b ∧ kv (.int (shlI a b))) := _root_.id rfl
theorem abin_shr (kd : TK) (a b : Int) : abin kd .shr (.int a) (.int b) kv = (0 ≤ b ∧ kv (.int (shrI a b))) := _root_.id rfl
theorem abin_and (kd : TK) (a b : Int) : abin kd .and (.int a) (.int b) kv = kv (.int (andI a b)) := _root_.id rfl
theorem abin_rem (kd : TK) (a b : Int) : abin kd .rem (.int a) (.int b) kv = (b ≠ 0 ∧ kv (.int (a.tmod b))) := _root_.id rfl
theorem abin_quo (kd : TK) (a b : Int) : abin kd .quo (.int a) (.int b) kv = ((b ≠ 0 ∧ InR (a.tdiv b)) ∧ kv (.int (a.tdiv b))) := _root_.id rfl
theorem abin_eqlb (kd : TK) (a b : Bool) : abin kd .eql (.bool a) (.bool b) kv = (kd = .bool ∧ kv (.bool (a == b))) := _root_.id rfl
theorem abin_neqb (kd : TK) (a b : Bool) : abin kd .neq (.bool a) (.bool b) kv = (kd = .bool ∧ kv (.bool (!(a == b)))) := _root_.id rfl
theorem abinN_int (kd : TK) (op : BinOp) (a b : Int) : abinN kd op (.int a) (.int b) kv = abin kd op (.int a) (.int b) kv := by cases op <;> rfl
theorem abinN_bool (kd : TK) (op : BinOp) (a b : Bool) : abinN kd op (.bool a) (.bool b) kv = abin kd op (.bool a) (.bool b) kv := by cases op <;> rfl
theorem abinN_lst (kd : TK) (es : List Cells) : abinN kd .eql (.lst es) .nils kv = (kd = .slice ∧ ∀ b : Bool, (es.length ≠ 0 → b = false) → kv (.bool b)) := _root_.id rfl
theorem abinN_nils (kd : TK) : abinN kd .eql .nils .nils kv = (kd = .slice ∧ kv (.bool true)) := _root_.id rfl
theorem aop_clear (s : Operand) (t : TypeId) (ts : List TypeId) : aop P T dst (.call ⟨.builtin .clear, #[s], (t :: ts).toArray⟩) k A = aclear (T (T t).elem).zero A (A.ev s) dst k := _root_.id rfl
theorem aclear_sl (z : Cells) (n tip off len : Nat) : aclear z A (.sl n tip off len) dst k = ablk (A.heap n) (aclearB z A n tip off len dst k) := _root_.id rfl
theorem aclearB_def (z : Cells) (n tip off len : Nat) (b : Blk) : aclearB z A n tip off len dst k b = ((b.es.length = tip ∧ b.k = z.length ∧ z.all AV.isCell = true) ∧ k ((A.hput n ⟨b.k, b.es.take off ++ (List.replicate len z ++ b.es.drop (off + len))⟩).put dst (.tup []))) := _root_.id rfl
theorem aun_not (b : Bool) : aun .not (.bool b) kv = kv (.bool (!b)) := _root_.id rfl
theorem aun_neg (a : Int) : aun .neg (.int a) kv = (InR a ∧ kv (.int (wneg a))) := _root_.id rfl
theorem apick_bool (t : Bool) (a b : AV) : apick (.bool t) a b kv = kv (pickv t a b) := _root_.id rfl
theorem acells_agg (n : Nat) (cs : Cells) : acells true n cs kv = (n ≤ cs.length ∧ kv (.agg (cs.take n))) := _root_.id rfl
theorem acells_one (n : Nat) (c : AV) (cs : Cells) : acells false n (c :: cs) kv = (n = 1 ∧ kv c) := _root_.id rfl
theorem aload_iptr (t : Nat) (cs : Cells) : aload T A t (.iptr cs) kv = acells (T t).agg (T t).size cs kv := _root_.id rfl
theorem aload_ptr (t n tip i j : Nat) : aload T A t (.ptr n tip i j) kv = aloadB (T t).agg (T t).size tip i j (A.heap n) kv := _root_.id rfl
theorem aloadB_some (g : Bool) (s tip i j : Nat) (b : Blk) : aloadB g s tip i j (some b) kv = (b.es.length = tip ∧ aloadE g s j b.es[i]? kv) := _root_.id rfl
theorem aloadE_some (g : Bool) (s j : Nat) (e : Cells) : aloadE g s j (some e) kv = acells g s (e.drop j) kv := _root_.id rfl
theorem alive_some (b : Blk) (tip : Nat) (v : AV) : alive (some b) tip v kv = (b.es.length = tip ∧ kv v) := _root_.id rfl
theorem aliveK_some (b : Blk) (tip s : Nat) (v : AV) : aliveK (some b) tip s v kv = ((b.es.length = tip ∧ b.k = s) ∧ kv v) := _root_.id rfl
theorem afieldAddr_iptr (off t : Nat) (cs : Cells) : afieldAddr hp (some (off, t)) (.iptr cs) kv = kv (.iptr (cs.drop off)) := _root_.id rfl
theorem afieldAddr_ptr (off t n tip i j : Nat) : afieldAddr hp (some (off, t)) (.ptr n tip i j) kv = alive (hp n) tip (.ptr n tip i (j + off)) kv := _root_.id rfl
theorem afield_agg (off t : Nat) (cs : Cells) : afield T (some (off, t)) (.agg cs) kv = acells (T t).agg (T t).size (cs.drop off) kv := _root_.id rfl
theorem aindexAddr_lst (t : Nat) (es : List Cells) (i : Int) : aindexAddr T A t (.lst es) (.int i) kv = (0 ≤ i ∧ aidx (T (T t).elem).size es[i.toNat]? kv) := _root_.id rfl
theorem aindexAddr_sl (t n tip off len : Nat) (i : Int) : aindexAddr T A t (.sl n tip off len) (.int i) kv = ((0 ≤ i ∧ i < len) ∧ aliveK (A.heap n) tip (T (T t).elem).size (.ptr n tip (off + i.toNat) 0) kv) := _root_.id rfl
theorem aidx_some (s : Nat) (e : Cells) : aidx s (some e) kv = (e.length = s ∧ kv (.iptr e)) := _root_.id rfl
theorem alen_lst (es : List Cells) : alen (.lst es) kv = kv (.int es.length) := _root_.id rfl
theorem alen_sl (n t o l : Nat) : alen (.sl n t o l) kv = kv (.int l) := _root_.id rfl
theorem alen_nils : alen .nils kv = kv (.int 0) := _root_.id rfl
theorem amax_int (a b : Int) : abuiltin .max [.int a, .int b] kv = kv (.int (if b > a then b else a)) := _root_.id rfl
theorem amin_int (a b : Int) : abuiltin .min [.int a, .int b] kv = kv (.int (if b < a then b else a)) := _root_.id rfl
theorem aslice_hi (es : List Cells) (h : Int) : aslice hp sz (.lst es) none (some (.int h)) kv = ((0 ≤ h ∧ h ≤ es.length ∧ ∀ e ∈ es, e.length = sz) ∧ kv (.lst (es.take h.toNat))) := _root_.id rfl
theorem aslice_lo (es : List Cells) (l : Int) : aslice hp sz (.lst es) (some (.int l)) none kv = ((0 ≤ l ∧ l ≤ es.length ∧ ∀ e ∈ es, e.length = sz) ∧ kv (.lst (es.drop l.toNat))) := _root_.id rfl
theorem aslice_lohi (es : List Cells) (l h : Int) : aslice hp sz (.lst es) (some (.int l)) (some (.int h)) kv = ((0 ≤ l ∧ l ≤ h ∧ h ≤ es.length ∧ ∀ e ∈ es, e.length = sz) ∧ kv (.lst ((es.take h.toNat).drop l.toNat))) := _root_.id rfl
theorem aslice_slhi (n tip off len : Nat) (h : Int) : aslice hp sz (.sl n tip off len) none (some (.int h)) kv = ((0 ≤ h ∧ h ≤ len) ∧ aliveK (hp n) tip sz (.sl n tip off h.toNat) kv) := _root_.id rfl
theorem aslice_sllo (n tip off len : Nat) (l : Int) : aslice hp sz (.sl n tip off len) (some (.int l)) none kv = ((0 ≤ l ∧ l ≤ len) ∧ aliveK (hp n) tip sz (.sl n tip (off + l.toNat) (len - l.toNat)) kv) := _root_.id rfl
theorem anil_iptr (cs : Cells) : anil hp (.iptr cs) kv = kv (.iptr cs) := _root_.id rfl
theorem anil_ptr (n t i j : Nat) : anil hp (.ptr n t i j) kv = alive (hp n) t (.ptr n t i j) kv := _root_.id rfl
theorem anil_fn (g : FuncId) (a c : Cells) : anil hp (.fn (.func g) a c) kv = kv (.fn (.func g) a c) := _root_.id rfl
theorem aextract_tup (vs : List AV) (i : Nat) : aextract (.tup vs) i kv = match vs[i]? with
    | some v => kv v
    | none => False := _root_.id rfl
theorem abuild_nil (fs : List (Nat × Nat)) (cs : Cells) : abuild T fs [] cs kv = kv (.agg cs) := _root_.id rfl
theorem abuild_cons (fs : List (Nat × Nat)) (i : Nat) (x : AV) (r : List (Nat × AV)) (cs : Cells) : abuild T fs ((i, x) :: r) cs kv = match fs[i]? with
    | some (off, ft) => (x.cells.length = (T ft).size ∧ x.storable = true) ∧ abuild T fs r (aspl cs off x.cells) kv
    | none => False := _root_.id rfl
theorem aspl_def (cs new : Cells) (off : Nat) : aspl cs off new = cs.take off ++ (new ++ cs.drop (off + new.length)) := _root_.id rfl
theorem ablk_some (b : Blk) (kb : Blk → Prop) : ablk (some b) kb = kb b := _root_.id rfl
theorem aelems_lst (es : List Cells) (kl : List Cells → Prop) : aelems A (.lst es) kl = kl es := _root_.id rfl
theorem aelems_nils (kl : List Cells → Prop) : aelems A .nils kl = kl [] := _root_.id rfl
theorem aelems_sl (n tip off len : Nat) (kl : List Cells → Prop) : aelems A (.sl n tip off len) kl = ablk (A.heap n) fun b => b.es.length = tip ∧ kl ((b.es.drop off).take len) := _root_.id rfl
theorem aappTo_nils (s : Nat) (xs : List Cells) : aappTo s A .nils dst k xs = aappNil s A dst k xs := _root_.id rfl
theorem aappTo_sl (s n tip off len : Nat) (xs : List Cells) : aappTo s A (.sl n tip off len) dst k xs = ablk (A.heap n) (aappBlk s A n tip off len dst k xs) := _root_.id rfl
theorem aappNil_nil (s : Nat) : aappNil s A dst k [] = k (A.put dst .nils) := _root_.id rfl
theorem aappNil_cons (s : Nat) (x : Cells) (xs : List Cells) : aappNil s A dst k (x :: xs) = ((roomy (xs.length + 1) ∧ ∀ e ∈ x :: xs, e.length = s ∧ e.all AV.isCell = true) ∧
      k ((A.alloc ⟨s, x :: xs⟩).put dst (.sl A.nx (xs.length + 1) 0 (xs.length + 1)))) := _root_.id rfl
theorem aappBlk_def (s n tip off len : Nat) (xs : List Cells) (b : Blk) : aappBlk s A n tip off len dst k xs b = ((off = 0 ∧ len = tip ∧ b.es.length = tip ∧ b.k = s ∧ roomy (tip + xs.length) ∧ ∀ e ∈ xs, e.length = s ∧ e.all AV.isCell = true) ∧
    k ((A.hput n ⟨s, b.es ++ xs⟩).put dst (.sl n (tip + xs.length) 0 (tip + xs.length)))) := _root_.id rfl
theorem astore_ptr (s n tip i j : Nat) (x : AV) : astore s A (.ptr n tip i j) x dst k = ablk (A.heap n) (astoreB s A n tip i j x.cells dst k) := _root_.id rfl
theorem astoreB_def (s n tip i j : Nat) (x : Cells) (b : Blk) : astoreB s A n tip i j x dst k b = (b.es.length = tip ∧ astoreE s A n i j x dst k b b.es[i]?) := _root_.id rfl
theorem astoreE_some (s n i j : Nat) (x e : Cells) (b : Blk) : astoreE s A n i j x dst k b (some e) = ((x.length = s ∧ j + s ≤ e.length ∧ x.all AV.isCell = true) ∧ k ((A.hput n ⟨b.k, b.es.set i (aspl e j x)⟩).put dst (.tup []))) := _root_.id rfl
theorem amake_int (s : Nat) (z : Cells) (l : Int) : amake s z A (.int l) dst k = ((0 ≤ l ∧ roomy l.toNat) ∧ k ((A.alloc ⟨s, List.replicate l.toNat z⟩).put dst (.sl A.nx l.toNat 0 l.toNat))) := _root_.id rfl

theorem postA_ret (rs : List ResultVar) (kr : AV → Heap → Nat → Prop) : postA T rs.toArray kr .ret A = aress T A kr rs [] := _root_.id rfl
theorem postA_normal (rs : List ResultVar) (kr : AV → Heap → Nat → Prop) : postA T rs.toArray kr .normal A = aress T A kr rs [] := _root_.id rfl
theorem aress_nil (kr : AV → Heap → Nat → Prop) (acc : List AV) : aress T A kr [] acc = kr (mkRes acc.reverse) A.heap A.nx := _root_.id rfl
theorem aress_tmp (kr : AV → Heap → Nat → Prop) (t : Tmp) (r : List ResultVar) (acc : List AV) : aress T A kr (.tmp t :: r) acc = aress T A kr r (A.env t :: acc) := _root_.id rfl
theorem aress_cell (kr : AV → Heap → Nat → Prop) (a t : Nat) (r : List ResultVar) (acc : List AV) : aress T A kr (.cell a t :: r) acc = aload T A t (A.env a) (kres T A kr r acc) := _root_.id rfl
theorem kres_def (kr : AV → Heap → Nat → Prop) (r : List ResultVar) (acc : List AV) (v : AV) : kres T A kr r acc v = aress T A kr r (v :: acc) := _root_.id rfl
theorem mkRes_one (v : AV) : mkRes [v] = v := _root_.id rfl
theorem mkRes_nil : mkRes [] = .tup [] := _root_.id rfl
theorem mkRes_two (v u : AV) (r : List AV) : mkRes (v :: u :: r) = .tup (v :: u :: r) := _root_.id rfl
end
attribute [go_sem] awDraw_slot aslotV_ptr aopsS_nil aopsS_cons aopsS_guard onName_ptr aopS_move aopS_assign aopS_pick aopS_binOp aopS_unOp aopS_load aopS_fieldAddr aopS_field aopS_indexAddr aopS_slice aopS_nilCheck aopS_extract aopS_len aopS_store aopS_call acallS_fn abin_rem abin_quo abin_shl abin_shr abin_and awReg_none awReg_some kregR_def arest_def arestV_ptr arestB_some ldel_nil ldel_cons upd_Hp_none awantD_some E_nil E_cons Hp_nil Hp_cons lset_nil lset_cons upd_E upd_Hp put_some put_none hput_Hp alloc_Hp keep_E ev_tmp ev_const ev_func ofConst_int ofConst_bool ofConst_nils cells_int cells_bool cells_nils cells_lst cells_sl cells_ptr cells_iptr cells_fn cells_agg isCell_int isCell_bool isCell_nils isCell_lst isCell_sl isCell_ptr isCell_iptr isCell_fn storable_def pickv_true pickv_false pickv_bool aw_skip aw_region aw_draw awDraw_none awDraw_some awDraw_zero aopsM_nil aopsM_cons aopsM_guard aopM_move aopM_assign aopM_pick aopM_binOp aopM_unOp aopM_load aopM_fieldAddr aopM_field aopM_indexAddr aopM_slice aopM_nilCheck aopM_extract aopM_len aopM_alloc aopM_box aopM_store aopM_append aopM_call acallD_fn aopM_buildSlice aopQ_buildSlice aslit_def tailAt_nil tailAt_cons aw_seq aw_cond aw_block aw_loop aw_exit aw_ret acond_true acond_false kseq_normal kseq_ret kseq_exit kreg_def kblock_exit kblock_normal kblock_ret aops_nil aops_cons aops_guard aopsQ_nil aopsQ_cons aopsQ_guard awant_some awantV_bool awantV_tup awhen_yes awhen_no awhen_ask aask_tt aask_ff aask_tf aask_ft askip_def aop_move aop_assign aop_pick aop_binOp aop_unOp aop_load aop_fieldAddr aop_field aop_indexAddr aop_slice aop_nilCheck aop_extract aop_makeFunc aop_build aop_alloc aop_box aop_buildSlice0 aop_buildSlice aop_makeSlice aop_store aop_append aop_len aop_max aop_min aop_call acall_fn aopQ_move aopQ_assign aopQ_pick aopQ_binOp aopQ_unOp aopQ_load aopQ_fieldAddr aopQ_field aopQ_indexAddr aopQ_slice aopQ_nilCheck aopQ_extract aopQ_makeFunc aopQ_build aopQ_len aopQ_max aopQ_min aopQ_call acallQ_fn kput_def kcall_def abin_add abin_sub abin_mul abin_eql abin_neq abin_lss abin_leq abin_gtr abin_geq abin_eqlb abin_neqb abinN_int abinN_bool abinN_lst abinN_nils aop_clear aclear_sl aclearB_def aun_not aun_neg apick_bool acells_agg acells_one aload_iptr aload_ptr aloadB_some aloadE_some alive_some aliveK_some afieldAddr_iptr afieldAddr_ptr afield_agg aindexAddr_lst aindexAddr_sl aidx_some alen_lst alen_sl alen_nils amax_int amin_int aslice_hi aslice_lo aslice_lohi aslice_slhi aslice_sllo anil_iptr anil_ptr anil_fn aextract_tup abuild_nil abuild_cons aspl_def ablk_some aelems_lst aelems_nils aelems_sl aappTo_nils aappTo_sl aappNil_nil aappNil_cons aappBlk_def astore_ptr astoreB_def astoreE_some amake_int postA_ret postA_normal aress_nil aress_tmp aress_cell kres_def mkRes_one mkRes_nil mkRes_two
end Go.Abs
