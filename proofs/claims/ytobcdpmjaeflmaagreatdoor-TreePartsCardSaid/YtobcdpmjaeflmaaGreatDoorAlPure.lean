/- Al: operations that only look: what they yield. -/
import Derived.Test.YtobcdpmjaeflmaaGreatDoorAlWp
import Derived.Laws.Entries
import Derived.Laws.Small
import Derived.Laws.Slices
import Derived.BigFrame
set_option linter.unusedVariables false
set_option linter.unusedSimpArgs false
namespace Go.Al
variable {P : Program} {n : Nat} {p : Nat → Prop} {st : St}

def szOf (P : Program) (T : TypeId) : Option Nat := (P.info? T).map (·.size)
def aggOf (P : Program) (T : TypeId) : Bool := match P.underlying T with
  | some (.struct _) => true
  | some (.array _ _) => true
  | _ => false
/-- The offset of a field that has cells. -/
def fldOf (P : Program) (T f : Nat) : Option Nat := match P.underlying T with
  | some (.struct fs) => (fs[f]?).bind fun x => match szOf P x.type with
    | some (_ + 1) => some x.offset
    | _ => none
  | _ => none
def elemOf (P : Program) (T : Nat) : Option Nat := match P.underlying T with
  | some (.slice e) => some e
  | _ => none

theorem run_sizeOf {T s : Nat} (h : szOf P T = some s) (w : World) : (sizeOf T).run P w = .ok s w := by
  unfold szOf at h
  simp only [Option.map_eq_some_iff] at h
  obtain ⟨i, hi, rfl⟩ := h
  simp [sizeOf, typeInfo, hi]

theorem run_isAgg {T : Nat} (h : (P.underlying T).isSome = true) (w : World) : (isAgg T).run P w = .ok (aggOf P T) w := by
  obtain ⟨d, hd⟩ := Option.isSome_iff_exists.1 h
  simp only [isAgg, Sem.run_bind, run_underlying hd, Result.andThen_ok, aggOf, hd]
  cases d <;> rfl

/-- From one world to a later one in which nothing old has turned. -/
structure Ext (w w' : World) : Prop where
  size : w.heap.size ≤ w'.heap.size
  heap : ∀ b, b < w.heap.size → w'.heap[b]? = w.heap[b]?
  stream : w'.os = w.os ∧ w'.tape = w.tape ∧ w'.output = w.output
theorem Ext.refl (w : World) : Ext w w := ⟨Nat.le_refl _, fun _ _ => rfl, rfl, rfl, rfl⟩
theorem Ext.cell {w w' : World} (h : Ext w w') {a : Addr} {x : Value} (hc : w.cell? a = some x) : w'.cell? a = some x := by
  have hb : a.block < w.heap.size := World.block_lt_of_cell? w a hc
  unfold World.cell? at *
  rw [h.heap _ hb]; exact hc

def Yields (P : Program) (o : Oper) (a : Act) (w : World) (v : Value) : Prop := ∃ nx, Yielded nx v ∧ ∀ w', Ext w w' → (execOp a.eval o).run P w' = .ok nx w'

/-- An operation that only looks. -/
def OpP (P : Program) (n : Nat) (o : Oper) (st : St) (K : AV → Prop) : Prop :=
  ∀ M β a w, Rel n M β st a w → ∃ v x, K x ∧ RelV M β x v ∧ Yields P o a w v

theorem OpE.of_pure {o : Oper} {K : AV → St → Prop} (h : OpP P n o st fun x => K x st) : OpE P n p o st K := by
  intro M β a w hr
  obtain ⟨v, x, hk, hx, nx, hy, hrun⟩ := h M β a w hr
  exact ⟨nx, v, w, x, st, M, β, hrun w (Ext.refl w), hy, hk, hx, hr, Later.refl p M β w⟩

theorem Yields.of {o : Oper} {a : Act} {w : World} {v : Value} (h : ∀ w', Ext w w' → (execOp a.eval o).run P w' = .ok (.value v) w') : Yields P o a w v := ⟨.value v, rfl, h⟩

variable {K : AV → Prop} {dst : Option Tmp} {ty : TypeId} {pos : String} {after : Array Edge} {gu : Option (Nat × Bool)}

theorem OpP.move {x : Operand} (h : K (ev st x)) : OpP P n ⟨dst, .move x, ty, pos, after, gu⟩ st K :=
  fun _ _ a _ hr => ⟨a.eval x, _, h, ev_rel hr x, .of fun _ _ => rfl⟩
theorem OpP.assign {x : Operand} (h : K (ev st x)) : OpP P n ⟨dst, .assign x, ty, pos, after, gu⟩ st K :=
  fun _ _ a _ hr => ⟨a.eval x, _, h, ev_rel hr x, .of fun _ _ => rfl⟩

theorem OpP.pick {c x y : Operand} (t : Bool) (hc : ev st c = .d (.con (.bool t))) (ht : t = true → K (ev st x)) (hf : t = false → K (ev st y)) :
    OpP P n ⟨dst, .pick c x y, ty, pos, after, gu⟩ st K := by
  intro M β a w hr
  have hv := ev_rel hr c
  rw [hc] at hv
  have hv := hv.con_eq
  cases t
  · exact ⟨a.eval y, _, hf rfl, ev_rel hr y, .of fun w' _ => by simp [execOp, hv, asBool]⟩
  · exact ⟨a.eval x, _, ht rfl, ev_rel hr x, .of fun w' _ => by simp [execOp, hv, asBool]⟩

/-! ### Numbers, texts -/

def bytesEq (x y : ByteArray) : Bool := x.toList == y.toList

/-- What an operator gives at values; nothing: it would panic, or is not of these. -/
def binV : BinOp → Value → Value → Option Value
  | .add, .int k a, .int k' b => if k = k' then some (.int k (k.wrap (a + b))) else none
  | .sub, .int k a, .int k' b => if k = k' then some (.int k (k.wrap (a - b))) else none
  | .mul, .int k a, .int k' b => if k = k' then some (.int k (k.wrap (a * b))) else none
  | .quo, .int k a, .int k' b => if k = k' ∧ b ≠ 0 then some (.int k (k.wrap (a.tdiv b))) else none
  | .rem, .int k a, .int k' b => if k = k' ∧ b ≠ 0 then some (.int k (a.tmod b)) else none
  | .eql, .int k a, .int k' b => if k = k' then some (.bool (a == b)) else none
  | .neq, .int k a, .int k' b => if k = k' then some (.bool (a != b)) else none
  | .lss, .int k a, .int k' b => if k = k' then some (.bool (a < b)) else none
  | .leq, .int k a, .int k' b => if k = k' then some (.bool (a ≤ b)) else none
  | .gtr, .int k a, .int k' b => if k = k' then some (.bool (a > b)) else none
  | .geq, .int k a, .int k' b => if k = k' then some (.bool (a ≥ b)) else none
  | .add, .string a, .string b => if a.size + b.size ≤ 9223372036854775807 then some (.string (a ++ b)) else none
  | .eql, .string a, .string b => some (.bool (bytesEq a b))
  | .neq, .string a, .string b => some (.bool !(bytesEq a b))
  | _, _, _ => none

theorem run_binV {op : BinOp} {T : TypeId} {u v r : Value} (h : binV op u v = some r) (x y : Operand) (w : World) :
    (do eqGuard op T x y u v; binOp op T u v : Sem Value).run P w = .ok r w := by
  unfold binV at h
  split at h
  all_goals try (simp at h; done)
  all_goals try (split at h)
  all_goals try (simp at h; done)
  all_goals simp only [Option.some.injEq] at h
  all_goals subst_vars
  all_goals try (simp [go_sem]; done)
  all_goals try (simp [go_sem, binOp, Op.stringOp, bytesEq]; done)
  · rename_i hk; obtain ⟨rfl, hb⟩ := hk; simp [go_sem, hb]
  · rename_i hk; obtain ⟨rfl, hb⟩ := hk; simp [go_sem, hb]
  · rename_i hk; simp [go_sem, binOp, Op.stringOp]; omega

theorem OpP.bin {op : BinOp} {T T' : TypeId} {x y : Operand} (u v r : Value) (hx : ev st x = .d (.con u)) (hy : ev st y = .d (.con v)) (hr : binV op u v = some r)
    (h : K (.d (.con r))) : OpP P n ⟨dst, .binOp op T x y T', ty, pos, after, gu⟩ st K := by
  intro M β a w hrel
  have h1 := ev_rel hrel x
  have h2 := ev_rel hrel y
  rw [hx] at h1
  rw [hy] at h2
  refine ⟨r, _, h, .d _ _ (.con r), .of fun w' _ => ?_⟩
  have := run_binV (P := P) (T := T) hr x y w'
  simp only [execOp, h1.con_eq, h2.con_eq, Sem.run_bind] at *
  rw [this]; rfl

def unV : UnOp → Value → Option Value
  | .not, .bool b => some (.bool !b)
  | .neg, .int k a => some (.int k (k.wrap (0 - a)))
  | _, _ => none

theorem OpP.un {op : UnOp} {T : TypeId} {x : Operand} (u r : Value) (hx : ev st x = .d (.con u)) (hr : unV op u = some r)
    (h : K (.d (.con r))) : OpP P n ⟨dst, .unOp op T x, ty, pos, after, gu⟩ st K := by
  intro M β a w hrel
  have h1 := ev_rel hrel x
  rw [hx] at h1
  refine ⟨r, _, h, .d _ _ (.con r), .of fun w' _ => ?_⟩
  unfold unV at hr
  split at hr <;> simp at hr <;> subst hr <;> simp [execOp, h1.con_eq, Op.unary, Op.intArith]

theorem OpP.conv_int {src T : TypeId} {x : Operand} (k k' : IntKind) (m : Int) (hs : (P.underlying src).isSome = true) (hd : P.underlying T = some (.int k')) (hx : ev st x = .d (.con (.int k m)))
    (h : K (.d (.con (.int k' (k'.wrap m))))) : OpP P n ⟨dst, .convert src T x, ty, pos, after, gu⟩ st K := by
  intro M β a w hrel
  have h1 := ev_rel hrel x
  rw [hx] at h1
  refine ⟨_, _, h, .d _ _ (.con _), .of fun w' _ => ?_⟩
  obtain ⟨d, hd'⟩ := Option.isSome_iff_exists.mp hs
  simp [execOp, h1.con_eq, convert, run_underlying hd', run_underlying hd, Conv.intToInt]

theorem OpP.nilCheck {x : Operand} (v : AV) (hx : ev st x = v) (hv : (∃ r i off, v = .ptr r i off) ∨ (∃ row off, v = .fptr row off) ∨ (∃ f cs, v = .fn f cs)) (h : K v) :
    OpP P n ⟨dst, .nilCheck x, ty, pos, after, gu⟩ st K := by
  intro M β a w hrel
  have h1 := ev_rel hrel x
  rw [hx] at h1
  refine ⟨a.eval x, v, h, h1, .of fun w' _ => ?_⟩
  simp only [execOp]
  generalize a.eval x = u at *
  rcases hv with ⟨r, i, off, rfl⟩ | ⟨row, off, rfl⟩ | ⟨f, cs, rfl⟩
  · cases h1; rfl
  · cases h1; rfl
  · cases h1; rfl

end Go.Al
