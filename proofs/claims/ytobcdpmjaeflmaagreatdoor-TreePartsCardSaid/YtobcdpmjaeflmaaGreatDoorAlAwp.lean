/- Al: the precondition of code, worked out. -/
import Derived.Test.YtobcdpmjaeflmaaGreatDoorAlPureCall
import Derived.Test.YtobcdpmjaeflmaaGreatDoorAlMap
set_option linter.unusedVariables false
set_option linter.unusedSimpArgs false
namespace Go.Al
variable {P : Program} {n : Nat} {p : Nat → Prop}

def optW {α : Type} (o : Option α) (K : α → Prop) : Prop := match o with
  | some a => K a
  | none => False
theorem optW_some {α : Type} (a : α) (K : α → Prop) : optW (some a) K = K a := (rfl)
theorem optW_none {α : Type} (K : α → Prop) : optW (none : Option α) K = False := (rfl)
theorem optW_ite {α : Type} (c : Prop) [Decidable c] (x y : Option α) (K : α → Prop) : optW (if c then x else y) K = if c then optW x K else optW y K := by split <;> rfl
theorem optW_bind {α β : Type} (o : Option α) (f : α → Option β) (K : β → Prop) : optW (o.bind f) K = optW o fun a => optW (f a) K := by cases o <;> rfl
theorem optW_map {α β : Type} (o : Option α) (f : α → β) (K : β → Prop) : optW (o.map f) K = optW o fun a => K (f a) := by cases o <;> rfl
theorem optW_iff {α : Type} {o : Option α} {K : α → Prop} (h : optW o K) : ∃ a, o = some a ∧ K a := by
  cases o with
  | none => exact h.elim
  | some a => exact ⟨a, rfl, h⟩

/-- A truth value, either way. -/
def boolW (v : AV) (A B : Prop) : Prop := match v with
  | .d (.con (.bool t)) => (t = true → A) ∧ (t = false → B)
  | _ => False

def conW (v : AV) (K : Value → Prop) : Prop := match v with
  | .d (.con u) => K u
  | _ => False
theorem conW_iff {v : AV} {K : Value → Prop} (h : conW v K) : ∃ u, v = .d (.con u) ∧ K u := by
  unfold conW at h
  split at h
  · exact ⟨_, rfl, h⟩
  · exact h.elim

def intKindOf (P : Program) (T : Nat) : Option IntKind := match P.underlying T with
  | some (.int k) => some k
  | _ => none
/-- Size, bytes and zero value of a type. -/
def infoOf (P : Program) (T : Nat) : Option (Nat × Nat × Value) := (P.info? T).bind fun i => i.zero.map fun z => (i.size, i.bytes, z)

def convW (P : Program) (src T : Nat) (v : AV) (K : AV → Prop) : Prop := match v with
  | .d (.con (.int _ m)) => (P.underlying src).isSome = true ∧ optW (intKindOf P T) fun k' => K (.d (.con (.int k' (k'.wrap m))))
  | _ => False

def nilW (v : AV) (K : AV → Prop) : Prop := match v with
  | .ptr r i off => K (.ptr r i off)
  | .fptr row off => K (.fptr row off)
  | .fn f cs => K (.fn f cs)
  | _ => False

def loadW (P : Program) (st : St) (T : Nat) (v : AV) (K : AV → Prop) : Prop :=
  (P.underlying T).isSome = true ∧ optW (szOf P T) fun s => match v with
    | .fptr row off => optW (partA (aggOf P T) s (row.map .d) off) K
    | .ptr r i off => match st.roots[r]? with
      | some (.box cs) => i = 0 ∧ optW (partA (aggOf P T) s cs off) K
      | some (.arr _ rows _) => i < rows.length ∧ ∀ row, rows[i]? = some row → optW (partA (aggOf P T) s (row.map .d) off) K
      | _ => False
    | _ => False

def fieldW (v : AV) (o : Nat) (K : AV → Prop) : Prop := match v with
  | .fptr row off => K (.fptr row (off + o))
  | .ptr r i off => K (.ptr r i (off + o))
  | _ => False

def idxW (P : Program) (st : St) (T : Nat) (v iv : AV) (K : AV → Prop) : Prop :=
  optW (elemOf P T) fun e => optW (szOf P e) fun s => match iv with
    | .d (.con (.int _ m)) => match v with
      | .d (.sl rows) => (0 ≤ m ∧ m < rows.length) ∧ ∀ row, rows[m.toNat]? = some row → row.length = s ∧ K (.fptr row 0)
      | .vs r off len => match st.roots[r]? with
        | some (.arr sz _ _) => sz = s ∧ (0 ≤ m ∧ m < len) ∧ K (.ptr r (off + m.toNat) 0)
        | _ => False
      | _ => False
    | _ => False

def strIdxW (P : Program) (T : Nat) (v iv : AV) (K : AV → Prop) : Prop :=
  P.underlying T = some .string ∧ match iv with
    | .d (.con (.int _ m)) => match v with
      | .d (.con (.string s)) => (0 ≤ m ∧ m < s.size) ∧ K (.d (.con (.int .u8 (byteAt s m.toNat))))
      | _ => False
    | _ => False

def sliceW (P : Program) (st : St) (T : Nat) (v : AV) (lo hi : Option Operand) (K : AV → Prop) : Prop := match v with
  | .d (.con (.string s)) => P.underlying T = some .string ∧ optW (bnd st 0 lo) fun l => optW (bnd st s.size hi) fun h =>
      (0 ≤ l ∧ l ≤ h ∧ h ≤ s.size) ∧ K (.d (.con (.string (s.extract l.toNat h.toNat))))
  | .d (.sl rows) => optW (elemOf P T) fun e => optW (szOf P e) fun s => optW (bnd st 0 lo) fun l => optW (bnd st rows.length hi) fun h =>
      (0 ≤ l ∧ l ≤ h ∧ h ≤ rows.length) ∧ (∀ row, row ∈ rows → row.length = s) ∧ K (.d (.sl ((rows.drop l.toNat).take (h.toNat - l.toNat))))
  | .vs r off len => optW (elemOf P T) fun e => optW (szOf P e) fun s => match st.roots[r]? with
    | some (.arr sz _ _) => sz = s ∧ optW (bnd st 0 lo) fun l => optW (bnd st len hi) fun h =>
      (0 ≤ l ∧ l ≤ h ∧ h ≤ len) ∧ K (.vs r (off + l.toNat) (h.toNat - l.toNat))
    | _ => False
  | .d (.con (.slice none 0 0)) => optW (elemOf P T) fun e => optW (szOf P e) fun s => optW (bnd st 0 lo) fun l => optW (bnd st 0 hi) fun h =>
      (0 ≤ l ∧ l ≤ h ∧ h ≤ 0) ∧ K (.d (.sl []))
  | _ => False

def lenW (P : Program) (T : Nat) (v : AV) (K : AV → Prop) : Prop := match v with
  | .d (.con (.string s)) => P.underlying T = some .string ∧ K (.d (.con (.int .i64 s.size)))
  | .d (.con (.slice a len c)) => (elemOf P T).isSome = true ∧ K (.d (.con (.int .i64 len)))
  | .d (.sl rows) => (elemOf P T).isSome = true ∧ K (.d (.con (.int .i64 rows.length)))
  | .vs r off len => (elemOf P T).isSome = true ∧ K (.d (.con (.int .i64 len)))
  | _ => False

def storeW (P : Program) (st : St) (T : Nat) (x v : AV) (K : St → Prop) : Prop := match x with
  | .ptr r i off => match st.roots[r]? with
    | some (.box cs) => i = 0 ∧ optW (cellsA v) fun ns => szOf P T = some ns.length ∧ ns.all oneA = true ∧ off + ns.length ≤ cs.length ∧
        K { st with roots := st.roots.set r (.box (splice cs off ns)) }
    | some (.arr _ _ _) => optW (asD v st.roots) fun d => optW (dcells d.1) fun ds => match d.2[r]? with
      | some (.arr sz rows lim) => i < rows.length ∧ lim ≤ i ∧ szOf P T = some ds.length ∧ ds.all oneD = true ∧ ∀ row, rows[i]? = some row → off + ds.length ≤ row.length ∧
          K { st with roots := d.2.set r (.arr sz (rows.set i (splice row off ds)) lim) }
      | _ => False
    | _ => False
  | _ => False

def makeW (P : Program) (st : St) (T : Nat) (x y : AV) (K : AV → St → Prop) : Prop :=
  optW (elemOf P T) fun e => optW (infoOf P e) fun i => optW (dcells (.con i.2.2)) fun zr => match x with
    | .d (.con (.int _ m)) => match y with
      | .d (.con (.int _ m')) => (zr.length = i.1 ∧ 0 < i.1) ∧ (0 ≤ m ∧ m ≤ m' ∧ i.2.1 * m'.toNat ≤ 140737488355328 ∧ m'.toNat ≤ 140737488355328) ∧
          K (.vs st.roots.length 0 m.toNat) { st with roots := st.roots ++ [.arr i.1 (List.replicate m.toNat zr) 0] }
      | _ => False
    | _ => False

def appendW (P : Program) (p : Nat → Prop) (st : St) (T tx : Nat) (s x : AV) (K : AV → St → Prop) : Prop :=
  (elemOf P tx).isSome = true ∧ optW (elemOf P T) fun e => optW (infoOf P e) fun i => i.2.2.cells.size = i.1 ∧ optW (srcRows st x) fun rows2 =>
    (∀ row, row ∈ rows2 → row.length = i.1 ∧ ∀ c, c ∈ row → oneD c = true) ∧ match s with
    | .vs r off len => match st.roots[r]? with
      | some (.arr sz rows lim) => (sz = i.1 ∧ off + len ≤ rows.length ∧ lim ≤ off + len ∧ ¬ p r) ∧ ((len + rows2.length) * i.2.1 ≤ 140737488355328 ∧ len + rows2.length ≤ 140737488355328) ∧
          K (.vs r 0 (len + rows2.length)) { env := renE (killF r) st.env, roots := (st.roots.map (renR (killF r))).set r (.arr sz ((rows.drop off).take len ++ rows2) (lim - off)) }
      | _ => False
    | .d (.con (.slice none 0 0)) => ¬ p st.roots.length ∧ (rows2.length * i.2.1 ≤ 140737488355328 ∧ rows2.length ≤ 140737488355328) ∧
          K (.vs st.roots.length 0 rows2.length) { env := renE (killF st.roots.length) st.env, roots := st.roots.map (renR (killF st.roots.length)) ++ [.arr i.1 rows2 0] }
    | _ => False

def isBoolT (P : Program) (T : Nat) : Bool := match P.underlying T with
  | some .bool => true
  | _ => false
def isPtrT (P : Program) (T : Nat) : Bool := match P.underlying T with
  | some (.pointer _) => true
  | _ => false

/-- What an operator gives, by the operands' type. -/
def binT (P : Program) (op : BinOp) (T : Nat) : Value → Value → Option Value
  | .bool a, .bool b => match op with
    | .eql => if isBoolT P T = true then some (.bool (a == b)) else none
    | .neq => if isBoolT P T = true then some (.bool (a != b)) else none
    | _ => none
  | u, v => binV op u v
/-- An operator at what may be an address. -/
def binW (P : Program) (op : BinOp) (T : Nat) (x y : AV) (K : AV → Prop) : Prop := match x, y with
  | .d (.con u), .d (.con v) => optW (binT P op T u v) fun r => K (.d (.con r))
  | .ptr _ _ _, .d (.con (.pointer none)) => isPtrT P T = true ∧ ((op = .eql ∧ K (.d (.con (.bool false)))) ∨ (op = .neq ∧ K (.d (.con (.bool true)))))
  | _, _ => False

/-- The greatest and the least of two numbers. -/
def maxW (big : Bool) (x y : AV) (K : AV → Prop) : Prop := match x, y with
  | .d (.con (.int k a)), .d (.con (.int k' b)) => k = k' ∧ K (.d (.con (.int k (if big then max a b else min a b))))
  | _, _ => False

/-- What must hold ahead of an operation that only looks. -/
def opP (P : Program) (o : Op) (st : St) (K : AV → Prop) : Prop := match o with
  | .move x => K (ev st x)
  | .assign x => K (ev st x)
  | .pick c x y => boolW (ev st c) (K (ev st x)) (K (ev st y))
  | .binOp op T x y _ => binW P op T (ev st x) (ev st y) K
  | .unOp op _ x => conW (ev st x) fun u => optW (unV op u) fun r => K (.d (.con r))
  | .convert src T x => convW P src T (ev st x) K
  | .nilCheck x => nilW (ev st x) K
  | .load T x => loadW P st T (ev st x) K
  | .fieldAddr T x f => optW (fldOf P T f) fun o => fieldW (ev st x) o K
  | .indexAddr T x i => idxW P st T (ev st x) (ev st i) K
  | .index T x i => strIdxW P T (ev st x) (ev st i) K
  | .extract x i => match ev st x with
    | .tup vs => optW (vs[i]?) K
    | _ => False
  | .slice T x lo hi mx => mx = none ∧ sliceW P st T (ev st x) lo hi K
  | .build T parts => optW (buildA P T (parts.toList.map fun x => (x.1, ev st x.2))) fun cs => K (.agg cs)
  | .makeFunc fn first captured => first = #[] ∧ match fn with
    | .func f => K (.fn f (captured.toList.map (ev st)))
    | _ => False
  | .call ⟨.builtin .len, args, ats⟩ => args.size = 1 ∧ ats.size = 1 ∧ lenW P (ats.getD 0 0) (ev st (args.getD 0 (.const undef))) K
  | .call ⟨.builtin .max, args, ats⟩ => args.size = 2 ∧ maxW true (ev st (args.getD 0 (.const undef))) (ev st (args.getD 1 (.const undef))) K
  | .call ⟨.builtin .min, args, ats⟩ => args.size = 2 ∧ maxW false (ev st (args.getD 0 (.const undef))) (ev st (args.getD 1 (.const undef))) K
  | .lookup T x k ok => lookW P st T (ev st x) (ev st k) ok K
  | _ => False

/-- What must hold ahead of an operation. -/
def opA (P : Program) (p : Nat → Prop) (o : Op) (st : St) (K : AV → St → Prop) : Prop := match o with
  | .box _ x => optW (cellsA (ev st x)) fun cs => K (.ptr st.roots.length 0 0) { st with roots := st.roots ++ [.box cs] }
  | .alloc T => optW (zeroOf P T) fun z => optW (cellsA (.d (.con z))) fun cs => K (.ptr st.roots.length 0 0) { st with roots := st.roots ++ [.box cs] }
  | .buildSlice T len parts => optW (elemOf P T) fun e => optW (szOf P e) fun sz => (zeroOf P e).isSome = true ∧ optW (rowsOf sz (parts.toList.map fun x => (x.1, ev st x.2)) 0 st.roots) fun r =>
      (r.1.length = len ∧ len * sz ≤ 16777216) ∧ K (.d (.sl r.1)) { st with roots := r.2 }
  | .makeSlice T x y => makeW P st T (ev st x) (ev st y) K
  | .store T x v => storeW P st T (ev st x) (ev st v) fun st' => K (.d .any) st'
  | .call ⟨.builtin .append, args, ats⟩ => args.size = 2 ∧ ats.size = 2 ∧ appendW P p st (ats.getD 0 0) (ats.getD 1 0) (ev st (args.getD 0 (.const undef))) (ev st (args.getD 1 (.const undef))) K
  | .makeMap _ none => ∃ mk, K (.mp st.roots.length) { st with roots := st.roots ++ [.map mk []] }
  | .mapUpdate T x k v => updW P st T (ev st x) (ev st k) (ev st v) K
  | .insert T x k v => updW P st T (ev st x) (ev st k) (ev st v) K
  | o => opP P o st fun v => K v st

theorem elemOf_some {T e : Nat} (h : elemOf P T = some e) : P.underlying T = some (.slice e) := by
  unfold elemOf at h
  split at h
  · rename_i h'; cases h; exact h'
  · cases h

theorem infoOf_some {T : Nat} {r : Nat × Nat × Value} (h : infoOf P T = some r) : ∃ i, P.info? T = some i ∧ i.zero = some r.2.2 ∧ i.size = r.1 ∧ i.bytes = r.2.1 := by
  unfold infoOf at h
  simp only [Option.bind_eq_some_iff, Option.map_eq_some_iff] at h
  obtain ⟨i, hi, z, hz, rfl⟩ := h
  exact ⟨i, hi, hz, rfl, rfl⟩

theorem loadW_sound {st : St} {T : Nat} {x : Operand} {K : AV → Prop} {dst : Option Tmp} {ty : TypeId} {pos : String} {after : Array Edge} {gu : Option (Nat × Bool)} (h : loadW P st T (ev st x) K) :
    OpP P n ⟨dst, .load T x, ty, pos, after, gu⟩ st K := by
  obtain ⟨hT, h⟩ := h
  obtain ⟨s, hs, h⟩ := optW_iff h
  split at h
  · rename_i row off hx
    obtain ⟨y, hy, hk⟩ := optW_iff h
    exact OpP.load hT hs rfl y (.inl ⟨row, off, hx, hy⟩) hk
  · rename_i r i off hx
    split at h
    · rename_i cs hr
      obtain ⟨rfl, h⟩ := h
      obtain ⟨y, hy, hk⟩ := optW_iff h
      exact OpP.load hT hs rfl y (.inr (.inl ⟨r, off, cs, hx, hr, hy⟩)) hk
    · rename_i sz rows lim hr
      obtain ⟨hi, h⟩ := h
      obtain ⟨y, hy, hk⟩ := optW_iff (h _ (List.getElem?_eq_getElem hi))
      exact OpP.load hT hs rfl y (.inr (.inr ⟨r, i, off, sz, rows, lim, _, hx, hr, List.getElem?_eq_getElem hi, hy⟩)) hk
    · exact h.elim
  · exact h.elim

theorem idxW_sound {st : St} {T : Nat} {x i : Operand} {K : AV → Prop} {dst : Option Tmp} {ty : TypeId} {pos : String} {after : Array Edge} {gu : Option (Nat × Bool)} (h : idxW P st T (ev st x) (ev st i) K) :
    OpP P n ⟨dst, .indexAddr T x i, ty, pos, after, gu⟩ st K := by
  obtain ⟨e, he, h⟩ := optW_iff h
  obtain ⟨s, hs, h⟩ := optW_iff h
  split at h <;> try (exact h.elim)
  rename_i k m hi
  split at h <;> try (exact h.elim)
  · rename_i rows hx
    exact OpP.indexAddr_sl (elemOf_some he) hs rows k m hx hi h.1 h.2
  · rename_i r off len hx
    split at h <;> try (exact h.elim)
    rename_i sz rows lim hr
    obtain ⟨rfl, hb, hk⟩ := h
    exact OpP.indexAddr_vs (elemOf_some he) hs r off len lim rows k m hx hr hi hb hk

theorem sliceW_sound {st : St} {T : Nat} {x : Operand} {lo hi : Option Operand} {K : AV → Prop} {dst : Option Tmp} {ty : TypeId} {pos : String} {after : Array Edge} {gu : Option (Nat × Bool)} (h : sliceW P st T (ev st x) lo hi K) :
    OpP P n ⟨dst, .slice T x lo hi none, ty, pos, after, gu⟩ st K := by
  unfold sliceW at h
  split at h
  · rename_i s hx
    obtain ⟨hT, h⟩ := h
    obtain ⟨l, hl, h⟩ := optW_iff h
    obtain ⟨m, hm, h⟩ := optW_iff h
    exact OpP.slice_str hT s l m hx hl hm h.1 h.2
  · rename_i rows hx
    obtain ⟨e, he, h⟩ := optW_iff h
    obtain ⟨s, hs, h⟩ := optW_iff h
    obtain ⟨l, hl, h⟩ := optW_iff h
    obtain ⟨m, hm, h⟩ := optW_iff h
    exact OpP.slice_sl (elemOf_some he) hs rows l m (fun _ _ _ h => hx ▸ h) hl hm h.1 h.2.1 h.2.2
  · rename_i r off len hx
    obtain ⟨e, he, h⟩ := optW_iff h
    obtain ⟨s, hs, h⟩ := optW_iff h
    split at h <;> try (exact h.elim)
    rename_i sz rows lim hr
    obtain ⟨rfl, h⟩ := h
    obtain ⟨l, hl, h⟩ := optW_iff h
    obtain ⟨m, hm, h⟩ := optW_iff h
    exact OpP.slice_vs (elemOf_some he) hs r off len lim rows l m hx hr hl hm h.1 h.2
  · rename_i hx
    obtain ⟨e, he, h⟩ := optW_iff h
    obtain ⟨s, hs, h⟩ := optW_iff h
    obtain ⟨l, hl, h⟩ := optW_iff h
    obtain ⟨m, hm, h⟩ := optW_iff h
    refine OpP.slice_sl (elemOf_some he) hs [] l m (fun _ _ v h => ?_) hl hm h.1 (by simp) (by simpa using h.2)
    rw [hx] at h
    rw [h.con_eq]
    exact .d _ _ (.sl [] none 0 0 0 0 (fun _ _ => undef) rfl (by omega) (by simp) (by simp) (by simp))
  · exact h.elim

theorem lenW_sound {st : St} {T : Nat} {x : Operand} {K : AV → Prop} {dst : Option Tmp} {ty : TypeId} {pos : String} {after : Array Edge} {gu : Option (Nat × Bool)} (h : lenW P T (ev st x) K) :
    OpP P n ⟨dst, .call ⟨.builtin .len, #[x], #[T]⟩, ty, pos, after, gu⟩ st K := by
  have el : (elemOf P T).isSome = true → lenOk P T = true ∧ ∃ e, P.underlying T = some (.slice e) := by
    intro he
    obtain ⟨e, he⟩ := Option.isSome_iff_exists.1 he
    have := elemOf_some he
    exact ⟨by unfold lenOk; rw [this], e, this⟩
  unfold lenW at h
  split at h
  · rename_i s hx
    exact OpP.len (m := s.size) (by unfold lenOk; rw [h.1]) (by rw [hx]; rfl) (fun _ _ => h.1) (fun hn => absurd hx (hn s)) h.2
  · rename_i a len c hx
    obtain ⟨h1, h2⟩ := el h.1
    exact OpP.len (m := len) h1 (by rw [hx]; rfl) (fun s hs => by rw [hx] at hs; cases hs) (fun _ => h2) h.2
  · rename_i rows hx
    obtain ⟨h1, h2⟩ := el h.1
    exact OpP.len (m := rows.length) h1 (by rw [hx]; rfl) (fun s hs => by rw [hx] at hs; cases hs) (fun _ => h2) h.2
  · rename_i r off len hx
    obtain ⟨h1, h2⟩ := el h.1
    exact OpP.len (m := len) h1 (by rw [hx]; rfl) (fun s hs => by rw [hx] at hs; cases hs) (fun _ => h2) h.2
  · exact h.elim

theorem storeW_sound {st : St} {T : Nat} {x v : Operand} {K : AV → St → Prop} {dst : Option Tmp} {ty : TypeId} {pos : String} {after : Array Edge} {gu : Option (Nat × Bool)} (h : storeW P st T (ev st x) (ev st v) fun st' => K (.d .any) st') :
    OpE P n p ⟨dst, .store T x v, ty, pos, after, gu⟩ st K := by
  unfold storeW at h
  split at h <;> try (exact h.elim)
  rename_i r i off hx
  split at h <;> try (exact h.elim)
  · rename_i cs hr
    obtain ⟨rfl, h⟩ := h
    obtain ⟨ns, hns, hs, h1, hle, hk⟩ := optW_iff h
    exact OpE.store_box r off cs ns hx hr hns hs (fun c hc => List.all_eq_true.1 h1 c hc) hle hk
  · obtain ⟨⟨d, R'⟩, hd, h⟩ := optW_iff h
    obtain ⟨ds, hds, h⟩ := optW_iff h
    split at h <;> try (exact h.elim)
    rename_i sz rows lim hr
    obtain ⟨hi, hlim, hs, h1, h⟩ := h
    obtain ⟨hle, hk⟩ := h _ (List.getElem?_eq_getElem hi)
    exact OpE.store_arr r i off sz lim rows _ ds d R' hx hd hr (List.getElem?_eq_getElem hi) hds hs (fun c hc => List.all_eq_true.1 h1 c hc) hle hlim hk

theorem appendW_sound {st : St} {T tx : Nat} {s x : Operand} {K : AV → St → Prop} {dst : Option Tmp} {ty : TypeId} {pos : String} {after : Array Edge} {gu : Option (Nat × Bool)}
    (h : appendW P p st T tx (ev st s) (ev st x) K) : OpE P n p ⟨dst, .call ⟨.builtin .append, #[s, x], #[T, tx]⟩, ty, pos, after, gu⟩ st K := by
  obtain ⟨htx, h⟩ := h
  obtain ⟨e', he'⟩ := Option.isSome_iff_exists.1 htx
  obtain ⟨e, he, h⟩ := optW_iff h
  obtain ⟨⟨sz, bytes, z⟩, hi, h⟩ := optW_iff h
  obtain ⟨i, hi1, hi2, hi3, hi4⟩ := infoOf_some hi
  simp only at h hi2 hi3 hi4
  obtain ⟨hzl, h⟩ := h
  obtain ⟨rows2, hsrc, hrow, h⟩ := optW_iff h
  refine .of_left fun M β a w hrel => ?_
  have hxv := ev_rel hrel x
  have hsv := ev_rel hrel s
  have fin : ∀ {u' : Value} {w' : World}, (Builtin.append_ #[T, tx] ty #[a.eval s, a.eval x]).run P w = .ok u' w' →
      (execOp a.eval ⟨dst, .call ⟨.builtin .append, #[s, x], #[T, tx]⟩, ty, pos, after, gu⟩).run P w = .ok (.value u') w' := by
    intro u' w' hrun
    simp [execOp, resolve, invoke, builtin, hrun]
  split at h <;> try (exact h.elim)
  · rename_i r off len hs
    split at h <;> try (exact h.elim)
    rename_i sz' rows lim hr
    obtain ⟨⟨rfl, hoff, hlim, hp⟩, hb, hk⟩ := h
    rw [hs] at hsv
    obtain ⟨u', w', s', hrun, hv, hr', hl⟩ := append_core (P := P) (p := p) (ty := ty) hrel (elemOf_some he) i hi1 z hi2 hi3 hi4 hzl _ _ r off len lim rows rows2 hsv hr hoff hlim tx e' (elemOf_some he') _ hxv hsrc hrow hb.1 hb.2 hp
    exact .val (fin hrun) hk hv hr' hl
  · rename_i hs
    obtain ⟨hp, hb, hk⟩ := h
    rw [hs] at hsv
    have hsv := hsv.con_eq
    -- a root of no memory first
    have hsame := addW_same hrel.holds Slot.virt
    have hadd := hrel.holds.add (Ext.refl w) .virt (.arr sz [] 0) (by intro l hl; cases hl) (.virt sz 0)
    have hrel1 : Rel n M (addW β st.roots.length .virt) { st with roots := st.roots ++ [.arr sz [] 0] } a w := ⟨hrel.size, hrel.defers, fun t => (hrel.env t).mono (fun _ _ _ h => h) hsame, hadd⟩
    have hsrc1 : srcRows { st with roots := st.roots ++ [.arr sz [] 0] } (ev st x) = some rows2 := by
      unfold srcRows at hsrc ⊢
      split at hsrc
      · exact hsrc
      · exact hsrc
      · rename_i r2 off2 len2 hx2
        split at hsrc <;> try (cases hsrc; done)
        rename_i hr2
        have : r2 < st.roots.length := (List.getElem?_eq_some_iff.1 hr2).1
        simp only [List.getElem?_append_left this, hr2]
        exact hsrc
      · cases hsrc
    obtain ⟨u', w', s', hrun, hv, hr', hl⟩ := append_core (P := P) (p := p) (ty := ty) hrel1 (elemOf_some he) i hi1 z hi2 hi3 hi4 hzl (a.eval s) (a.eval x) st.roots.length 0 0 0 [] rows2
      (by rw [hsv]; exact .vsV _ none (by simp [addW])) (by simp) (by simp) (by simp) tx e' (elemOf_some he') _ (hxv.mono (fun _ _ _ h => h) hsame) hsrc1 hrow (by simpa using hb.1) (by simpa using hb.2) hp
    have hl0 : Later p M β w M (addW β st.roots.length .virt) w := Later.add hrel.holds (Ext.refl w) .virt (by intro l hl; cases hl) (fun _ _ _ h => h) (fun _ _ _ => rfl)
    refine .val (fin hrun) hk (by simpa using hv) ?_ (hl0.trans hl)
    have e1 : ((st.roots ++ [Root.arr sz [] 0]).map (renR (killF st.roots.length))).set st.roots.length (.arr sz (([] : List (List D)).drop 0 |>.take 0 |> (· ++ rows2)) (0 - 0)) =
        st.roots.map (renR (killF st.roots.length)) ++ [.arr sz rows2 0] := by
      rw [List.map_append, List.set_append_right _ _ (by simp)]
      simp
    rw [← e1]
    exact hr'

theorem isPtrT_some {T : Nat} (h : isPtrT P T = true) : ∃ e, P.underlying T = some (.pointer e) := by
  unfold isPtrT at h
  split at h
  · exact ⟨_, by assumption⟩
  · cases h
theorem isBoolT_some {T : Nat} (h : isBoolT P T = true) : P.underlying T = some .bool := by
  unfold isBoolT at h
  split at h
  · assumption
  · cases h
theorem run_equalIn_nil (d : Nat) {T e : Nat} (h : P.underlying T = some (.pointer e)) (a : Addr) (w : World) : (Op.equalIn (d + 1) T (.pointer (some a)) (.pointer none)).run P w = .ok false w := by
  simp [Op.equalIn, run_underlying h]
theorem run_equal_nil {T e : Nat} (h : P.underlying T = some (.pointer e)) (a : Addr) (w : World) : (Op.equal T (.pointer (some a)) (.pointer none)).run P w = .ok false w := run_equalIn_nil 9999 h a w
theorem run_equalIn_b (d : Nat) {T : Nat} (h : P.underlying T = some .bool) (a b : Bool) (w : World) : (Op.equalIn (d + 1) T (.bool a) (.bool b)).run P w = .ok (a == b) w := by
  simp [Op.equalIn, run_underlying h]
theorem run_equal_b {T : Nat} (h : P.underlying T = some .bool) (a b : Bool) (w : World) : (Op.equal T (.bool a) (.bool b)).run P w = .ok (a == b) w := run_equalIn_b 9999 h a b w
theorem run_eqNil {T : Nat} (hT : isPtrT P T = true) (a : Addr) (x y : Operand) (w : World) :
    (do eqGuard .eql T x y (.pointer (some a)) (.pointer none); binOp .eql T (.pointer (some a)) (.pointer none) : Sem Value).run P w = .ok (.bool false) w := by
  obtain ⟨e, he⟩ := isPtrT_some hT
  have h1 : (eqGuard .eql T x y (.pointer (some a)) (.pointer none)).run P w = .ok () w := by simp [eqGuard]
  have h2 : (binOp .eql T (.pointer (some a)) (.pointer none)).run P w = .ok (.bool false) w := by
    simp only [binOp]; simp [run_equal_nil he]
  simp only [Sem.run_bind, h1, Result.andThen_ok, h2]
theorem run_neqNil {T : Nat} (hT : isPtrT P T = true) (a : Addr) (x y : Operand) (w : World) :
    (do eqGuard .neq T x y (.pointer (some a)) (.pointer none); binOp .neq T (.pointer (some a)) (.pointer none) : Sem Value).run P w = .ok (.bool true) w := by
  obtain ⟨e, he⟩ := isPtrT_some hT
  have h1 : (eqGuard .neq T x y (.pointer (some a)) (.pointer none)).run P w = .ok () w := by simp [eqGuard]
  have h2 : (binOp .neq T (.pointer (some a)) (.pointer none)).run P w = .ok (.bool true) w := by
    simp only [binOp]; simp [run_equal_nil he]
  simp only [Sem.run_bind, h1, Result.andThen_ok, h2]
theorem run_binT {op : BinOp} {T : TypeId} {u v r : Value} (h : binT P op T u v = some r) (x y : Operand) (w : World) :
    (do eqGuard op T x y u v; binOp op T u v : Sem Value).run P w = .ok r w := by
  unfold binT at h
  split at h
  · rename_i a b
    split at h
    · split at h <;> simp only [Option.some.injEq, reduceCtorEq] at h
      rename_i hT
      subst h
      have h1 : (eqGuard .eql T x y (.bool a) (.bool b)).run P w = .ok () w := by simp [eqGuard]
      have h2 : (binOp .eql T (.bool a) (.bool b)).run P w = .ok (.bool (a == b)) w := by
        simp only [binOp]; simp [run_equal_b (isBoolT_some hT)]
      simp only [Sem.run_bind, h1, Result.andThen_ok, h2]
    · split at h <;> simp only [Option.some.injEq, reduceCtorEq] at h
      rename_i hT
      subst h
      have h1 : (eqGuard .neq T x y (.bool a) (.bool b)).run P w = .ok () w := by simp [eqGuard]
      have h2 : (binOp .neq T (.bool a) (.bool b)).run P w = .ok (.bool (a != b)) w := by
        simp only [binOp]; simp [run_equal_b (isBoolT_some hT), bne]
      simp only [Sem.run_bind, h1, Result.andThen_ok, h2]
    · cases h
  · exact run_binV h x y w
section
variable {st : St} {T T' : TypeId} {x y : Operand} {K : AV → Prop} {dst : Option Tmp} {ty : TypeId} {pos : String} {after : Array Edge} {gu : Option (Nat × Bool)}
theorem OpP.binT {op : BinOp} (u v r : Value) (hx : ev st x = .d (.con u)) (hy : ev st y = .d (.con v)) (hr : Al.binT P op T u v = some r)
    (h : K (.d (.con r))) : OpP P n ⟨dst, .binOp op T x y T', ty, pos, after, gu⟩ st K := by
  intro M β a w hrel
  have h1 := ev_rel hrel x
  have h2 := ev_rel hrel y
  rw [hx] at h1
  rw [hy] at h2
  refine ⟨r, _, h, .d _ _ (.con r), .of fun w' _ => ?_⟩
  have := run_binT (P := P) (T := T) hr x y w'
  simp only [execOp, h1.con_eq, h2.con_eq, Sem.run_bind] at *
  rw [this]; rfl
theorem OpP.nilCmp {op : BinOp} {b : Bool} (hop : (op = .eql ∧ b = false) ∨ (op = .neq ∧ b = true)) (r i off : Nat) (hT : isPtrT P T = true) (hx : ev st x = .ptr r i off) (hy : ev st y = .d (.con (.pointer none)))
    (h : K (.d (.con (.bool b)))) : OpP P n ⟨dst, .binOp op T x y T', ty, pos, after, gu⟩ st K := by
  intro M β a w hrel
  have h1 := ev_rel hrel x
  have h2 := ev_rel hrel y
  rw [hx] at h1
  rw [hy] at h2
  refine ⟨_, _, h, .d _ _ (.con _), .of fun w' _ => ?_⟩
  have e2 := h2.con_eq
  obtain ⟨ad, e1⟩ : ∃ ad, a.eval x = .pointer (some ad) := by
    generalize a.eval x = u at *
    cases h1
    exact ⟨_, rfl⟩
  simp only [execOp, e1, e2]
  rcases hop with ⟨rfl, rfl⟩ | ⟨rfl, rfl⟩
  · have := run_eqNil hT ad x y w'
    simp only [Sem.run_bind] at *
    rw [this]; rfl
  · have := run_neqNil hT ad x y w'
    simp only [Sem.run_bind] at *
    rw [this]; rfl
theorem OpP.maxMin {args : Array Operand} {ats : Array TypeId} (big : Bool) (hs : args.size = 2)
    (h : maxW big (ev st (args.getD 0 (.const undef))) (ev st (args.getD 1 (.const undef))) K) : OpP P n ⟨dst, .call ⟨.builtin (if big then .max else .min), args, ats⟩, ty, pos, after, gu⟩ st K := by
  obtain ⟨x, y, rfl⟩ : ∃ x y, args = #[x, y] := by
    match args, hs with
    | ⟨[x, y]⟩, _ => exact ⟨x, y, rfl⟩
  unfold maxW at h
  split at h
  · rename_i k a k' b hx hy
    obtain ⟨rfl, h⟩ := h
    have hx : ev st x = .d (.con (.int k a)) := hx
    have hy : ev st y = .d (.con (.int k b)) := hy
    intro M β ac w hrel
    have h1 := ev_rel hrel x
    have h2 := ev_rel hrel y
    rw [hx] at h1
    rw [hy] at h2
    refine ⟨_, _, h, .d _ _ (.con _), .of fun w' _ => ?_⟩
    cases big
    · simp [execOp, resolve, invoke, builtin, h1.con_eq, h2.con_eq, Builtin.min_, Builtin.min2]
      split <;> omega
    · simp [execOp, resolve, invoke, builtin, h1.con_eq, h2.con_eq, Builtin.max_, Builtin.max2]
      split <;> omega
  · exact h.elim
end

/-- What must hold ahead of an operation that only looks serves. -/
theorem opP_sound {o : Oper} {st : St} {K : AV → Prop} (h : opP P o.op st K) : OpP P n o st K := by
  obtain ⟨dst, op, ty, pos, after, gu⟩ := o
  simp only at h
  unfold opP at h
  split at h
  · exact (.move h)
  · exact (.assign h)
  · rename_i c x y
    unfold boolW at h
    split at h
    · rename_i t hc
      exact (.pick t hc h.1 h.2)
    · exact h.elim
  · unfold binW at h
    split at h
    · rename_i u v hu hv
      obtain ⟨r, hr, h⟩ := optW_iff h
      exact .binT u v r hu hv hr h
    · rename_i r i off hu hv
      obtain ⟨hT, h⟩ := h
      rcases h with ⟨e, h⟩ | ⟨e, h⟩
      · exact .nilCmp (.inl ⟨e, rfl⟩) r i off hT hu hv h
      · exact .nilCmp (.inr ⟨e, rfl⟩) r i off hT hu hv h
    · exact h.elim
  · obtain ⟨u, hu, h⟩ := conW_iff h
    obtain ⟨r, hr, h⟩ := optW_iff h
    exact (.un u r hu hr h)
  · unfold convW at h
    split at h
    · rename_i k m hx
      obtain ⟨hs, h⟩ := h
      obtain ⟨k', hk', h⟩ := optW_iff h
      unfold intKindOf at hk'
      split at hk'
      · rename_i hu
        cases hk'
        exact (.conv_int k _ m hs hu hx h)
      · cases hk'
    · exact h.elim
  · unfold nilW at h
    split at h
    · rename_i r i off hx; exact (.nilCheck _ hx (.inl ⟨r, i, off, rfl⟩) h)
    · rename_i row off hx; exact (.nilCheck _ hx (.inr (.inl ⟨row, off, rfl⟩)) h)
    · rename_i f cs hx; exact (.nilCheck _ hx (.inr (.inr ⟨f, cs, rfl⟩)) h)
    · exact h.elim
  · exact (loadW_sound h)
  · obtain ⟨o, ho, h⟩ := optW_iff h
    unfold fieldW at h
    split at h
    · rename_i row off hx; exact (.fieldAddr ho _ (.inl ⟨row, off, hx, rfl⟩) h)
    · rename_i r i off hx; exact (.fieldAddr ho _ (.inr ⟨r, i, off, hx, rfl⟩) h)
    · exact h.elim
  · exact (idxW_sound h)
  · obtain ⟨hT, h⟩ := h
    split at h <;> try (exact h.elim)
    rename_i k m hi
    split at h <;> try (exact h.elim)
    rename_i s hx
    exact (.index_str hT s k m hx hi h.1 h.2)
  · split at h <;> try (exact h.elim)
    rename_i vs hx
    obtain ⟨y, hy, h⟩ := optW_iff h
    exact (.extract vs y hx hy h)
  · obtain ⟨rfl, h⟩ := h
    exact (sliceW_sound h)
  · obtain ⟨cs, hcs, h⟩ := optW_iff h
    exact (.build cs hcs h)
  · obtain ⟨rfl, h⟩ := h
    split at h
    · exact (.makeFunc h)
    · exact h.elim
  · rename_i args ats
    obtain ⟨h1, h2, h⟩ := h
    obtain ⟨x, rfl⟩ : ∃ x, args = #[x] := by
      match args, h1 with
      | ⟨[x]⟩, _ => exact ⟨x, rfl⟩
    obtain ⟨T, rfl⟩ : ∃ x, ats = #[x] := by
      match ats, h2 with
      | ⟨[x]⟩, _ => exact ⟨x, rfl⟩
    exact (lenW_sound h)
  · rename_i args ats
    obtain ⟨h1, h⟩ := h
    exact .maxMin true h1 h
  · rename_i args ats
    obtain ⟨h1, h⟩ := h
    exact .maxMin false h1 h
  · exact lookW_sound h
  · exact h.elim

/-- What must hold ahead of an operation serves. -/
theorem opA_sound {o : Oper} {st : St} {K : AV → St → Prop} (h : opA P p o.op st K) : OpE P n p o st K := by
  obtain ⟨dst, op, ty, pos, after, gu⟩ := o
  simp only at h
  unfold opA at h
  split at h
  · obtain ⟨cs, hcs, h⟩ := optW_iff h
    exact .box cs hcs h
  · obtain ⟨z, hz, h⟩ := optW_iff h
    obtain ⟨cs, hcs, h⟩ := optW_iff h
    exact .alloc z hz cs hcs h
  · obtain ⟨e, he, h⟩ := optW_iff h
    obtain ⟨sz, hsz, hz, h⟩ := optW_iff h
    obtain ⟨⟨rows, R'⟩, hr, hl, hk⟩ := optW_iff h
    obtain ⟨z, hz⟩ := Option.isSome_iff_exists.1 hz
    exact .buildSlice (elemOf_some he) hsz z hz rows R' hr hl.1 hl.2 hk
  · obtain ⟨e, he, h⟩ := optW_iff h
    obtain ⟨⟨sz, bytes, z⟩, hi, h⟩ := optW_iff h
    obtain ⟨zr, hzr, h⟩ := optW_iff h
    obtain ⟨i, hi1, hi2, hi3, hi4⟩ := infoOf_some hi
    split at h <;> try (exact h.elim)
    rename_i k m hx
    split at h <;> try (exact h.elim)
    rename_i k' m' hy
    exact .makeSlice (elemOf_some he) z i hi1 hi2 hi3 hi4 zr hzr h.1.1 h.1.2 k k' m m' hx hy h.2.1.1 h.2.1.2.1 h.2.1.2.2.1 h.2.1.2.2.2 h.2.2
  · exact storeW_sound h
  · rename_i args ats
    obtain ⟨h1, h2, h⟩ := h
    obtain ⟨x, y, rfl⟩ : ∃ x y, args = #[x, y] := by
      match args, h1 with
      | ⟨[x, y]⟩, _ => exact ⟨x, y, rfl⟩
    obtain ⟨T, T', rfl⟩ : ∃ x y, ats = #[x, y] := by
      match ats, h2 with
      | ⟨[x, y]⟩, _ => exact ⟨x, y, rfl⟩
    exact appendW_sound h
  · obtain ⟨mk, h⟩ := h
    exact .makeMap mk h
  · exact (updW_sound h).1
  · exact (updW_sound h).2
  · exact .of_pure (opP_sound h)

end Go.Al
