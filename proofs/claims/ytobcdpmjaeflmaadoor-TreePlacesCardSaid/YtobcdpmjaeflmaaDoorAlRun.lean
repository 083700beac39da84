/- Al: the precondition as a program that weak head reduction runs: values are forced, side conditions stand in structures. -/
import Derived.Test.YtobcdpmjaeflmaaDoorAl3
set_option linter.unusedVariables false
set_option linter.unusedSimpArgs false
namespace Go.Al
attribute [simp] optW_some optW_none optW_map optW_bind
variable {P : Program} {n : Nat} {p : Nat → Prop}

/-- Where reduction stops. -/
structure Side (φ : Prop) : Prop where
  out : φ

/-! ### Types, as a table -/
inductive TK where
  | bool
  | int (k : IntKind)
  | str
  | slice (e : Nat)
  | struct (offs : List (Nat × Nat))
  | ptr
  | map (mk : MK) (e : Nat)
  | other
structure TI where
  sz : Nat
  bytes : Nat
  agg : Bool
  kind : TK
  zero : Option Value
def tat : List TI → Nat → Option TI
  | [], _ => none
  | x :: _, 0 => some x
  | _ :: l, n + 1 => tat l n
def KindOk (P : Program) (T : Nat) : TK → Prop
  | .bool => P.underlying T = some .bool
  | .int k => P.underlying T = some (.int k)
  | .str => P.underlying T = some .string
  | .slice e => P.underlying T = some (.slice e)
  | .struct offs => ∃ fs, P.underlying T = some (.struct fs) ∧ (fs.toList.mapM fun f => (P.info? f.type).map fun i => (f.offset, i.size)) = some offs
  | .ptr => isPtrT P T = true
  | .map mk e => mapOf P T mk e
  | .other => True
structure TiOk (P : Program) (T : Nat) (i : TI) : Prop where
  sz : szOf P T = some i.sz
  und : (P.underlying T).isSome = true
  agg : aggOf P T = i.agg
  kind : KindOk P T i.kind
  zero : ∀ z, i.zero = some z → zeroOf P T = some z ∧ infoOf P T = some (i.sz, i.bytes, z)
def TabFrom (P : Program) : Nat → List TI → Prop
  | _, [] => True
  | k, i :: l => TiOk P k i ∧ TabFrom P (k + 1) l
theorem tab_at : ∀ {l : List TI} {k T : Nat} {i : TI}, TabFrom P k l → tat l T = some i → TiOk P (k + T) i
  | [], _, _, _, _, h => by simp [tat] at h
  | x :: l, k, 0, i, hl, h => by simp [tat] at h; subst h; exact hl.1
  | x :: l, k, T + 1, i, hl, h => by
    have := tab_at hl.2 (by simpa [tat] using h)
    rwa [show k + (T + 1) = k + 1 + T from by omega]
def TabOk (P : Program) (tab : List TI) : Prop := ∀ T i, tat tab T = some i → TiOk P T i
theorem TabOk.of {tab : List TI} (h : TabFrom P 0 tab) : TabOk P tab := fun T i ht => by
  have := tab_at h ht
  rwa [Nat.zero_add] at this

/-! ### Forcing -/
def forceN (n : Nat) (K : Nat → Prop) : Prop := match n with
  | 0 => K 0
  | 1 => K 1
  | 2 => K 2
  | 3 => K 3
  | 4 => K 4
  | 5 => K 5
  | 6 => K 6
  | 7 => K 7
  | 8 => K 8
  | 9 => K 9
  | 10 => K 10
  | 11 => K 11
  | 12 => K 12
  | n => K n
theorem forceN_eq (n : Nat) (K : Nat → Prop) : forceN n K = K n := by
  unfold forceN
  split <;> rfl
def forceV (v : Value) (K : Value → Prop) : Prop := match v with
  | .int k n => K (.int k n)
  | .bool b => K (.bool b)
  | .string s => K (.string s)
  | .slice a l c => K (.slice a l c)
  | .pointer a => K (.pointer a)
  | .agg cs => K (.agg cs)
  | .tuple cs => K (.tuple cs)
  | v => K v
theorem forceV_eq (v : Value) (K : Value → Prop) : forceV v K = K v := by cases v <;> rfl
def forceD (d : D) (K : D → Prop) : Prop := match d with
  | .con v => forceV v fun v => K (.con v)
  | .sl rows => K (.sl rows)
  | .agg cs => K (.agg cs)
  | .any => K .any
  | .cell => K .cell
theorem forceD_eq (d : D) (K : D → Prop) : forceD d K = K d := by cases d <;> simp only [forceD, forceV_eq]
mutual
def force : AV → (AV → Prop) → Prop
  | .d x, K => forceD x fun x => K (.d x)
  | .vs r off len, K => forceN r fun r => K (.vs r off len)
  | .ptr r i off, K => forceN r fun r => forceN off fun off => K (.ptr r i off)
  | .fptr row off, K => forceN off fun off => K (.fptr row off)
  | .agg cs, K => forceL cs fun cs => K (.agg cs)
  | .tup cs, K => forceL cs fun cs => K (.tup cs)
  | .fn f cs, K => forceL cs fun cs => K (.fn f cs)
  | .gd b x, K => K (.gd b x)
  | .mp r, K => forceN r fun r => K (.mp r)
def forceL : List AV → (List AV → Prop) → Prop
  | [], K => K []
  | v :: vs, K => force v fun v => forceL vs fun vs => K (v :: vs)
end
mutual
theorem force_eq : ∀ (v : AV) (K : AV → Prop), force v K = K v
  | .d x, K => by simp only [force, forceD_eq]
  | .vs r off len, K => by simp only [force, forceN_eq]
  | .ptr r i off, K => by simp only [force, forceN_eq]
  | .fptr row off, K => by simp only [force, forceN_eq]
  | .agg cs, K => by simp only [force, forceL_eq cs]
  | .tup cs, K => by simp only [force, forceL_eq cs]
  | .fn f cs, K => by simp only [force, forceL_eq cs]
  | .gd b x, K => by simp only [force]
  | .mp r, K => by simp only [force, forceN_eq]
theorem forceL_eq : ∀ (cs : List AV) (K : List AV → Prop), forceL cs K = K cs
  | [], K => by simp only [forceL]
  | v :: vs, K => by simp only [forceL, force_eq v, forceL_eq vs]
end
def forceE : List (Nat × AV) → (List (Nat × AV) → Prop) → Prop
  | [], K => K []
  | (t, v) :: e, K => force v fun v => forceE e fun e => K ((t, v) :: e)
theorem forceE_eq : ∀ (e : List (Nat × AV)) (K : List (Nat × AV) → Prop), forceE e K = K e
  | [], K => rfl
  | (t, v) :: e, K => by simp only [forceE, force_eq, forceE_eq e]
def forceR : Root → (Root → Prop) → Prop
  | .box cs, K => forceL cs fun cs => K (.box cs)
  | .arr sz rows lim, K => forceN sz fun sz => K (.arr sz rows lim)
  | .dead, K => K .dead
  | .map k es, K => K (.map k es)
theorem forceR_eq (r : Root) (K : Root → Prop) : forceR r K = K r := by
  cases r <;> simp only [forceR, forceL_eq, forceN_eq]
def forceRs : List Root → (List Root → Prop) → Prop
  | [], K => K []
  | r :: rs, K => forceR r fun r => forceRs rs fun rs => K (r :: rs)
theorem forceRs_eq : ∀ (rs : List Root) (K : List Root → Prop), forceRs rs K = K rs
  | [], K => rfl
  | r :: rs, K => by simp only [forceRs, forceR_eq, forceRs_eq rs]
def forceS (st : St) (K : St → Prop) : Prop := forceE st.env fun e => forceRs st.roots fun rs => K ⟨e, rs⟩
theorem forceS_eq (st : St) (K : St → Prop) : forceS st K = K st := by simp only [forceS, forceE_eq, forceRs_eq]

/-- A truth value is taken apart. -/
def splitV (v : AV) (K : AV → Prop) : Prop := match v with
  | .d (.con (.bool t)) => (t = true → K (.d (.con (.bool true)))) ∧ (t = false → K (.d (.con (.bool false))))
  | v => K v
theorem splitV_imp {v : AV} {K : AV → Prop} (h : splitV v K) : K v := by
  unfold splitV at h
  split at h
  · rename_i t
    cases t
    · exact h.2 rfl
    · exact h.1 rfl
  · exact h
def lk : List (Nat × AV) → Nat → AV
  | [], _ => .d .any
  | (k, v) :: e, t => cond (Nat.beq k t) v (lk e t)
theorem lk_eq : ∀ (e : List (Nat × AV)) (t : Nat), lk e t = look e t
  | [], _ => rfl
  | (k, v) :: e, t => by
    simp only [lk, look, lk_eq e t]
    by_cases h : k = t
    · subst h; simp
    · have : Nat.beq k t = false := by
        cases hb : Nat.beq k t with
        | false => rfl
        | true => exact absurd (Nat.eq_of_beq_eq_true hb) h
      simp [this, h]
def evX (env : List (Nat × AV)) : Operand → AV
  | .tmp t => lk env t
  | .const v => .d (.con v)
  | .func f => .fn f []
  | .global g => .d (.con (.pointer (some ⟨g, 0, none⟩)))
theorem evX_eq (env : List (Nat × AV)) (roots : List Root) (x : Operand) : evX env x = ev ⟨env, roots⟩ x := by
  cases x <;> simp only [evX, ev, lk_eq]

/-! ### Operations that only look -/
def szT (tab : List TI) (T : Nat) (K : Nat → Prop) : Prop := match tat tab T with
  | some i => K i.sz
  | none => False
def pickX (c x y : AV) (K : AV → Prop) : Prop := match c with
  | .d (.con (.bool t)) => cond t (K x) (K y)
  | _ => False
/-- A test: both ways. -/
def two (φ : Prop) (K : AV → Prop) : Prop := (φ → K (.d (.con (.bool true)))) ∧ (¬ φ → K (.d (.con (.bool false))))
theorem two_imp {φ : Prop} {K : AV → Prop} (h : two φ K) (b : Bool) (hb : b = true ↔ φ) : K (.d (.con (.bool b))) := by
  cases b
  · exact h.2 fun hp => by simpa using hb.2 hp
  · exact h.1 (hb.1 rfl)
def sameB : Bool → Bool → Bool
  | true, b => b
  | false, true => false
  | false, false => true
theorem wrap_i64 {a : Int} (h : -9223372036854775808 ≤ a ∧ a ≤ 9223372036854775807) : IntKind.wrap .i64 a = a := by
  rw [IntKind.wrap_i64]
  omega
/-- A sum that is in its range. -/
def addX (k : IntKind) (r : Int) (K : AV → Prop) : Prop := match k with
  | .i64 => Side (-9223372036854775808 ≤ r ∧ r ≤ 9223372036854775807) ∧ K (.d (.con (.int .i64 r)))
  | k => K (.d (.con (.int k (k.wrap r))))
theorem addX_imp {k : IntKind} {r : Int} {K : AV → Prop} (h : addX k r K) : K (.d (.con (.int k (k.wrap r)))) := by
  unfold addX at h
  split at h
  · rw [wrap_i64 h.1.out]; exact h.2
  · exact h
def binX (tab : List TI) (op : BinOp) (T : Nat) (x y : AV) (K : AV → Prop) : Prop := match x, y with
  | .d (.con (.int k a)), .d (.con (.int k' b)) => Side (k = k') ∧ match op with
    | .add => addX k (a + b) K
    | .sub => addX k (a - b) K
    | .mul => K (.d (.con (.int k (k.wrap (a * b)))))
    | .quo => Side (b ≠ 0) ∧ K (.d (.con (.int k (k.wrap (a.tdiv b)))))
    | .rem => Side (b ≠ 0) ∧ K (.d (.con (.int k (a.tmod b))))
    | .eql => two (a = b) K
    | .neq => two (a ≠ b) K
    | .lss => two (a < b) K
    | .leq => two (a ≤ b) K
    | .gtr => two (a > b) K
    | .geq => two (a ≥ b) K
    | _ => False
  | .d (.con (.string a)), .d (.con (.string b)) => match op with
    | .add => Side (a.size + b.size ≤ 9223372036854775807) ∧ K (.d (.con (.string (a ++ b))))
    | .eql => two (bytesEq a b = true) K
    | .neq => two (bytesEq a b = false) K
    | _ => False
  | .d (.con (.bool a)), .d (.con (.bool b)) => match tat tab T with
    | some ⟨_, _, _, .bool, _⟩ => match op with
      | .eql => K (.d (.con (.bool (sameB a b))))
      | .neq => K (.d (.con (.bool (not (sameB a b)))))
      | _ => False
    | _ => False
  | .ptr _ _ _, .d (.con (.pointer none)) => match tat tab T with
    | some ⟨_, _, _, .ptr, _⟩ => match op with
      | .eql => K (.d (.con (.bool false)))
      | .neq => K (.d (.con (.bool true)))
      | _ => False
    | _ => False
  | _, _ => False
theorem tab_kind {tab : List TI} (ht : TabOk P tab) {T : Nat} {a b : Nat} {c : Bool} {k : TK} {z : Option Value} (h : tat tab T = some ⟨a, b, c, k, z⟩) : KindOk P T k := (ht T _ h).kind
theorem binX_sound {tab : List TI} (ht : TabOk P tab) {op : BinOp} {T : Nat} {x y : AV} {K : AV → Prop} (h : binX tab op T x y K) : binW P op T x y K := by
  unfold binX at h
  split at h
  · rename_i k a k' b
    obtain ⟨⟨rfl⟩, h⟩ := h
    simp only [binW, binT]
    cases op <;> dsimp only at h <;> simp only [binV, if_true, optW_some] <;> try (exact h.elim)
    case add => exact addX_imp h
    case sub => exact addX_imp h
    case mul => exact h
    case quo => rw [if_pos ⟨trivial, h.1.out⟩]; exact h.2
    case rem => rw [if_pos ⟨trivial, h.1.out⟩]; exact h.2
    case eql => exact two_imp h _ (by simp)
    case neq => exact two_imp h _ (by simp)
    case lss => exact two_imp h _ (by simp)
    case leq => exact two_imp h _ (by simp)
    case gtr => exact two_imp h _ (by simp)
    case geq => exact two_imp h _ (by simp)
  · rename_i a b
    simp only [binW, binT]
    cases op <;> dsimp only at h <;> simp only [binV, if_true, optW_some] <;> try (exact h.elim)
    case add => rw [if_pos h.1.out]; exact h.2
    case eql => exact two_imp h _ (by simp)
    case neq => exact two_imp h _ (by simp)
  · rename_i a b
    split at h <;> try (exact h.elim)
    rename_i ha
    have hk := tab_kind ht ha
    have hb : isBoolT P T = true := by unfold isBoolT; rw [show P.underlying T = some .bool from hk]
    simp only [binW, binT]
    cases op <;> dsimp only at h <;> try (exact h.elim)
    · simp only [hb, if_true, optW_some]
      have : (a == b) = sameB a b := by cases a <;> cases b <;> rfl
      rw [this]; exact h
    · simp only [hb, if_true, optW_some]
      have : (a != b) = not (sameB a b) := by cases a <;> cases b <;> rfl
      rw [this]; exact h
  · split at h <;> try (exact h.elim)
    rename_i ha
    have hk := tab_kind ht ha
    simp only [binW]
    cases op <;> dsimp only at h <;> try (exact h.elim)
    · exact ⟨hk, .inl ⟨rfl, h⟩⟩
    · exact ⟨hk, .inr ⟨rfl, h⟩⟩
  · exact h.elim

theorem kind_bool {tab : List TI} (ht : TabOk P tab) {T a b : Nat} {c : Bool} {z : Option Value} (h : tat tab T = some ⟨a, b, c, .bool, z⟩) : P.underlying T = some .bool := tab_kind ht h
theorem kind_int {tab : List TI} (ht : TabOk P tab) {T a b : Nat} {c : Bool} {k : IntKind} {z : Option Value} (h : tat tab T = some ⟨a, b, c, .int k, z⟩) : P.underlying T = some (.int k) := tab_kind ht h
theorem kind_str {tab : List TI} (ht : TabOk P tab) {T a b : Nat} {c : Bool} {z : Option Value} (h : tat tab T = some ⟨a, b, c, .str, z⟩) : P.underlying T = some .string := tab_kind ht h
theorem kind_slice_under {tab : List TI} (ht : TabOk P tab) {T a b e : Nat} {c : Bool} {z : Option Value} (h : tat tab T = some ⟨a, b, c, .slice e, z⟩) : P.underlying T = some (.slice e) := tab_kind ht h
theorem kind_slice {tab : List TI} (ht : TabOk P tab) {T a b e : Nat} {c : Bool} {z : Option Value} (h : tat tab T = some ⟨a, b, c, .slice e, z⟩) : elemOf P T = some e := by
  have : P.underlying T = some (.slice e) := tab_kind ht h
  unfold elemOf
  rw [this]

def unX (op : UnOp) (x : AV) (K : AV → Prop) : Prop := match x with
  | .d (.con (.bool b)) => match op with
    | .not => K (.d (.con (.bool (not b))))
    | _ => False
  | .d (.con (.int k a)) => match op with
    | .neg => addX k (0 - a) K
    | _ => False
  | _ => False
theorem unX_sound {op : UnOp} {x : AV} {K : AV → Prop} (h : unX op x K) : conW x fun u => optW (unV op u) fun r => K (.d (.con r)) := by
  unfold unX at h
  split at h
  · cases op <;> dsimp only at h <;> try (exact h.elim)
    exact h
  · cases op <;> dsimp only at h <;> try (exact h.elim)
    exact addX_imp h
  · exact h.elim

def convX (tab : List TI) (S T : Nat) (x : AV) (K : AV → Prop) : Prop := match x with
  | .d (.con (.int _ m)) => match tat tab S with
    | some _ => match tat tab T with
      | some ⟨_, _, _, .int k', _⟩ => addX k' m K
      | _ => False
    | none => False
  | _ => False
theorem convX_sound {tab : List TI} (ht : TabOk P tab) {S T : Nat} {x : AV} {K : AV → Prop} (h : convX tab S T x K) : convW P S T x K := by
  unfold convX at h
  split at h <;> try (exact h.elim)
  split at h <;> try (exact h.elim)
  rename_i hS
  split at h <;> try (exact h.elim)
  rename_i hT
  refine ⟨(ht S _ hS).und, ?_⟩
  unfold intKindOf
  rw [kind_int ht hT]
  exact addX_imp h

def lat {α : Type} : List α → Nat → Option α
  | [], _ => none
  | x :: _, 0 => some x
  | _ :: l, n + 1 => lat l n
theorem lat_eq {α : Type} : ∀ (l : List α) (n : Nat), lat l n = l[n]?
  | [], _ => by simp [lat]
  | x :: _, 0 => by simp [lat]
  | _ :: l, n + 1 => by simp [lat, lat_eq l n]

/-- What a row of a slice is. -/
structure AllRow (rows : List (List D)) (i : Nat) (K : List D → Prop) : Prop where
  out : ∀ row, rows[i]? = some row → K row
theorem AllRow.map {α : Type} {f : α → List D} {l : List α} {i : Nat} {K : List D → Prop} (h : ∀ x, l[i]? = some x → K (f x)) : AllRow (l.map f) i K := ⟨by
  intro row hr
  rw [List.getElem?_map] at hr
  obtain ⟨x, hx, rfl⟩ := Option.map_eq_some_iff.1 hr
  exact h x hx⟩

def loadX (tab : List TI) (roots : List Root) (T : Nat) (v : AV) (K : AV → Prop) : Prop := match tat tab T with
  | some i => match v with
    | .fptr row off => optW (partA i.agg i.sz (row.map .d) off) fun x => splitV x K
    | .ptr r i' off => match lat roots r with
      | some (.box cs) => Side (i' = 0) ∧ optW (partA i.agg i.sz cs off) fun x => splitV x K
      | some (.arr _ rows _) => Side (i' < rows.length) ∧ AllRow rows i' fun row => optW (partA i.agg i.sz (row.map .d) off) fun x => splitV x K
      | _ => False
    | _ => False
  | none => False
theorem optW_mono {α : Type} {o : Option α} {K K' : α → Prop} (h : optW o K) (hk : ∀ a, K a → K' a) : optW o K' := by
  cases o with
  | none => exact h
  | some a => exact hk a h
theorem loadX_sound {tab : List TI} (ht : TabOk P tab) {roots : List Root} {env : List (Nat × AV)} {T : Nat} {v : AV} {K : AV → Prop} (h : loadX tab roots T v K) : loadW P ⟨env, roots⟩ T v K := by
  unfold loadX at h
  split at h <;> try (exact h.elim)
  rename_i i hT
  have hi := ht T i hT
  refine ⟨hi.und, ?_⟩
  rw [hi.sz, hi.agg]
  simp only [optW_some]
  split at h
  · exact optW_mono h fun _ => splitV_imp
  · rename_i r i' off
    simp only [← lat_eq]
    split at h
    · rename_i cs hr
      simp only [hr]
      exact ⟨h.1.out, optW_mono h.2 fun _ => splitV_imp⟩
    · rename_i rows _ hr
      simp only [hr]
      exact ⟨h.1.out, fun row hrow => optW_mono (h.2.out row (by rw [← lat_eq]; exact hrow)) fun _ => splitV_imp⟩
    · exact h.elim
  · exact h.elim

def fieldX (tab : List TI) (T f : Nat) (v : AV) (K : AV → Prop) : Prop := match tat tab T with
  | some ⟨_, _, _, .struct offs, _⟩ => match lat offs f with
    | some ⟨o, _ + 1⟩ => fieldW v o K
    | _ => False
  | _ => False
theorem mapM_at' {α β : Type} {g : α → Option β} : ∀ {l : List α} {r : List β} {i : Nat} {b : β}, l.mapM g = some r → r[i]? = some b → ∃ a, l[i]? = some a ∧ g a = some b
  | [], r, i, b, h, hb => by simp at h; subst h; simp at hb
  | x :: l, r, i, b, h, hb => by
    simp only [List.mapM_cons, Option.bind_eq_bind, Option.bind_eq_some_iff, Option.pure_def, Option.some.injEq] at h
    obtain ⟨y, hy, r', hr', rfl⟩ := h
    cases i with
    | zero => simp at hb; subst hb; exact ⟨x, rfl, hy⟩
    | succ i => simpa using mapM_at' (i := i) hr' (by simpa using hb)
theorem fieldX_sound {tab : List TI} (ht : TabOk P tab) {T f : Nat} {v : AV} {K : AV → Prop} (h : fieldX tab T f v K) : optW (fldOf P T f) fun o => fieldW v o K := by
  unfold fieldX at h
  split at h <;> try (exact h.elim)
  rename_i hT
  obtain ⟨fs, hu, hm⟩ : ∃ fs, P.underlying T = some (.struct fs) ∧ _ := tab_kind ht hT
  split at h <;> try (exact h.elim)
  rename_i o q ho
  rw [lat_eq] at ho
  obtain ⟨fd, h1, h2⟩ := mapM_at' hm ho
  obtain ⟨inf, hinf, h3⟩ := Option.map_eq_some_iff.1 h2
  simp only [Prod.mk.injEq] at h3
  have : fldOf P T f = some o := by
    unfold fldOf
    rw [hu]
    simp only [Array.getElem?_toList] at h1
    simp only [h1, Option.bind_some, szOf, hinf, Option.map_some, h3.2]
    rw [h3.1]
  rw [this]
  exact h

def idxX (tab : List TI) (roots : List Root) (T : Nat) (v iv : AV) (K : AV → Prop) : Prop := match tat tab T with
  | some ⟨_, _, _, .slice e, _⟩ => match tat tab e with
    | some i => match iv with
      | .d (.con (.int _ m)) => match v with
        | .d (.sl rows) => Side (0 ≤ m ∧ m < rows.length) ∧ AllRow rows m.toNat fun row => Side (row.length = i.sz) ∧ K (.fptr row 0)
        | .vs r off len => match lat roots r with
          | some (.arr sz _ _) => Side (sz = i.sz) ∧ Side (0 ≤ m ∧ m < len) ∧ K (.ptr r (off + m.toNat) 0)
          | _ => False
        | _ => False
      | _ => False
    | none => False
  | _ => False
theorem idxX_sound {tab : List TI} (ht : TabOk P tab) {roots : List Root} {env : List (Nat × AV)} {T : Nat} {v iv : AV} {K : AV → Prop} (h : idxX tab roots T v iv K) : idxW P ⟨env, roots⟩ T v iv K := by
  unfold idxX at h
  split at h <;> try (exact h.elim)
  rename_i hT
  split at h <;> try (exact h.elim)
  rename_i i he
  unfold idxW
  rw [kind_slice ht hT]
  simp only [optW_some, (ht _ i he).sz]
  split at h <;> try (exact h.elim)
  rename_i k m
  split at h <;> try (exact h.elim)
  · exact ⟨h.1.out, fun row hr => ⟨(h.2.out row hr).1.out, (h.2.out row hr).2⟩⟩
  · split at h <;> try (exact h.elim)
    rename_i hr
    rw [lat_eq] at hr
    simp only [hr]
    exact ⟨h.1.out, h.2.1.out, h.2.2⟩

def strIdxX (tab : List TI) (T : Nat) (v iv : AV) (K : AV → Prop) : Prop := match tat tab T with
  | some ⟨_, _, _, .str, _⟩ => match iv with
    | .d (.con (.int _ m)) => match v with
      | .d (.con (.string s)) => Side (0 ≤ m ∧ m < s.size) ∧ K (.d (.con (.int .u8 (byteAt s m.toNat))))
      | _ => False
    | _ => False
  | _ => False
theorem strIdxX_sound {tab : List TI} (ht : TabOk P tab) {T : Nat} {v iv : AV} {K : AV → Prop} (h : strIdxX tab T v iv K) : strIdxW P T v iv K := by
  unfold strIdxX at h
  split at h <;> try (exact h.elim)
  rename_i hT
  refine ⟨kind_str ht hT, ?_⟩
  split at h <;> try (exact h.elim)
  split at h <;> try (exact h.elim)
  exact ⟨h.1.out, h.2⟩

def bndX (env : List (Nat × AV)) (d : Nat) (x : Option Operand) (K : Int → Prop) : Prop := match x with
  | none => K d
  | some x => match evX env x with
    | .d (.con (.int _ m)) => K m
    | _ => False
theorem bndX_imp {env : List (Nat × AV)} {roots : List Root} {d : Nat} {x : Option Operand} {K : Int → Prop} (h : bndX env d x K) : optW (bnd ⟨env, roots⟩ d x) K := by
  unfold bndX at h
  split at h
  · exact h
  · rename_i x
    rw [evX_eq env roots] at h
    simp only [bnd]
    split at h <;> try (exact h.elim)
    rename_i hx
    rw [hx]
    exact h
def sliceX (tab : List TI) (env : List (Nat × AV)) (roots : List Root) (T : Nat) (v : AV) (lo hi : Option Operand) (K : AV → Prop) : Prop := match tat tab T with
  | some ⟨_, _, _, .str, _⟩ => match v with
    | .d (.con (.string s)) => bndX env 0 lo fun l => bndX env s.size hi fun h => Side (0 ≤ l ∧ l ≤ h ∧ h ≤ s.size) ∧ K (.d (.con (.string (s.extract l.toNat h.toNat))))
    | _ => False
  | some ⟨_, _, _, .slice e, _⟩ => match tat tab e with
    | some i => match v with
      | .d (.sl rows) => bndX env 0 lo fun l => bndX env rows.length hi fun h =>
          Side (0 ≤ l ∧ l ≤ h ∧ h ≤ rows.length) ∧ Side (∀ row, row ∈ rows → row.length = i.sz) ∧ K (.d (.sl ((rows.drop l.toNat).take (h.toNat - l.toNat))))
      | .vs r off len => match lat roots r with
        | some (.arr sz _ _) => Side (sz = i.sz) ∧ bndX env 0 lo fun l => bndX env len hi fun h => Side (0 ≤ l ∧ l ≤ h ∧ h ≤ len) ∧ K (.vs r (off + l.toNat) (h.toNat - l.toNat))
        | _ => False
      | .d (.con (.slice none 0 0)) => bndX env 0 lo fun l => bndX env 0 hi fun h => Side (0 ≤ l ∧ l ≤ h ∧ h ≤ 0) ∧ K (.d (.sl []))
      | _ => False
    | none => False
  | _ => False
theorem sliceX_sound {tab : List TI} (ht : TabOk P tab) {roots : List Root} {env : List (Nat × AV)} {T : Nat} {v : AV} {lo hi : Option Operand} {K : AV → Prop} (h : sliceX tab env roots T v lo hi K) :
    sliceW P ⟨env, roots⟩ T v lo hi K := by
  unfold sliceX at h
  split at h <;> try (exact h.elim)
  · rename_i hT
    split at h <;> try (exact h.elim)
    refine ⟨kind_str ht hT, ?_⟩
    exact optW_mono (bndX_imp h) fun l h => optW_mono (bndX_imp h) fun h' h => ⟨h.1.out, h.2⟩
  · rename_i hT
    split at h <;> try (exact h.elim)
    rename_i i he
    have hs := (ht _ i he).sz
    split at h <;> try (exact h.elim)
    · simp only [sliceW, kind_slice ht hT, optW_some, hs]
      exact optW_mono (bndX_imp h) fun l h => optW_mono (bndX_imp h) fun h' h => ⟨h.1.out, h.2.1.out, h.2.2⟩
    · split at h <;> try (exact h.elim)
      rename_i hr
      rw [lat_eq] at hr
      simp only [sliceW, kind_slice ht hT, optW_some, hs, hr]
      exact ⟨h.1.out, optW_mono (bndX_imp h.2) fun l h => optW_mono (bndX_imp h) fun h' h => ⟨h.1.out, h.2⟩⟩
    · simp only [sliceW, kind_slice ht hT, optW_some, hs]
      exact optW_mono (bndX_imp h) fun l h => optW_mono (bndX_imp h) fun h' h => ⟨h.1.out, h.2⟩

def lenX (tab : List TI) (T : Nat) (v : AV) (K : AV → Prop) : Prop := match tat tab T with
  | some ⟨_, _, _, .str, _⟩ => match v with
    | .d (.con (.string s)) => K (.d (.con (.int .i64 s.size)))
    | _ => False
  | some ⟨_, _, _, .slice _, _⟩ => match v with
    | .d (.con (.slice _ len _)) => K (.d (.con (.int .i64 len)))
    | .d (.sl rows) => K (.d (.con (.int .i64 rows.length)))
    | .vs _ _ len => K (.d (.con (.int .i64 len)))
    | _ => False
  | _ => False
theorem lenX_sound {tab : List TI} (ht : TabOk P tab) {T : Nat} {v : AV} {K : AV → Prop} (h : lenX tab T v K) : lenW P T v K := by
  unfold lenX at h
  split at h <;> try (exact h.elim)
  · rename_i hT
    split at h <;> try (exact h.elim)
    exact ⟨kind_str ht hT, h⟩
  · rename_i hT
    have he : (elemOf P T).isSome = true := by rw [kind_slice ht hT]; rfl
    split at h <;> try (exact h.elim)
    all_goals exact ⟨he, h⟩

/-- A look at a map, where reduction stops. -/
structure FindG (es : List (Value × D)) (k : Value) (K : Option D → Prop) : Prop where
  out : K (mfind es k)
def mkSame : MK → MK → Bool
  | .str, .str => true
  | .bool, .bool => true
  | .int a, .int b => decide (a = b)
  | _, _ => false
theorem mkSame_eq {a b : MK} (h : mkSame a b = true) : a = b := by
  cases a <;> cases b <;> simp_all [mkSame]
def lookX (tab : List TI) (roots : List Root) (T : Nat) (x k : AV) (ok : Bool) (K : AV → Prop) : Prop := match tat tab T with
  | some ⟨_, _, _, .map mk' e, _⟩ => match tat tab e with
    | some ⟨_, _, _, _, some z⟩ => match x with
      | .mp r => match k with
        | .d (.con kv) => match lat roots r with
          | some (.map mk es) => cond (mkSame mk mk' && kokB mk kv) (FindG es kv fun o => K (foundA ok z o)) False
          | _ => False
        | _ => False
      | _ => False
    | _ => False
  | _ => False
theorem lookX_sound {tab : List TI} (ht : TabOk P tab) {roots : List Root} {env : List (Nat × AV)} {T : Nat} {x k : AV} {ok : Bool} {K : AV → Prop} (h : lookX tab roots T x k ok K) : lookW P ⟨env, roots⟩ T x k ok K := by
  unfold lookX at h
  split at h <;> try (exact h.elim)
  rename_i hT
  split at h <;> try (exact h.elim)
  rename_i he
  split at h <;> try (exact h.elim)
  split at h <;> try (exact h.elim)
  split at h <;> try (exact h.elim)
  rename_i hr
  cases hb : (mkSame _ _ && kokB _ _) with
  | false => rw [hb] at h; exact h.elim
  | true =>
    rw [hb] at h
    simp only [Bool.and_eq_true] at hb
    rw [lat_eq] at hr
    have e1 := mkSame_eq hb.1
    subst e1
    simp only [lookW, hr]
    exact ⟨hb.2, _, _, tab_kind ht hT, ((ht _ _ he).zero _ rfl).1, h.out⟩

def buildX (tab : List TI) (T : Nat) (parts : List (Nat × AV)) (K : List AV → Prop) : Prop := match tat tab T with
  | some ⟨_, _, _, .struct offs, some z⟩ => optW ((cellsA (.d (.con z))).bind fun cs => fillA (fun i => lat offs i) cs parts) K
  | _ => False
theorem buildX_sound {tab : List TI} (ht : TabOk P tab) {T : Nat} {parts : List (Nat × AV)} {K : List AV → Prop} (h : buildX tab T parts K) : optW (buildA P T parts) K := by
  unfold buildX at h
  split at h <;> try (exact h.elim)
  rename_i hT
  obtain ⟨fs, hu, hm⟩ : ∃ fs, P.underlying T = some (.struct fs) ∧ _ := tab_kind ht hT
  unfold buildA
  rw [hu]
  simp only [hm, Option.bind_some, ((ht _ _ hT).zero _ rfl).1]
  simp only [lat_eq] at h
  simpa using h

/-! ### Operations that make or write -/
mutual
def asDX : AV → List Root → (D → List Root → Prop) → Prop
  | .d x, R, K => K x R
  | .vs r off len, R, K => match lat R r with
    | some (.arr sz rows lim) => Side (off + len ≤ rows.length) ∧ forceRs (R.set r (.arr sz rows (max lim (off + len)))) fun R => K (.sl ((rows.drop off).take len)) R
    | _ => False
  | .agg cs, R, K => asDLX cs R fun ds R => K (.agg ds) R
  | _, _, _ => False
def asDLX : List AV → List Root → (List D → List Root → Prop) → Prop
  | [], R, K => K [] R
  | c :: cs, R, K => asDX c R fun x R => asDLX cs R fun xs R => K (x :: xs) R
end
mutual
theorem asDX_imp : ∀ (v : AV) (R : List Root) (K : D → List Root → Prop), asDX v R K → optW (asD v R) fun x => K x.1 x.2
  | .d x, R, K, h => by simpa [asDX, asD] using h
  | .vs r off len, R, K, h => by
    simp only [asDX] at h
    simp only [asD]
    split at h <;> try (exact h.elim)
    rename_i hr
    rw [lat_eq] at hr
    simp only [hr, if_pos h.1.out, optW_some]
    have := h.2
    rwa [forceRs_eq] at this
  | .agg cs, R, K, h => by
    simp only [asDX] at h
    simp only [asD, optW_map]
    exact asDLX_imp cs R _ h
  | .ptr .., _, _, h => by simp [asDX] at h
  | .fptr .., _, _, h => by simp [asDX] at h
  | .tup .., _, _, h => by simp [asDX] at h
  | .fn .., _, _, h => by simp [asDX] at h
  | .gd .., _, _, h => by simp [asDX] at h
  | .mp .., _, _, h => by simp [asDX] at h
theorem asDLX_imp : ∀ (cs : List AV) (R : List Root) (K : List D → List Root → Prop), asDLX cs R K → optW (asDL cs R) fun x => K x.1 x.2
  | [], R, K, h => by simpa [asDLX, asDL] using h
  | c :: cs, R, K, h => by
    simp only [asDLX] at h
    simp only [asDL, optW_bind, optW_map]
    exact optW_mono (asDX_imp c R _ h) fun x hx => asDLX_imp cs x.2 _ hx
end

def storeX (tab : List TI) (roots : List Root) (T : Nat) (x v : AV) (K : List Root → Prop) : Prop := match tat tab T with
  | some ti => match x with
    | .ptr r i off => match lat roots r with
      | some (.box cs) => Side (i = 0) ∧ optW (cellsA v) fun ns => cond (Nat.beq ti.sz ns.length && ns.all oneA && Nat.ble (off + ns.length) cs.length) (K (roots.set r (.box (splice cs off ns)))) False
      | some (.arr _ _ _) => asDX v roots fun d R => optW (dcells d) fun ds => match lat R r with
        | some (.arr sz rows lim) => Side (i < rows.length ∧ lim ≤ i) ∧ cond (Nat.beq ti.sz ds.length && ds.all oneD) (AllRow rows i fun row => Side (off + ds.length ≤ row.length) ∧
            K (R.set r (.arr sz (rows.set i (splice row off ds)) lim))) False
        | _ => False
      | _ => False
    | _ => False
  | none => False
theorem cond_imp {b : Bool} {A : Prop} (h : cond b A False) : b = true ∧ A := by
  cases b
  · exact h.elim
  · exact ⟨rfl, h⟩
theorem storeX_sound {tab : List TI} (ht : TabOk P tab) {roots : List Root} {env : List (Nat × AV)} {T : Nat} {x v : AV} {K : List Root → Prop} (h : storeX tab roots T x v K) :
    storeW P ⟨env, roots⟩ T x v fun st => st.env = env ∧ K st.roots := by
  unfold storeX at h
  split at h <;> try (exact h.elim)
  rename_i ti hT
  have hs := (ht _ ti hT).sz
  split at h <;> try (exact h.elim)
  rename_i r i off
  unfold storeW
  simp only [lat_eq] at h
  split at h <;> try (exact h.elim)
  · rename_i cs hr
    simp only [hr]
    refine ⟨h.1.out, optW_mono h.2 fun ns h => ?_⟩
    obtain ⟨hb, hk⟩ := cond_imp h
    simp only [Bool.and_eq_true] at hb
    exact ⟨by rw [hs, Nat.eq_of_beq_eq_true hb.1.1], hb.1.2, Nat.le_of_ble_eq_true hb.2, trivial, hk⟩
  · rename_i hr
    simp only [hr]
    refine optW_mono (asDX_imp v roots _ h) fun d h => optW_mono h fun ds h => ?_
    split at h <;> try (exact h.elim)
    rename_i sz rows lim hr2
    simp only [hr2]
    obtain ⟨hb, hk⟩ := cond_imp h.2
    simp only [Bool.and_eq_true] at hb
    exact ⟨h.1.out.1, h.1.out.2, by rw [hs, Nat.eq_of_beq_eq_true hb.1], hb.2, fun row hrow => ⟨(hk.out row hrow).1.out, trivial, (hk.out row hrow).2⟩⟩

def makeX (tab : List TI) (roots : List Root) (T : Nat) (x y : AV) (K : AV → List Root → Prop) : Prop := match tat tab T with
  | some ⟨_, _, _, .slice e, _⟩ => match tat tab e with
    | some ⟨sz, bytes, _, _, some z⟩ => optW (dcells (.con z)) fun zr => cond (Nat.beq zr.length sz && Nat.blt 0 sz) (match x with
      | .d (.con (.int _ m)) => match y with
        | .d (.con (.int _ m')) => Side (0 ≤ m ∧ m ≤ m' ∧ bytes * m'.toNat ≤ 140737488355328 ∧ m'.toNat ≤ 140737488355328) ∧
            K (.vs roots.length 0 m.toNat) (roots ++ [.arr sz (List.replicate m.toNat zr) 0])
        | _ => False
      | _ => False) False
    | _ => False
  | _ => False
theorem makeX_sound {tab : List TI} (ht : TabOk P tab) {roots : List Root} {env : List (Nat × AV)} {T : Nat} {x y : AV} {K : AV → List Root → Prop} (h : makeX tab roots T x y K) :
    makeW P ⟨env, roots⟩ T x y fun v st => st.env = env ∧ K v st.roots := by
  unfold makeX at h
  split at h <;> try (exact h.elim)
  rename_i hT
  split at h <;> try (exact h.elim)
  rename_i he
  unfold makeW
  rw [kind_slice ht hT]
  simp only [optW_some, ((ht _ _ he).zero _ rfl).2]
  refine optW_mono h fun zr h => ?_
  obtain ⟨hb, h⟩ := cond_imp h
  simp only [Bool.and_eq_true] at hb
  split at h <;> try (exact h.elim)
  split at h <;> try (exact h.elim)
  refine ⟨⟨Nat.eq_of_beq_eq_true hb.1, ?_⟩, h.1.out, trivial, h.2⟩
  have := hb.2
  simp [Nat.blt] at this
  omega

def srcX (roots : List Root) (x : AV) (K : List (List D) → Prop) : Prop := match x with
  | .d (.sl rows) => K rows
  | .d (.con (.slice none 0 0)) => K []
  | .vs r off len => match lat roots r with
    | some (.arr _ rows _) => Side (off + len ≤ rows.length) ∧ K ((rows.drop off).take len)
    | _ => False
  | _ => False
theorem srcX_imp {roots : List Root} {env : List (Nat × AV)} {x : AV} {K : List (List D) → Prop} (h : srcX roots x K) : optW (srcRows ⟨env, roots⟩ x) K := by
  unfold srcX at h
  split at h <;> try (exact h.elim)
  · exact h
  · exact h
  · split at h <;> try (exact h.elim)
    rename_i hr
    rw [lat_eq] at hr
    simp only [srcRows, hr, if_pos h.1.out]
    exact h.2
def appendX (tab : List TI) (p : Nat → Prop) (env : List (Nat × AV)) (roots : List Root) (T tx : Nat) (s x : AV) (K : AV → St → Prop) : Prop := match tat tab tx with
  | some ⟨_, _, _, .slice _, _⟩ => match tat tab T with
    | some ⟨_, _, _, .slice e, _⟩ => match tat tab e with
      | some ⟨sz, bytes, _, _, some z⟩ => cond (Nat.beq z.cells.size sz) (srcX roots x fun rows2 => Side (∀ row, row ∈ rows2 → row.length = sz ∧ ∀ c, c ∈ row → oneD c = true) ∧ (match s with
        | .vs r off len => match lat roots r with
          | some (.arr sz' rows lim) => Side ((sz' = sz ∧ off + len ≤ rows.length ∧ lim ≤ off + len ∧ ¬ p r) ∧ ((len + rows2.length) * bytes ≤ 140737488355328 ∧ len + rows2.length ≤ 140737488355328)) ∧
            K (.vs r 0 (len + rows2.length)) { env := renE (killF r) env, roots := (roots.map (renR (killF r))).set r (.arr sz' ((rows.drop off).take len ++ rows2) (lim - off)) }
          | _ => False
        | .d (.con (.slice none 0 0)) => Side (¬ p roots.length ∧ (rows2.length * bytes ≤ 140737488355328 ∧ rows2.length ≤ 140737488355328)) ∧
            K (.vs roots.length 0 rows2.length) { env := renE (killF roots.length) env, roots := roots.map (renR (killF roots.length)) ++ [.arr sz rows2 0] }
        | _ => False)) False
      | _ => False
    | _ => False
  | _ => False
theorem appendX_sound {tab : List TI} (ht : TabOk P tab) {roots : List Root} {env : List (Nat × AV)} {T tx : Nat} {s x : AV} {K : AV → St → Prop} (h : appendX tab p env roots T tx s x K) :
    appendW P p ⟨env, roots⟩ T tx s x K := by
  unfold appendX at h
  split at h <;> try (exact h.elim)
  rename_i hx
  split at h <;> try (exact h.elim)
  rename_i hT
  split at h <;> try (exact h.elim)
  rename_i he
  obtain ⟨hb, h⟩ := cond_imp h
  unfold appendW
  refine ⟨by rw [kind_slice ht hx]; rfl, ?_⟩
  rw [kind_slice ht hT]
  simp only [optW_some, ((ht _ _ he).zero _ rfl).2]
  refine ⟨Nat.eq_of_beq_eq_true hb, optW_mono (srcX_imp h) fun rows2 h => ⟨h.1.out, ?_⟩⟩
  have h := h.2
  split at h <;> try (exact h.elim)
  · split at h <;> try (exact h.elim)
    rename_i hr
    rw [lat_eq] at hr
    simp only [hr]
    exact ⟨h.1.out.1, h.1.out.2, h.2⟩
  · exact ⟨h.1.out.1, h.1.out.2, h.2⟩

def rowsX (sz : Nat) : List (Nat × AV) → Nat → List Root → (List (List D) → List Root → Prop) → Prop
  | [], _, R, K => K [] R
  | (i, a) :: rest, k, R, K => asDX a R fun x R => optW (dcells x) fun cs => cond (Nat.beq i k && Nat.beq cs.length sz) (rowsX sz rest (k + 1) R fun ys R => K (cs :: ys) R) False
theorem rowsX_imp {sz : Nat} : ∀ (parts : List (Nat × AV)) (k : Nat) (R : List Root) (K : List (List D) → List Root → Prop), rowsX sz parts k R K → optW (rowsOf sz parts k R) fun y => K y.1 y.2
  | [], k, R, K, h => by simpa [rowsX, rowsOf] using h
  | (i, a) :: rest, k, R, K, h => by
    simp only [rowsX] at h
    simp only [rowsOf, optW_bind]
    refine optW_mono (asDX_imp a R _ h) fun x h => optW_mono h fun cs h => ?_
    obtain ⟨hb, h⟩ := cond_imp h
    simp only [Bool.and_eq_true] at hb
    rw [if_pos ⟨Nat.eq_of_beq_eq_true hb.1, Nat.eq_of_beq_eq_true hb.2⟩]
    simp only [optW_map]
    exact rowsX_imp rest (k + 1) x.2 _ h

def partsX (env : List (Nat × AV)) (parts : List (Nat × Operand)) : List (Nat × AV) := parts.map fun x => (x.1, evX env x.2)

/-- An operation that only looks. -/
def xP (tab : List TI) (env : List (Nat × AV)) (roots : List Root) (op : Op) (K : AV → Prop) : Prop := match op with
  | .move x => K (evX env x)
  | .assign x => K (evX env x)
  | .pick c x y => pickX (evX env c) (evX env x) (evX env y) K
  | .binOp op T x y _ => binX tab op T (evX env x) (evX env y) K
  | .unOp op _ x => unX op (evX env x) K
  | .convert src T x => convX tab src T (evX env x) K
  | .nilCheck x => nilW (evX env x) K
  | .load T x => loadX tab roots T (evX env x) K
  | .fieldAddr T x f => fieldX tab T f (evX env x) K
  | .indexAddr T x i => idxX tab roots T (evX env x) (evX env i) K
  | .index T x i => strIdxX tab T (evX env x) (evX env i) K
  | .extract x i => match evX env x with
    | .tup vs => optW (lat vs i) fun v => splitV v K
    | _ => False
  | .slice T x lo hi none => sliceX tab env roots T (evX env x) lo hi K
  | .build T ⟨parts⟩ => buildX tab T (partsX env parts) fun cs => K (.agg cs)
  | .makeFunc (.func f) ⟨[]⟩ ⟨captured⟩ => K (.fn f (captured.map (evX env)))
  | .call ⟨.builtin .len, ⟨[x]⟩, ⟨[T]⟩⟩ => lenX tab T (evX env x) K
  | .call ⟨.builtin .max, ⟨[x, y]⟩, _⟩ => maxW true (evX env x) (evX env y) K
  | .call ⟨.builtin .min, ⟨[x, y]⟩, _⟩ => maxW false (evX env x) (evX env y) K
  | .lookup T x k ok => lookX tab roots T (evX env x) (evX env k) ok fun v => K v
  | _ => False
theorem evX_fun (env : List (Nat × AV)) (roots : List Root) : evX env = ev ⟨env, roots⟩ := funext fun x => evX_eq env roots x
theorem xP_sound {tab : List TI} (ht : TabOk P tab) {env : List (Nat × AV)} {roots : List Root} {op : Op} {K : AV → Prop} (h : xP tab env roots op K) : opP P op ⟨env, roots⟩ K := by
  have e := evX_fun env roots
  unfold xP at h
  split at h <;> try simp only [e] at h
  · exact h
  · exact h
  · unfold pickX at h
    split at h <;> try (exact h.elim)
    rename_i t hc
    simp only [opP]
    rw [hc]
    refine ⟨fun ht => ?_, fun ht => ?_⟩ <;> rw [ht] at h <;> exact h
  · exact binX_sound ht h
  · exact unX_sound h
  · exact convX_sound ht h
  · exact h
  · exact loadX_sound ht h
  · exact fieldX_sound ht h
  · exact idxX_sound ht h
  · exact strIdxX_sound ht h
  · simp only [opP]
    split at h <;> try (exact h.elim)
    rename_i hx
    rw [hx]
    rw [lat_eq] at h
    exact optW_mono h fun _ => splitV_imp
  · exact ⟨rfl, sliceX_sound ht h⟩
  · refine buildX_sound ht ?_
    simpa [partsX, e] using h
  · exact ⟨rfl, by simpa [e] using h⟩
  · exact ⟨rfl, rfl, lenX_sound ht h⟩
  · exact ⟨rfl, h⟩
  · exact ⟨rfl, h⟩
  · exact lookX_sound ht h

theorem storeW_mono {st : St} {T : Nat} {x v : AV} {K K' : St → Prop} (h : storeW P st T x v K) (hk : ∀ s, K s → K' s) : storeW P st T x v K' := by
  unfold storeW at *
  split at h <;> try (exact h.elim)
  split at h <;> try (exact h.elim)
  · rename_i hr
    try simp only [hr]
    exact ⟨h.1, optW_mono h.2 fun ns h => ⟨h.1, h.2.1, h.2.2.1, hk _ h.2.2.2⟩⟩
  · rename_i hr
    try simp only [hr]
    refine optW_mono h fun d h => optW_mono h fun ds h => ?_
    split at h <;> try (exact h.elim)
    exact ⟨h.1, h.2.1, h.2.2.1, h.2.2.2.1, fun row hrow => ⟨(h.2.2.2.2 row hrow).1, hk _ (h.2.2.2.2 row hrow).2⟩⟩
theorem makeW_mono {st : St} {T : Nat} {x y : AV} {K K' : AV → St → Prop} (h : makeW P st T x y K) (hk : ∀ v s, K v s → K' v s) : makeW P st T x y K' := by
  unfold makeW at *
  refine optW_mono h fun e h => optW_mono h fun i h => optW_mono h fun zr h => ?_
  split at h <;> try (exact h.elim)
  split at h <;> try (exact h.elim)
  exact ⟨h.1, h.2.1, hk _ _ h.2.2⟩
theorem opA_of_opP {st : St} {op : Op} {K : AV → St → Prop} (h : opP P op st fun v => K v st) : opA P p op st K := by
  unfold opA
  split <;> first | exact h | (simp [opP] at h; done)

def updX (tab : List TI) (roots : List Root) (T : Nat) (x k v : AV) (K : List Root → Prop) : Prop := match tat tab T with
  | some ⟨_, _, _, .map mk' _, _⟩ => match x with
    | .mp r => match k with
      | .d (.con kv) => asDX v roots fun d R => match lat R r with
        | some (.map mk es) => cond (mkSame mk mk' && kokB mk kv) (K (R.set r (.map mk (mset es kv d)))) False
        | _ => False
      | _ => False
    | _ => False
  | _ => False
theorem updX_sound {tab : List TI} (ht : TabOk P tab) {roots : List Root} {env : List (Nat × AV)} {T : Nat} {x k v : AV} {K : List Root → Prop} {K' : AV → St → Prop} (h : updX tab roots T x k v K) (hk : ∀ R, K R → K' (.d .any) ⟨env, R⟩) :
    updW P ⟨env, roots⟩ T x k v K' := by
  unfold updX at h
  split at h <;> try (exact h.elim)
  rename_i hT
  split at h <;> try (exact h.elim)
  split at h <;> try (exact h.elim)
  obtain ⟨d, hd, h2⟩ := optW_iff (asDX_imp _ _ _ h)
  clear h
  split at h2 <;> try (exact h2.elim)
  rename_i hr
  cases hb : (mkSame _ _ && kokB _ _) with
  | false => rw [hb] at h2; exact h2.elim
  | true =>
    rw [hb] at h2
    simp only [Bool.and_eq_true] at hb
    rw [lat_eq] at hr
    have e1 := mkSame_eq hb.1
    subst e1
    refine ⟨d, hd, ?_⟩
    simp only [hr]
    exact ⟨hb.2, ⟨_, tab_kind ht hT⟩, hk _ h2⟩

/-- An operation that runs, but for calls. -/
def xA (tab : List TI) (p : Nat → Prop) (env : List (Nat × AV)) (roots : List Root) (op : Op) (K : AV → List (Nat × AV) → List Root → Prop) : Prop := match op with
  | .box _ x => optW (cellsA (evX env x)) fun cs => forceN roots.length fun r => forceRs (roots ++ [.box cs]) fun roots => K (.ptr r 0 0) env roots
  | .alloc T => match tat tab T with
    | some ⟨_, _, _, _, some z⟩ => optW (cellsA (.d (.con z))) fun cs => forceN roots.length fun r => forceRs (roots ++ [.box cs]) fun roots => K (.ptr r 0 0) env roots
    | _ => False
  | .buildSlice T len ⟨parts⟩ => match tat tab T with
    | some ⟨_, _, _, .slice e, _⟩ => match tat tab e with
      | some ⟨sz, _, _, _, some _⟩ => cond (Nat.beq parts.length len && Nat.ble (len * sz) 16777216) (rowsX sz (partsX env parts) 0 roots fun rows roots => K (.d (.sl rows)) env roots) False
      | _ => False
    | _ => False
  | .makeSlice T x y => makeX tab roots T (evX env x) (evX env y) fun v roots => forceRs roots fun roots => K v env roots
  | .store T x v => storeX tab roots T (evX env x) (evX env v) fun roots => forceRs roots fun roots => K (.d .any) env roots
  | .call ⟨.builtin .append, ⟨[x, y]⟩, ⟨[T, T']⟩⟩ => appendX tab p env roots T T' (evX env x) (evX env y) fun v st => forceE st.env fun env => forceRs st.roots fun roots => K v env roots
  | .makeMap T none => match tat tab T with
    | some ⟨_, _, _, .map mk _, _⟩ => forceN roots.length fun r => forceRs (roots ++ [.map mk []]) fun roots => K (.mp r) env roots
    | _ => False
  | .mapUpdate T x k v => updX tab roots T (evX env x) (evX env k) (evX env v) fun roots => forceRs roots fun roots => K (.d .any) env roots
  | .insert T x k v => updX tab roots T (evX env x) (evX env k) (evX env v) fun roots => forceRs roots fun roots => K (.d .any) env roots
  | op => xP tab env roots op fun v => K v env roots
theorem rowsOf_length {sz : Nat} : ∀ (parts : List (Nat × AV)) (k : Nat) (R : List Root) (y : List (List D) × List Root), rowsOf sz parts k R = some y → y.1.length = parts.length
  | [], k, R, y, h => by simp [rowsOf] at h; subst h; rfl
  | (i, a) :: rest, k, R, y, h => by
    simp only [rowsOf, Option.bind_eq_some_iff] at h
    obtain ⟨x, _, cs, _, h⟩ := h
    split at h
    · obtain ⟨z, hz, rfl⟩ := Option.map_eq_some_iff.1 h
      simp [rowsOf_length rest (k + 1) x.2 z hz]
    · cases h
theorem xA_sound {tab : List TI} (ht : TabOk P tab) {env : List (Nat × AV)} {roots : List Root} {op : Op} {K : AV → List (Nat × AV) → List Root → Prop} (h : xA tab p env roots op K) :
    opA P p op ⟨env, roots⟩ fun v st => K v st.env st.roots := by
  have e := evX_fun env roots
  unfold xA at h
  split at h <;> try simp only [e, forceN_eq, forceRs_eq, forceE_eq] at h
  · exact h
  · split at h <;> try (exact h.elim)
    rename_i hT
    simp only [opA, ((ht _ _ hT).zero _ rfl).1, optW_some]
    exact h
  · split at h <;> try (exact h.elim)
    rename_i hT
    split at h <;> try (exact h.elim)
    rename_i he
    obtain ⟨hb, h⟩ := cond_imp h
    simp only [Bool.and_eq_true] at hb
    simp only [opA, kind_slice ht hT, optW_some, (ht _ _ he).sz, ((ht _ _ he).zero _ rfl).1]
    refine ⟨rfl, ?_⟩
    have h := rowsX_imp _ _ _ _ h
    simp only [partsX, e] at h
    obtain ⟨y, hy, hk⟩ := optW_iff h
    rw [hy]
    refine ⟨⟨?_, Nat.le_of_ble_eq_true hb.2⟩, hk⟩
    rw [rowsOf_length _ _ _ _ hy]
    simpa using Nat.eq_of_beq_eq_true hb.1
  · show makeW P ⟨env, roots⟩ _ _ _ fun v st => K v st.env st.roots
    refine makeW_mono (makeX_sound (env := env) ht h) ?_
    rintro v ⟨en, rs⟩ ⟨rfl, hk⟩
    exact hk
  · show storeW P ⟨env, roots⟩ _ _ _ fun st => K (.d .any) st.env st.roots
    refine storeW_mono (storeX_sound (env := env) ht h) ?_
    rintro ⟨en, rs⟩ ⟨rfl, hk⟩
    exact hk
  · exact ⟨rfl, rfl, appendX_sound ht h⟩
  · split at h <;> try (exact h.elim)
    exact ⟨_, h⟩
  · show updW P ⟨env, roots⟩ _ _ _ _ fun v st => K v st.env st.roots
    exact updX_sound (env := env) ht h fun R hk => hk
  · show updW P ⟨env, roots⟩ _ _ _ _ fun v st => K v st.env st.roots
    exact updX_sound (env := env) ht h fun R hk => hk
  · exact opA_of_opP (xP_sound ht h)

/-! ### Rows of operations, calls, code -/

/-- A call, where reduction stops. -/
structure CallG (P : Program) (p : Nat → Prop) (st : St) (fv : AV) (args : List AV) (K : AV → St → Prop) : Prop where
  out : CallW P p st fv args K
structure CallQG (P : Program) (st : St) (fv : AV) (args : List AV) (K : AV → Prop) : Prop where
  out : CallQ P st fv args K
/-- A loop, where reduction stops. -/
structure LoopG (P : Program) (n : Nat) (p : Nat → Prop) (c : Code) (Q : Exit → St → Prop) (st : St) : Prop where
  out : SWp P n p (.loop c) Q st

def putX (env : List (Nat × AV)) (dst : Option Nat) (v : AV) : List (Nat × AV) := match dst with
  | some t => (t, v) :: env
  | none => env
def putK (env : List (Nat × AV)) (dst : Option Nat) (v : AV) (K : List (Nat × AV) → Prop) : Prop := match dst with
  | some t => K ((t, v) :: env)
  | none => K env
theorem putK_eq (env : List (Nat × AV)) (dst : Option Nat) (v : AV) (K : List (Nat × AV) → Prop) : putK env dst v K = K (putX env dst v) := by cases dst <;> rfl
def dstAt (ops : List Oper) (j : Nat) : Option Nat := match lat ops j with
  | some o => o.dst
  | none => none

def xRun (P : Program) (tab : List TI) (p : Nat → Prop) (op : Op) (env : List (Nat × AV)) (roots : List Root) (K : AV → List (Nat × AV) → List Root → Prop) : Prop := match op with
  | .call ⟨.value g, ⟨xs⟩, _⟩ => force (evX env g) fun fv => forceL (xs.map (evX env)) fun args => CallG P p ⟨env, roots⟩ fv args fun v st =>
      splitV v fun v => force v fun v => forceE st.env fun env => forceRs st.roots fun roots => K v env roots
  | op => xA tab p env roots op fun v env roots => force v fun v => K v env roots
theorem xRun_sound {tab : List TI} (ht : TabOk P tab) {env : List (Nat × AV)} {roots : List Root} {op : Op} {K : AV → List (Nat × AV) → List Root → Prop} (h : xRun P tab p op env roots K) :
    runOp P p op ⟨env, roots⟩ fun v st => K v st.env st.roots := by
  have e := evX_fun env roots
  unfold xRun at h
  split at h
  · simp only [force_eq, forceL_eq, forceE_eq, forceRs_eq, e] at h
    exact h.out.mono fun x st hx => splitV_imp hx
  · simp only [force_eq] at h
    have h := xA_sound (p := p) ht h
    unfold runOp
    split
    · simp [opA, opP] at h
    · exact h

def xOps (P : Program) (tab : List TI) (p : Nat → Prop) (ops : List Oper) : List Oper → (List (Nat × AV) → List Root → Prop) → List (Nat × AV) → List Root → Prop
  | [], K, env, roots => K env roots
  | o :: rest, K, env, roots => match o with
    | ⟨dst, op, _, _, _, gu⟩ => match gu with
      | none => xRun P tab p op env roots fun v env roots => putK env dst v fun env => xOps P tab p ops rest K env roots
      | some (j, want) => match dstAt ops j with
        | some s => match lk env s with
          | .d (.con (.bool t)) => cond (sameB t want)
              (xRun P tab p op ((s, .d (.con (.bool want))) :: env) roots fun v env roots => putK env dst v fun env => xOps P tab p ops rest K env roots)
              (putK ((s, .d (.con (.bool (not want)))) :: env) dst (.d (.con undef)) fun env => xOps P tab p ops rest K env roots)
          | .d (.con (.tuple _)) => putK env dst (.d (.con undef)) fun env => xOps P tab p ops rest K env roots
          | _ => False
        | none => False
theorem put_eq (env : List (Nat × AV)) (roots : List Root) (dst : Option Nat) (v : AV) : put ⟨env, roots⟩ dst v = ⟨putX env dst v, roots⟩ := by cases dst <;> rfl
theorem dstAt_eq (ops : List Oper) (j : Nat) : dstAt ops j = ((⟨ops⟩ : Array Oper)[j]?).bind (·.dst) := by
  unfold dstAt
  rw [lat_eq]
  simp only [List.getElem?_toArray]
  cases ops[j]? <;> rfl
theorem sameB_eq (a b : Bool) : sameB a b = true ↔ a = b := by cases a <;> cases b <;> simp [sameB]
theorem sameB_ne (a b : Bool) : sameB a b = false ↔ a = !b := by cases a <;> cases b <;> simp [sameB]
theorem ne_of_bool {a b : Bool} (h : ¬ a = b) : a = !b := by
  cases a <;> cases b <;> first | rfl | exact absurd rfl h
theorem cond_two {b : Bool} {A B : Prop} (h : cond b A B) : (b = true → A) ∧ (b = false → B) := by cases b <;> simp_all
theorem SOps.of_run {ops : Array Oper} {rest : List Oper} {K : St → Prop} {K1 : AV → St → Prop} {st : St} {op : Op} {dst : Option Tmp} {ty : TypeId} {pos : String} {after : Array Edge} (hd : ∀ t, dst = some t → t < n)
    (h : runOp P p op st K1) (hk : ∀ v st', K1 v st' → SOps P n p ops rest K (put st' dst v)) : SOps P n p ops (⟨dst, op, ty, pos, after, none⟩ :: rest) K st := by
  unfold runOp at h
  split at h
  · exact CallW_sound hd (h.mono hk)
  · refine SOps.op rfl hd ?_
    have := opA_sound (P := P) (n := n) (p := p) (o := ⟨dst, op, ty, pos, after, none⟩) h
    intro M β a w hr
    obtain ⟨nx, v, w', x, st', M', β', h1, h2, h3, h4⟩ := this M β a w hr
    exact ⟨nx, v, w', x, st', M', β', h1, h2, hk _ _ h3, h4⟩
theorem xOps_sound {tab : List TI} (ht : TabOk P tab) {ops : List Oper} (hops : ∀ (j : Nat) s, dstAt ops j = some s → s < n) : ∀ (l : List Oper), (∀ o, o ∈ l → ∀ t, o.dst = some t → t < n) →
    ∀ {K : List (Nat × AV) → List Root → Prop} {env : List (Nat × AV)} {roots : List Root}, xOps P tab p ops l K env roots →
    SOps P n p ⟨ops⟩ l (fun st => K st.env st.roots) ⟨env, roots⟩
  | [], _, K, env, roots, h => SOps.nil h
  | ⟨dst, op, ty, pos, after, gu⟩ :: rest, hl, K, env, roots, h => by
    have hd : ∀ t, dst = some t → t < n := hl ⟨dst, op, ty, pos, after, gu⟩ (by simp)
    have ih := fun {env : List (Nat × AV)} {roots : List Root} => xOps_sound ht hops rest (fun o ho => hl o (by simp [ho])) (K := K) (env := env) (roots := roots)
    have run : ∀ env, (xRun P tab p op env roots fun v env roots => xOps P tab p ops rest K (putX env dst v) roots) →
        SOps P n p ⟨ops⟩ (⟨dst, op, ty, pos, after, none⟩ :: rest) (fun st => K st.env st.roots) ⟨env, roots⟩ := by
      intro env h
      refine SOps.of_run hd (xRun_sound ht h) ?_
      rintro v ⟨e, r⟩ hx
      rw [put_eq]
      exact ih hx
    simp only [xOps, putK_eq] at h
    cases gu with
    | none => exact run env h
    | some jw =>
      obtain ⟨j, want⟩ := jw
      simp only at h
      split at h <;> try (exact h.elim)
      rename_i s hs
      have hsn := hops j s hs
      rw [dstAt_eq] at hs
      rw [lk_eq] at h
      split at h <;> try (exact h.elim)
      · rename_i t hv
        obtain ⟨h1, h2⟩ := cond_two h
        refine SOps.guard_run rfl hs hv hsn (fun e => run _ (h1 ((sameB_eq t want).2 e))) (fun e => ?_) hd
        have := ih (h2 ((sameB_ne t want).2 e))
        rw [← put_eq] at this
        exact this
      · rename_i us hv
        refine SOps.guard_skip rfl hs hv ?_ hd
        have := ih h
        rw [← put_eq] at this
        exact this

/-! ### Regions that draw their order -/
def xRunQ (P : Program) (tab : List TI) (op : Op) (env : List (Nat × AV)) (roots : List Root) (K : AV → Prop) : Prop := match op with
  | .call ⟨.value g, ⟨xs⟩, _⟩ => force (evX env g) fun fv => forceL (xs.map (evX env)) fun args => CallQG P ⟨env, roots⟩ fv args fun v => splitV v fun v => force v K
  | op => xP tab env roots op fun v => force v K
theorem xRunQ_sound {tab : List TI} (ht : TabOk P tab) {env : List (Nat × AV)} {roots : List Root} {op : Op} {K : AV → Prop} (h : xRunQ P tab op env roots K) : runQ P op ⟨env, roots⟩ K := by
  have e := evX_fun env roots
  unfold xRunQ at h
  split at h
  · simp only [force_eq, forceL_eq, e] at h
    obtain ⟨f, caps, args', R', c, h1, h2, h3, h4, h5⟩ := h.out
    exact ⟨f, caps, args', R', c, h1, h2, h3, h4, splitV_imp h5⟩
  · have h1 : xP tab env roots op fun v => K v := by simpa only [force_eq] using h
    have h := xP_sound ht h1
    unfold runQ
    split
    · simp [opP] at h
    · exact h
def xQ (P : Program) (tab : List TI) (ops : List Oper) : List Oper → (List (Nat × AV) → Prop) → List (Nat × AV) → List Root → Prop
  | [], K, env, _ => K env
  | o :: rest, K, env, roots => match o with
    | ⟨dst, op, _, _, _, gu⟩ => match gu with
      | none => xRunQ P tab op env roots fun v => putK env dst v fun env => xQ P tab ops rest K env roots
      | some (j, want) => match dstAt ops j with
        | some s => match lk env s with
          | .d (.con (.bool t)) => cond (sameB t want)
              (xRunQ P tab op ((s, .d (.con (.bool want))) :: env) roots fun v => putK ((s, .d (.con (.bool want))) :: env) dst v fun env => xQ P tab ops rest K env roots)
              (putK ((s, .d (.con (.bool (not want)))) :: env) dst (.d (.con undef)) fun env => xQ P tab ops rest K env roots)
          | .d (.con (.tuple _)) => putK env dst (.d (.con undef)) fun env => xQ P tab ops rest K env roots
          | _ => False
        | none => False

theorem xQ_sound {tab : List TI} (ht : TabOk P tab) {ops : List Oper} (hops : ∀ (j : Nat) s, dstAt ops j = some s → s < n) {M : Mem} {β : Where} {w : World} {roots : List Root} : ∀ (l : List Oper), (∀ o, o ∈ l → ∀ t, o.dst = some t → t < n) →
    ∀ {K : List (Nat × AV) → Prop} {env : List (Nat × AV)} {a : Act} {Q : Act → Prop}, Rel n M β ⟨env, roots⟩ a w → xQ P tab ops l K env roots → (∀ env' a', K env' → Rel n M β ⟨env', roots⟩ a' w → Q a') →
    wpQuiet P ⟨ops⟩ (fun w' => Ext w w') Q l a
  | [], _, K, env, a, Q, hr, h, hQ => hQ env a h hr
  | ⟨dst, op, ty, pos, after, gu⟩ :: rest, hl, K, env, a, Q, hr, h, hQ => by
    have hd : ∀ t, dst = some t → t < n := hl ⟨dst, op, ty, pos, after, gu⟩ (by simp)
    have ih := fun {env : List (Nat × AV)} {a : Act} => xQ_sound ht hops (M := M) (β := β) (w := w) (roots := roots) rest (fun o ho => hl o (by simp [ho])) (K := K) (env := env) (a := a) (Q := Q)
    have plain : ∀ env1, Rel n M β ⟨env1, roots⟩ a w → (xRunQ P tab op env1 roots fun v => xQ P tab ops rest K (putX env1 dst v) roots) →
        Oper.quiet P ⟨dst, op, ty, pos, after, gu⟩ a (fun w' => Ext w w') (wpQuiet P ⟨ops⟩ (fun w' => Ext w w') Q rest) := by
      intro env1 hr1 h1
      obtain ⟨v, x, hk, hx, hq⟩ := runQ_sound (o := ⟨dst, op, ty, pos, after, gu⟩) hr1 (xRunQ_sound ht h1)
      have := hr1.put dst hd hx
      rw [put_eq] at this
      exact ⟨v, fun w' he => hq w' he, ih this hk hQ⟩
    simp only [xQ, putK_eq] at h
    unfold wpQuiet
    cases gu with
    | none =>
      rw [if_pos (by simp [Region.wanted])]
      exact plain env hr h
    | some jw =>
      obtain ⟨j, want⟩ := jw
      simp only at h
      split at h <;> try (exact h.elim)
      rename_i s hs
      have hsn := hops j s hs
      rw [dstAt_eq] at hs
      rw [lk_eq] at h
      split at h <;> try (exact h.elim)
      · rename_i t hv
        obtain ⟨hw, hself⟩ := wanted_bool (o := ⟨dst, op, ty, pos, after, some (j, want)⟩) hr rfl hs hv hsn
        obtain ⟨h1, h2⟩ := cond_two h
        have hput : ∀ b : Bool, b = t → Rel n M β ⟨(s, .d (.con (.bool b))) :: env, roots⟩ a w := by
          intro b hb
          subst hb
          have := hr.put (some s) (fun u hu => by cases hu; exact hsn) (x := .d (.con (.bool b))) (.d _ _ (.con (.bool b)))
          rw [hself] at this
          exact this
        by_cases htw : t = want
        · rw [if_pos (by rw [hw]; simp [htw])]
          exact plain _ (hput want htw.symm) (h1 ((sameB_eq t want).2 htw))
        · have htw' : t = (!want) := ne_of_bool htw
          rw [if_neg (by rw [hw]; simpa using htw)]
          have := (hput (!want) htw'.symm).put dst hd (x := .d (.con undef)) (.d _ _ (.con undef))
          rw [put_eq] at this
          exact ih this (h2 ((sameB_ne t want).2 htw')) hQ
      · rename_i us hv
        rw [if_neg (by rw [wanted_tuple (o := ⟨dst, op, ty, pos, after, some (j, want)⟩) hr rfl hs hv]; simp)]
        have := hr.put dst hd (x := .d (.con undef)) (.d _ _ (.con undef))
        rw [put_eq] at this
        exact ih this h hQ

/-! ### Regions that draw their order and make or write -/
def makesB : Op → Bool
  | .buildSlice .. => true
  | .alloc .. => true
  | .box .. => true
  | .makeSlice .. => true
  | .store .. => true
  | .call ⟨.builtin .append, _, _⟩ => true
  | .makeMap .. => true
  | .mapUpdate .. => true
  | .insert .. => true
  | _ => false
def buildsB (tab : List TI) : Oper → Bool
  | ⟨_, .buildSlice T _ _, _, _, _, none⟩ => match tat tab T with
    | some ⟨_, _, _, .slice e, _⟩ => match tat tab e with
      | some ⟨_, _, _, _, some _⟩ => true
      | _ => false
    | _ => false
  | _ => false
def headN : List Oper → Nat
  | [] => 0
  | o :: rest => cond (makesB o.op) 0 (headN rest + 1)
def midN (tab : List TI) : List Oper → Nat
  | [] => 0
  | o :: rest => cond (buildsB tab o) (midN tab rest + 1) 0
theorem midN_all {tab : List TI} : ∀ (l : List Oper) (o : Oper), o ∈ l.take (midN tab l) → buildsB tab o = true
  | [], o, h => by simp at h
  | x :: rest, o, h => by
    simp only [midN] at h
    cases hx : buildsB tab x with
    | false => simp [hx] at h
    | true =>
      simp only [hx, cond_true, List.take_succ_cons, List.mem_cons] at h
      rcases h with rfl | h
      · exact hx
      · exact midN_all rest o h
def xH (tab : List TI) : List Oper → (List (Nat × AV) → Prop) → List (Nat × AV) → List Root → Prop
  | [], K, env, _ => K env
  | o :: rest, K, env, roots => match o with
    | ⟨dst, op, _, _, _, none⟩ => xP tab env roots op fun v => force v fun v => putK env dst v fun env => xH tab rest K env roots
    | _ => False
theorem xH_sound {tab : List TI} (ht : TabOk P tab) {ops : Array Oper} {M : Mem} {β : Where} {w : World} {roots : List Root} : ∀ (l : List Oper), (∀ o, o ∈ l → ∀ t, o.dst = some t → t < n) →
    ∀ {K : List (Nat × AV) → Prop} {env : List (Nat × AV)} {a : Act} {Q : Act → Prop}, Rel n M β ⟨env, roots⟩ a w → xH tab l K env roots → (∀ env' a', K env' → Rel n M β ⟨env', roots⟩ a' w → Q a') →
    wpHeld P ops (fun w' => Ext w w') Q l a
  | [], _, K, env, a, Q, hr, h, hQ => hQ env a h hr
  | ⟨dst, op, ty, pos, after, gu⟩ :: rest, hl, K, env, a, Q, hr, h, hQ => by
    have hd : ∀ t, dst = some t → t < n := hl ⟨dst, op, ty, pos, after, gu⟩ (by simp)
    cases gu with
    | some _ => exact h.elim
    | none =>
      simp only [xH, putK_eq, force_eq] at h
      obtain ⟨v, x, hk, hx, nx, hy, hrun⟩ := opP_sound (P := P) (n := n) (o := ⟨dst, op, ty, pos, after, none⟩) (xP_sound ht h) M β a w hr
      have := hr.put dst hd hx
      rw [put_eq] at this
      refine ⟨v, .inl ⟨by simp [Region.wanted], fun w' he => ?_⟩, xH_sound ht rest (fun o ho => hl o (by simp [ho])) this hk hQ⟩
      have h1 := hrun w' he
      cases nx <;> simp only [Yielded] at hy
      · subst hy; exact .inl h1
      · exact .inr ⟨h1, hy⟩

/-! ### Code -/
abbrev Post := Exit → List (Nat × AV) → List Root → Prop
def thenX (f : Post → List (Nat × AV) → List Root → Prop) (Q : Post) : Post := fun e env roots => match e with
  | .normal => f Q env roots
  | e => Q e env roots
def blockX (id : Nat) (Q : Post) : Post := fun e env roots => match e with
  | .exit id' => cond (Nat.beq id' id) (Q .normal env roots) (Q (.exit id') env roots)
  | e => Q e env roots
def stQ (Q : Post) : Exit → St → Prop := fun e st => Q e st.env st.roots
def xAwp (P : Program) (tab : List TI) (n : Nat) (p : Nat → Prop) : Code → Post → List (Nat × AV) → List Root → Prop
  | .skip, Q, env, roots => Q .normal env roots
  | .seq a b, Q, env, roots => xAwp P tab n p a (thenX (xAwp P tab n p b) Q) env roots
  | .region _ ⟨ops⟩ d, Q, env, roots => match d with
    | false => xOps P tab p ops ops (Q .normal) env roots
    | true => cond (ops.any fun o => makesB o.op)
        (Side (P.follows .mixedOrders = true) ∧ Side (mixB ⟨ops⟩ (headN ops) (headN ops + midN tab (ops.drop (headN ops))) = true) ∧
          xH tab (ops.take (headN ops)) (fun env => xOps P tab p ops (ops.drop (headN ops)) (Q .normal) env roots) env roots)
        (Side (P.follows .mixedOrders = true) ∧ xQ P tab ops ops (fun env => Q .normal env roots) env roots)
  | .cond c a b, Q, env, roots => match evX env c with
    | .d (.con (.bool t)) => cond t (xAwp P tab n p a Q env roots) (xAwp P tab n p b Q env roots)
    | _ => False
  | .block id c, Q, env, roots => xAwp P tab n p c (blockX id Q) env roots
  | .loop c, Q, env, roots => LoopG P n p c (stQ Q) ⟨env, roots⟩
  | .exit id, Q, env, roots => Q (.exit id) env roots
  | .ret, Q, env, roots => Q .ret env roots
  | _, _, _, _ => False
theorem xQ_region {tab : List TI} (ht : TabOk P tab) {i : Nat} {ops : List Oper} (hc : codeOk n (.region i ⟨ops⟩ true) = true) {Q : Post} {env : List (Nat × AV)} {roots : List Root}
    (h : Side (P.follows .mixedOrders = true) ∧ xQ P tab ops ops (fun env => Q .normal env roots) env roots) : SWp P n p (.region i ⟨ops⟩ true) (stQ Q) ⟨env, roots⟩ := by
    simp only [codeOk, Bool.and_eq_true, Bool.not_true, Bool.false_or] at hc
    have hlt : ∀ o, o ∈ ops → ∀ t, o.dst = some t → t < n := fun o ho => dstOk_lt (by have := (Array.all_eq_true'.1 hc.1) o (by simpa using ho); exact this)
    intro M β a w hr Q' hQ
    have he : Ext w { w with drawn := w.drawn + 1 } := ⟨Nat.le_refl _, fun _ _ => rfl, rfl, rfl, rfl⟩
    refine wp_region_quiet (C := fun w' => Ext w w') h.1.out hc.2 he ?_
    refine xQ_sound ht (n := n) (M := M) (β := β) ?_ ops hlt hr h.2 ?_
    · intro j s hs
      rw [dstAt_eq] at hs
      obtain ⟨o, ho, hs⟩ := Option.bind_eq_some_iff.1 hs
      exact hlt o (by simpa using Array.mem_of_getElem? ho) s hs
    · intro env' a' hk hr' w' hw'
      exact hQ _ ⟨env', roots⟩ M β a' w' hk (hr'.ext hw') (.ext hw')
theorem xAwp_sound {tab : List TI} (ht : TabOk P tab) : ∀ (c : Code), codeOk n c = true → ∀ {Q : Post} {env : List (Nat × AV)} {roots : List Root}, xAwp P tab n p c Q env roots → SWp P n p c (stQ Q) ⟨env, roots⟩
  | .skip, _, Q, env, roots, h => .skip h
  | .seq a b, hc, Q, env, roots, h => by
    simp only [codeOk, Bool.and_eq_true] at hc
    refine .seq ((xAwp_sound ht a hc.1 h).mono ?_)
    rintro e ⟨en, rs⟩ hq
    cases e
    case normal => exact xAwp_sound ht b hc.2 hq
    all_goals exact hq
  | .region i ⟨ops⟩ false, hc, Q, env, roots, h => by
    simp only [codeOk, Bool.and_eq_true] at hc
    have hlt : ∀ o, o ∈ ops → ∀ t, o.dst = some t → t < n := fun o ho => dstOk_lt (by have := (Array.all_eq_true'.1 hc.1) o (by simpa using ho); exact this)
    refine .region rfl (xOps_sound ht ?_ ops hlt h)
    intro j s hs
    rw [dstAt_eq] at hs
    obtain ⟨o, ho, hs⟩ := Option.bind_eq_some_iff.1 hs
    exact hlt o (by simpa using Array.mem_of_getElem? ho) s hs
  | .region i ⟨ops⟩ true, hc, Q, env, roots, h => by
    have hc' := hc
    simp only [codeOk, Bool.and_eq_true, Bool.not_true, Bool.false_or] at hc
    have hlt : ∀ o, o ∈ ops → ∀ t, o.dst = some t → t < n := fun o ho => dstOk_lt (by have := (Array.all_eq_true'.1 hc.1) o (by simpa using ho); exact this)
    have hops : ∀ (j : Nat) s, dstAt ops j = some s → s < n := by
      intro j s hs
      rw [dstAt_eq] at hs
      obtain ⟨o, ho, hs⟩ := Option.bind_eq_some_iff.1 hs
      exact hlt o (by simpa using Array.mem_of_getElem? ho) s hs
    intro M β a w hr Q' hQ
    have he : Ext w { w with drawn := w.drawn + 1 } := ⟨Nat.le_refl _, fun _ _ => rfl, rfl, rfl, rfl⟩
    unfold xAwp at h
    cases hmk : ops.any fun o => makesB o.op
    case true =>
      simp only [hmk, cond_true] at h
      obtain ⟨⟨h1⟩, ⟨h2⟩, h3⟩ := h
      generalize headN ops = m at h2 h3
      refine wp_mono (Q := fun e a w => e = .normal ∧ Q' .normal a w) (wp_region_mix (C := fun w' => Ext w w') m _ h1 h2 he (fun c a w h => by cases h.1) ?_ ?_) ?_
      · intro o ho
        rw [Nat.add_sub_cancel_left] at ho
        have hb := midN_all _ o ho
        unfold buildsB at hb
        split at hb <;> try (cases hb)
        split at hb <;> try (cases hb)
        rename_i hT
        split at hb <;> try (cases hb)
        rename_i hE
        exact grows_buildSlice (kind_slice_under ht hT) (ht _ _ hE).sz _ ((ht _ _ hE).zero _ rfl).1 w
      · refine xH_sound ht (n := n) (M := M) (β := β) (ops.take m) (fun o ho => hlt o (List.mem_of_mem_take ho)) hr h3 ?_
        intro env' a' hk hr' w' hw'
        refine xOps_sound ht hops (ops.drop m) (fun o ho => hlt o (List.mem_of_mem_drop ho)) hk M β a' w' (hr'.ext hw') _ ?_
        intro st' M' β' a2 w2 q r l
        exact ⟨rfl, hQ _ _ M' β' a2 w2 q r ((Later.ext hw').trans l)⟩
      · rintro e a' w' ⟨rfl, h⟩
        exact h
    simp only [hmk, cond_false] at h
    exact xQ_region ht hc' h M β a w hr Q' hQ
  | .cond c a b, hc, Q, env, roots, h => by
    simp only [codeOk, Bool.and_eq_true] at hc
    unfold xAwp at h
    split at h <;> try (exact h.elim)
    rename_i t hv
    rw [evX_eq env roots] at hv
    obtain ⟨h1, h2⟩ := cond_two h
    exact .cond t hv (fun ht' => xAwp_sound ht a hc.1 (h1 ht')) (fun ht' => xAwp_sound ht b hc.2 (h2 ht'))
  | .block id c, hc, Q, env, roots, h => by
    refine .block ((xAwp_sound ht c hc h).mono ?_)
    rintro e ⟨en, rs⟩ hq
    cases e
    case exit id' =>
      simp only [stQ, blockX] at hq
      simp only
      split
      · rename_i e
        subst e
        have : Q .normal en rs := by simpa using hq
        exact this
      · rename_i e
        have : Nat.beq id' id = false := by
          cases hb : Nat.beq id' id with
          | false => rfl
          | true => exact absurd (Nat.eq_of_beq_eq_true hb) e
        rw [this] at hq
        exact hq
    all_goals exact hq
  | .loop c, _, Q, env, roots, h => h.out
  | .exit id, _, Q, env, roots, h => .exit h
  | .ret, _, Q, env, roots, h => .ret h
  | .rangeFunc .., _, _, _, _, h => h.elim
  | .scope .., _, _, _, _, h => h.elim
  | .label .., _, _, _, _, h => h.elim
  | .goto .., _, _, _, _, h => h.elim
  | .refuse .., _, _, _, _, h => h.elim

/-! ### Functions -/
mutual
def fzX : AV → List Root → (AV → List Root → Prop) → Prop
  | .d x, R, K => K (.d x) R
  | .vs r off len, R, K => asDX (.vs r off len) R fun d R => K (.d d) R
  | .fptr row off, R, K => K (.fptr row off) R
  | .agg cs, R, K => fzLX cs R fun ds R => K (.agg ds) R
  | .tup cs, R, K => fzLX cs R fun ds R => K (.tup ds) R
  | .fn f cs, R, K => fzLX cs R fun ds R => K (.fn f ds) R
  | _, _, _ => False
def fzLX : List AV → List Root → (List AV → List Root → Prop) → Prop
  | [], R, K => K [] R
  | c :: cs, R, K => fzX c R fun x R => fzLX cs R fun xs R => K (x :: xs) R
end
mutual
theorem fzX_imp : ∀ (v : AV) (R : List Root) (K : AV → List Root → Prop), fzX v R K → optW (fz v R) fun x => K x.1 x.2
  | .d x, R, K, h => by simpa [fzX, fz] using h
  | .vs r off len, R, K, h => by
    have h := asDX_imp _ _ _ (by simpa [fzX] using h)
    simpa [fz] using h
  | .fptr row off, R, K, h => by simpa [fzX, fz] using h
  | .agg cs, R, K, h => by
    have h := fzLX_imp cs R _ (by simpa [fzX] using h)
    simpa [fz] using h
  | .tup cs, R, K, h => by
    have h := fzLX_imp cs R _ (by simpa [fzX] using h)
    simpa [fz] using h
  | .fn f cs, R, K, h => by
    have h := fzLX_imp cs R _ (by simpa [fzX] using h)
    simpa [fz] using h
  | .ptr .., _, _, h => by simp [fzX] at h
  | .gd .., _, _, h => by simp [fzX] at h
  | .mp .., _, _, h => by simp [fzX] at h
theorem fzLX_imp : ∀ (cs : List AV) (R : List Root) (K : List AV → List Root → Prop), fzLX cs R K → optW (fzL cs R) fun x => K x.1 x.2
  | [], R, K, h => by simpa [fzLX, fzL] using h
  | c :: cs, R, K, h => by
    simp only [fzLX] at h
    simp only [fzL, optW_bind, optW_map]
    exact optW_mono (fzX_imp c R _ h) fun x hx => fzLX_imp cs x.2 _ hx
end

def resX (tab : List TI) (env : List (Nat × AV)) (roots : List Root) : List ResultVar → (List AV → Prop) → Prop
  | [], K => K []
  | .tmp t :: rest, K => resX tab env roots rest fun xs => K (lk env t :: xs)
  | .cell a T :: rest, K => match lk env a with
    | .ptr r 0 off => match lat roots r with
      | some (.box cs) => match tat tab T with
        | some i => optW (partA i.agg i.sz cs off) fun x => resX tab env roots rest fun xs => K (x :: xs)
        | none => False
      | _ => False
    | _ => False
theorem resX_imp {tab : List TI} (ht : TabOk P tab) {env : List (Nat × AV)} {roots : List Root} : ∀ (rs : List ResultVar) (K : List AV → Prop), resX tab env roots rs K → optW (resA P ⟨env, roots⟩ rs) K
  | [], K, h => h
  | .tmp t :: rest, K, h => by
    simp only [resX] at h
    simp only [resA, optW_map]
    have := resX_imp ht rest _ h
    rwa [lk_eq] at this
  | .cell a T :: rest, K, h => by
    simp only [resX] at h
    rw [lk_eq] at h
    simp only [resA]
    split at h <;> try (exact h.elim)
    rename_i r off hv
    rw [lat_eq] at h
    split at h <;> try (exact h.elim)
    rename_i cs hr
    split at h <;> try (exact h.elim)
    rename_i i hi
    have hk := ht _ _ hi
    simp only [hv, hr, hk.sz, hk.agg, hk.und, Option.bind_some, optW_bind, if_true, optW_map]
    exact optW_mono h fun x hx => resX_imp ht rest _ hx
def retX (tab : List TI) (rs : List ResultVar) (R : AV → List Root → Prop) : Post := fun e env roots => match e with
  | .normal => resX tab env roots rs fun xs => R (oneOf xs) roots
  | .ret => resX tab env roots rs fun xs => R (oneOf xs) roots
  | _ => False
def argsX : List AV → (List AV → Prop) → Prop
  | [], K => K []
  | v :: vs, K => splitV v fun v => force v fun v => argsX vs fun vs => K (v :: vs)
theorem argsX_imp : ∀ (args : List AV) (K : List AV → Prop), argsX args K → K args
  | [], K, h => h
  | v :: vs, K, h => by
    simp only [argsX] at h
    have := splitV_imp h
    rw [force_eq] at this
    exact argsX_imp vs _ this
theorem SCall.run {tab : List TI} (ht : TabOk P tab) {f : FuncId} {fn : Func} {c : Code} {args : List AV} {roots : List Root} {R : AV → List Root → Prop} {rs : List ResultVar} (hf : P.funcs[f]? = some fn) (hb : fn.body = some c) (hc : codeOk fn.ntmps c = true)
    (hn : args.length ≤ fn.ntmps) (hrs : fn.results.toList = rs) (h : argsX args fun args => forceRs roots fun roots' => xAwp P tab fn.ntmps (pinsOf roots) c (retX tab rs R) (envOf 0 args) roots') : SCall P f args roots R := by
  subst hrs
  have h := argsX_imp _ _ h
  rw [forceRs_eq] at h
  refine .body hf hb hn ((xAwp_sound ht c hc h).mono ?_)
  rintro e ⟨en, rs⟩ hq
  cases e <;> simp only [stQ, retX] at hq <;> try (exact hq.elim)
  · exact optW_iff (resX_imp ht _ _ hq)
  · exact optW_iff (resX_imp ht _ _ hq)
/-- A function that needs no roots and gives just this. -/
theorem SPure.run {tab : List TI} (ht : TabOk P tab) {f : FuncId} {fn : Func} {c : Code} {args : List AV} {X : AV} {rs : List ResultVar} (hf : P.funcs[f]? = some fn) (hb : fn.body = some c) (hc : codeOk fn.ntmps c = true)
    (hn : args.length ≤ fn.ntmps) (hrs : fn.results.toList = rs)
    (h : argsX args fun args => xAwp P tab fn.ntmps (pinsOf []) c (retX tab rs fun x r => fzX x r fun x _ => force x fun x => Side (x = X)) (envOf 0 args) []) : SPure P f args X := by
  refine .finF [] .nil (by simp) ((SCall.run (roots := []) (R := fun x r => fzX x r fun x _ => force x fun x => Side (x = X)) ht hf hb hc hn hrs h).mono fun x r hx => ⟨by simp, ?_⟩)
  refine optW_mono (fzX_imp _ _ _ hx) fun y hy => ?_
  rw [force_eq] at hy
  exact ⟨by simp [lend], hy.out⟩

theorem CallG.eq {st : St} {f : FuncId} {caps args args' : List AV} {R' : List Root} {K : AV → St → Prop} {X : AV} (hc : ∀ (vs : Array Value) (w : World), (callFunc f vs).run P w = .ok (.enter f vs) w)
    (hfz : fzL (args ++ caps) st.roots = some (args', R')) (h : SPure P f args' X) (hk : K X ⟨st.env, R'⟩) : CallG P p st (.fn f caps) args K := ⟨CallW.eq hc hfz h hk⟩
theorem CallG.con {st : St} {f : FuncId} {caps args args' : List AV} {R' : List Root} {K : AV → St → Prop} {c : Value} (hc : ∀ (vs : Array Value) (w : World), (callFunc f vs).run P w = .ok (.enter f vs) w)
    (hfz : fzL (args ++ caps) st.roots = some (args', R')) (h : SPure P f args' (.d (.con c))) (hk : K (.d (.con c)) st) : CallG P p st (.fn f caps) args K := ⟨CallW.con hc hfz h hk⟩
theorem CallQG.con {st : St} {f : FuncId} {caps args args' : List AV} {R' : List Root} {K : AV → Prop} {c : Value} (hc : ∀ (vs : Array Value) (w : World), (callFunc f vs).run P w = .ok (.enter f vs) w)
    (hfz : fzL (args ++ caps) st.roots = some (args', R')) (h : SPure P f args' (.d (.con c))) (hk : K (.d (.con c))) : CallQG P st (.fn f caps) args K := ⟨CallQ.con hc hfz h hk⟩

/-- A call of a function that is lent some of the roots. -/
theorem CallG.lend {st : St} {f : FuncId} {caps args : List AV} {K : AV → St → Prop} (hc : ∀ (vs : Array Value) (w : World), (callFunc f vs).run P w = .ok (.enter f vs) w) (σ : List Nat) (hn : σ.Nodup)
    (hσ : ∀ q, q ∈ σ → q < st.roots.length) (hp : ∀ q, q ∈ σ → isArr st.roots q = true → ¬ p q) {R : AV → List Root → Prop} (h : SCall P f ((args ++ caps).map (ren (posOf σ))) (lend σ st.roots) R)
    (hk : ∀ x r, R x r → σ.length ≤ r.length ∧ K (ren (fun i => some (back σ st.roots.length i)) x) (afterCall st σ r)) : CallG P p st (.fn f caps) args K := ⟨CallW.lend hc σ hn hσ hp h hk⟩

/-- Where a round of a loop must lead, where reduction stops. -/
structure RoundG {α : Type} (ks rs : List Nat) (S : α → St) (J : α → Prop) (μ : α → Nat) (m : Nat) (env : List (Nat × AV)) (roots : List Root) : Prop where
  out : RoundW ks rs S J μ m ⟨env, roots⟩
theorem RoundG.mk' {α : Type} {ks rs : List Nat} {S : α → St} {J : α → Prop} {μ : α → Nat} {m : Nat} {env : List (Nat × AV)} {roots : List Root} (a : α) (hr : ∀ r, r ∈ rs → r < roots.length) (hs : keepSt ks rs ⟨env, roots⟩ = S a) (hm : μ a < m) (hj : J a) :
    RoundG ks rs S J μ m env roots := ⟨hr, a, hm, hj, hs⟩
theorem LoopG.of {α : Type} {tab : List TI} (ht : TabOk P tab) {roots0 : List Root} {c : Code} {Q : Post} {st : St} (ks rs : List Nat) (S : α → St) (J : α → Prop) (μ : α → Nat) (a0 : α) (hc : codeOk n c = true) (hn : rs.Nodup)
    (hp : ∀ q, q < roots0.length → posOf rs q = some q) (hr : ∀ r, r ∈ rs → r < st.roots.length) (hs : keepSt ks rs st = S a0) (hj : J a0)
    (round : ∀ a, J a → forceS (S a) fun st => xAwp P tab n (pinsOf roots0) c (thenX (fun _ => RoundG ks rs S J μ (μ a)) Q) st.env st.roots) : LoopG P n (pinsOf roots0) c (stQ Q) st := by
  refine ⟨SWp.loop (fun m st => ∃ a, μ a = m ∧ J a ∧ st = S a) ⟨μ a0, S a0, ?_, a0, rfl, hj, rfl⟩ ?_⟩
  · rw [← hs]; exact Weak.keep ks rs hn hr fun q hq => hp q (pins_lt hq)
  · rintro m st ⟨a, rfl, hj, rfl⟩
    have hx := round a hj
    rw [forceS_eq] at hx
    refine (xAwp_sound ht c hc hx).mono ?_
    rintro e ⟨en, rts⟩ hq
    cases e
    case normal =>
      obtain ⟨h1, a', h2, h3, h4⟩ := RoundG.out hq
      exact ⟨μ a', S a', h2, h4 ▸ Weak.keep ks rs hn h1 fun q hq => hp q (pins_lt hq), a', rfl, h3, rfl⟩
    all_goals exact hq
theorem LoopG.weak {c : Code} {Q : Exit → St → Prop} {st st' : St} (hw : Weak p st st') (h : LoopG P n p c Q st') : LoopG P n p c Q st := ⟨SWp.weak hw h.out⟩
/-- A call's arguments, told otherwise. -/
theorem CallG.at {st : St} {fv : AV} {args : List AV} {K : AV → St → Prop} (args' : List AV) (ha : args = args') (h : CallG P p st fv args' K) : CallG P p st fv args K := ha ▸ h
theorem CallQG.at {st : St} {fv : AV} {args : List AV} {K : AV → Prop} (args' : List AV) (ha : args = args') (h : CallQG P st fv args' K) : CallQG P st fv args K := ha ▸ h
end Go.Al
