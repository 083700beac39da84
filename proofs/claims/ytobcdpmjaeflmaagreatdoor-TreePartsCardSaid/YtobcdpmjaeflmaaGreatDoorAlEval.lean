/- Al: a function run where all is known: by reckoning alone. -/
import Derived.Test.YtobcdpmjaeflmaaGreatDoorAlRun
import Derived.Test.YtobcdpmjaeflmaaGreatDoorAlTree
set_option linter.unusedVariables false
set_option linter.unusedSimpArgs false
namespace Go.Al
variable {P : Program} {n : Nat} {p : Nat → Prop}

/-! ### Texts, as lists -/
def catB (a b : ByteArray) : ByteArray := ⟨⟨a.data.toList ++ b.data.toList⟩⟩
theorem catB_eq (a b : ByteArray) : a ++ b = catB a b := by
  rw [← ba_toList a, ← ba_toList b, append_ba]; rfl
def cutB (s : ByteArray) (l h : Nat) : ByteArray := ⟨⟨(s.data.toList.drop l).take (h - l)⟩⟩
theorem cutB_eq (s : ByteArray) (l h : Nat) : s.extract l h = cutB s l h := by
  conv => lhs; rw [← ba_toList s]
  rw [extract_ba]; rfl
def sameL : List UInt8 → List UInt8 → Bool
  | [], [] => true
  | a :: l, b :: m => Nat.beq a.toNat b.toNat && sameL l m
  | _, _ => false
theorem sameL_eq : ∀ (a b : List UInt8), sameL a b = (a == b)
  | [], [] => rfl
  | [], _ :: _ => rfl
  | _ :: _, [] => rfl
  | a :: l, b :: m => by
    simp only [sameL, sameL_eq l m, List.cons_beq_cons]
    congr 1
    rw [Bool.eq_iff_iff]
    simp [Nat.beq_eq, UInt8.toNat_inj]
theorem bytesEq_same (a b : ByteArray) : bytesEq a b = sameL a.data.toList b.data.toList := by
  rw [← ba_toList a, ← ba_toList b, bytesEq_ba, sameL_eq]; rfl

/-! ### Operations that only look -/
def eAdd (k : IntKind) (r : Int) : Option AV := match k with
  | .i64 => if -9223372036854775808 ≤ r ∧ r ≤ 9223372036854775807 then some (.d (.con (.int .i64 r))) else none
  | k => some (.d (.con (.int k (k.wrap r))))
theorem eAdd_ok {k : IntKind} {r : Int} {v : AV} {K : AV → Prop} (h : eAdd k r = some v) (hk : K v) : addX k r K := by
  unfold eAdd at h
  unfold addX
  split at h
  · split at h
    · rename_i hr
      cases h
      exact ⟨⟨hr⟩, hk⟩
    · cases h
  · cases h
    cases k <;> first | exact hk | contradiction
def bo (b : Bool) : AV := .d (.con (.bool b))
theorem two_of {φ : Prop} [Decidable φ] {K : AV → Prop} {v : AV} (h : some (bo (decide φ)) = some v) (hk : K v) : two φ K := by
  cases h
  by_cases hφ : φ
  · simp only [hφ, decide_true] at hk
    exact ⟨fun _ => hk, fun h => absurd hφ h⟩
  · simp only [hφ, decide_false] at hk
    exact ⟨fun h => absurd h hφ, fun _ => hk⟩
def eBin (tab : List TI) (op : BinOp) (T : Nat) (x y : AV) : Option AV := match x, y with
  | .d (.con (.int k a)), .d (.con (.int k' b)) => if k = k' then (match op with
    | .add => eAdd k (a + b)
    | .sub => eAdd k (a - b)
    | .mul => some (.d (.con (.int k (k.wrap (a * b)))))
    | .quo => if b ≠ 0 then some (.d (.con (.int k (k.wrap (a.tdiv b))))) else none
    | .rem => if b ≠ 0 then some (.d (.con (.int k (a.tmod b)))) else none
    | .eql => some (bo (decide (a = b)))
    | .neq => some (bo (decide (a ≠ b)))
    | .lss => some (bo (decide (a < b)))
    | .leq => some (bo (decide (a ≤ b)))
    | .gtr => some (bo (decide (a > b)))
    | .geq => some (bo (decide (a ≥ b)))
    | _ => none) else none
  | .d (.con (.string a)), .d (.con (.string b)) => match op with
    | .add => if a.data.toList.length + b.data.toList.length ≤ 9223372036854775807 then some (.d (.con (.string (catB a b)))) else none
    | .eql => some (bo (sameL a.data.toList b.data.toList))
    | .neq => some (bo (not (sameL a.data.toList b.data.toList)))
    | _ => none
  | .d (.con (.bool a)), .d (.con (.bool b)) => match tat tab T with
    | some ⟨_, _, _, .bool, _⟩ => match op with
      | .eql => some (bo (sameB a b))
      | .neq => some (bo (not (sameB a b)))
      | _ => none
    | _ => none
  | .ptr _ _ _, .d (.con (.pointer none)) => match tat tab T with
    | some ⟨_, _, _, .ptr, _⟩ => match op with
      | .eql => some (bo false)
      | .neq => some (bo true)
      | _ => none
    | _ => none
  | _, _ => none
theorem eBin_ok {tab : List TI} {op : BinOp} {T : Nat} {x y v : AV} {K : AV → Prop} (h : eBin tab op T x y = some v) (hk : K v) : binX tab op T x y K := by
  unfold eBin at h
  split at h
  · split at h <;> try (cases h; done)
    rename_i hkk
    subst hkk
    unfold binX
    refine ⟨⟨rfl⟩, ?_⟩
    cases op <;> dsimp only at h ⊢ <;> try (cases h; done)
    case add => exact eAdd_ok h hk
    case sub => exact eAdd_ok h hk
    case mul => cases h; exact hk
    case quo => split at h <;> first | (cases h; done) | (cases h; exact ⟨⟨by assumption⟩, hk⟩)
    case rem => split at h <;> first | (cases h; done) | (cases h; exact ⟨⟨by assumption⟩, hk⟩)
    all_goals exact two_of h hk
  · rename_i a b
    unfold binX
    cases op <;> dsimp only at h ⊢ <;> try (cases h; done)
    case add =>
      split at h <;> try (cases h; done)
      rename_i hb
      cases h
      exact ⟨⟨hb⟩, by rw [catB_eq]; exact hk⟩
    case eql => exact two_of (by rw [← h, bytesEq_same]; simp) hk
    case neq => exact two_of (by rw [← h, bytesEq_same]; simp [bo]) hk
  · split at h <;> try (cases h; done)
    rename_i ha
    unfold binX
    simp only [ha]
    cases op <;> dsimp only at h ⊢ <;> try (cases h; done)
    all_goals cases h; exact hk
  · split at h <;> try (cases h; done)
    rename_i ha
    unfold binX
    simp only [ha]
    cases op <;> dsimp only at h ⊢ <;> try (cases h; done)
    all_goals cases h; exact hk
  · cases h

def eUn (op : UnOp) (x : AV) : Option AV := match x with
  | .d (.con (.bool b)) => match op with
    | .not => some (bo (not b))
    | _ => none
  | .d (.con (.int k a)) => match op with
    | .neg => eAdd k (0 - a)
    | _ => none
  | _ => none
theorem eUn_ok {op : UnOp} {x v : AV} {K : AV → Prop} (h : eUn op x = some v) (hk : K v) : unX op x K := by
  unfold eUn at h
  split at h
  · cases op <;> dsimp only at h <;> try (cases h; done)
    cases h; exact hk
  · cases op <;> dsimp only at h <;> try (cases h; done)
    exact eAdd_ok h hk
  · cases h
def eConv (tab : List TI) (S T : Nat) (x : AV) : Option AV := match x with
  | .d (.con (.int _ m)) => match tat tab S with
    | some _ => match tat tab T with
      | some ⟨_, _, _, .int k', _⟩ => eAdd k' m
      | _ => none
    | none => none
  | _ => none
theorem eConv_ok {tab : List TI} {S T : Nat} {x v : AV} {K : AV → Prop} (h : eConv tab S T x = some v) (hk : K v) : convX tab S T x K := by
  unfold eConv at h
  split at h <;> try (cases h; done)
  split at h <;> try (cases h; done)
  rename_i hS
  split at h <;> try (cases h; done)
  rename_i hT
  simp only [convX, hS, hT]
  exact eAdd_ok h hk
theorem splitV_of {v : AV} {K : AV → Prop} (h : K v) : splitV v K := by
  unfold splitV
  split
  · rename_i t
    exact ⟨fun e => e ▸ h, fun e => e ▸ h⟩
  · exact h
def eLoad (tab : List TI) (roots : List Root) (T : Nat) (v : AV) : Option AV := match tat tab T with
  | some i => match v with
    | .fptr row off => partA i.agg i.sz (row.map .d) off
    | .ptr r i' off => match lat roots r with
      | some (.box cs) => if i' = 0 then partA i.agg i.sz cs off else none
      | some (.arr _ rows _) => (lat rows i').bind fun row => partA i.agg i.sz (row.map .d) off
      | _ => none
    | _ => none
  | none => none
theorem optW_of {α : Type} {o : Option α} {K : α → Prop} {a : α} (h : o = some a) (hk : K a) : optW o K := by rw [h]; exact hk
theorem lat_lt {α : Type} {l : List α} {i : Nat} {x : α} (h : lat l i = some x) : i < l.length := by
  rw [lat_eq] at h
  exact (List.getElem?_eq_some_iff.1 h).1
theorem AllRow.of {rows : List (List D)} {i : Nat} {row : List D} {K : List D → Prop} (h : lat rows i = some row) (hk : K row) : AllRow rows i K := ⟨fun r hr => by
  rw [← lat_eq, h] at hr
  cases hr
  exact hk⟩
theorem eLoad_ok {tab : List TI} {roots : List Root} {T : Nat} {v x : AV} {K : AV → Prop} (h : eLoad tab roots T v = some x) (hk : K x) : loadX tab roots T v K := by
  unfold eLoad at h
  split at h <;> try (cases h; done)
  rename_i i hT
  unfold loadX
  simp only [hT]
  split at h
  · exact optW_of h (splitV_of hk)
  · rename_i r i' off
    split at h
    · rename_i cs hr
      split at h <;> try (cases h; done)
      simp only [hr]
      exact ⟨⟨by assumption⟩, optW_of h (splitV_of hk)⟩
    · rename_i rows _ hr
      obtain ⟨row, hrow, h⟩ := Option.bind_eq_some_iff.1 h
      simp only [hr]
      exact ⟨⟨lat_lt hrow⟩, .of hrow (optW_of h (splitV_of hk))⟩
    · cases h
  · cases h
def eField (tab : List TI) (T f : Nat) (v : AV) : Option AV := match tat tab T with
  | some ⟨_, _, _, .struct offs, _⟩ => match lat offs f with
    | some ⟨o, _ + 1⟩ => match v with
      | .fptr row off => some (.fptr row (off + o))
      | .ptr r i off => some (.ptr r i (off + o))
      | _ => none
    | _ => none
  | _ => none
theorem eField_ok {tab : List TI} {T f : Nat} {v x : AV} {K : AV → Prop} (h : eField tab T f v = some x) (hk : K x) : fieldX tab T f v K := by
  unfold eField at h
  split at h <;> try (cases h; done)
  rename_i hT
  split at h <;> try (cases h; done)
  rename_i ho
  simp only [fieldX, hT, ho]
  unfold fieldW
  split at h <;> try (cases h; done)
  all_goals cases h; exact hk
def eIdx (tab : List TI) (roots : List Root) (T : Nat) (v iv : AV) : Option AV := match tat tab T with
  | some ⟨_, _, _, .slice e, _⟩ => match tat tab e with
    | some i => match iv with
      | .d (.con (.int _ m)) => match v with
        | .d (.sl rows) => if 0 ≤ m then (lat rows m.toNat).bind fun row => if row.length = i.sz then some (.fptr row 0) else none else none
        | .vs r off len => match lat roots r with
          | some (.arr sz _ _) => if sz = i.sz ∧ 0 ≤ m ∧ m < len then some (.ptr r (off + m.toNat) 0) else none
          | _ => none
        | _ => none
      | _ => none
    | none => none
  | _ => none
theorem eIdx_ok {tab : List TI} {roots : List Root} {T : Nat} {v iv x : AV} {K : AV → Prop} (h : eIdx tab roots T v iv = some x) (hk : K x) : idxX tab roots T v iv K := by
  unfold eIdx at h
  split at h <;> try (cases h; done)
  rename_i hT
  split at h <;> try (cases h; done)
  rename_i i he
  simp only [idxX, hT, he]
  split at h <;> try (cases h; done)
  split at h <;> try (cases h; done)
  · split at h <;> try (cases h; done)
    rename_i h0
    obtain ⟨row, hrow, h⟩ := Option.bind_eq_some_iff.1 h
    split at h <;> try (cases h; done)
    cases h
    have := lat_lt hrow
    exact ⟨⟨h0, by omega⟩, .of hrow ⟨⟨by assumption⟩, hk⟩⟩
  · split at h <;> try (cases h; done)
    rename_i hr
    split at h <;> try (cases h; done)
    rename_i hc
    cases h
    simp only [hr]
    exact ⟨⟨hc.1⟩, ⟨hc.2⟩, hk⟩
def eStrIdx (tab : List TI) (T : Nat) (v iv : AV) : Option AV := match tat tab T with
  | some ⟨_, _, _, .str, _⟩ => match iv with
    | .d (.con (.int _ m)) => match v with
      | .d (.con (.string s)) => if 0 ≤ m then (lat s.data.toList m.toNat).bind fun b => some (.d (.con (.int .u8 b.toNat))) else none
      | _ => none
    | _ => none
  | _ => none
theorem eStrIdx_ok {tab : List TI} {T : Nat} {v iv x : AV} {K : AV → Prop} (h : eStrIdx tab T v iv = some x) (hk : K x) : strIdxX tab T v iv K := by
  unfold eStrIdx at h
  split at h <;> try (cases h; done)
  rename_i hT
  split at h <;> try (cases h; done)
  rename_i m
  split at h <;> try (cases h; done)
  rename_i s
  split at h <;> try (cases h; done)
  rename_i h0
  obtain ⟨b, hb, h⟩ := Option.bind_eq_some_iff.1 h
  cases h
  simp only [strIdxX, hT]
  have h1 := lat_lt hb
  have h2 : s.size = s.data.toList.length := rfl
  have e : byteAt s m.toNat = b.toNat := by
    unfold byteAt
    rw [lat_eq] at hb
    rw [List.getD_eq_getElem?_getD, hb]
    rfl
  refine ⟨⟨h0, by omega⟩, ?_⟩
  rw [e]
  exact hk
def eBnd (env : List (Nat × AV)) (d : Nat) (x : Option Operand) : Option Int := match x with
  | none => some d
  | some x => match evX env x with
    | .d (.con (.int _ m)) => some m
    | _ => none
theorem eBnd_ok {env : List (Nat × AV)} {d : Nat} {x : Option Operand} {m : Int} {K : Int → Prop} (h : eBnd env d x = some m) (hk : K m) : bndX env d x K := by
  unfold eBnd at h
  unfold bndX
  split at h
  · cases h; exact hk
  · split at h <;> try (cases h; done)
    rename_i hx
    cases h
    simp only [hx]
    exact hk
def eSlice (tab : List TI) (env : List (Nat × AV)) (roots : List Root) (T : Nat) (v : AV) (lo hi : Option Operand) : Option AV := match tat tab T with
  | some ⟨_, _, _, .str, _⟩ => match v with
    | .d (.con (.string s)) => (eBnd env 0 lo).bind fun l => (eBnd env s.data.toList.length hi).bind fun h => if 0 ≤ l ∧ l ≤ h ∧ h ≤ s.data.toList.length then some (.d (.con (.string (cutB s l.toNat h.toNat)))) else none
    | _ => none
  | some ⟨_, _, _, .slice e, _⟩ => match tat tab e with
    | some i => match v with
      | .d (.sl rows) => (eBnd env 0 lo).bind fun l => (eBnd env rows.length hi).bind fun h =>
          if (0 ≤ l ∧ l ≤ h ∧ h ≤ rows.length) ∧ (∀ row, row ∈ rows → row.length = i.sz) then some (.d (.sl ((rows.drop l.toNat).take (h.toNat - l.toNat)))) else none
      | .vs r off len => match lat roots r with
        | some (.arr sz _ _) => (eBnd env 0 lo).bind fun l => (eBnd env len hi).bind fun h => if sz = i.sz ∧ (0 ≤ l ∧ l ≤ h ∧ h ≤ len) then some (.vs r (off + l.toNat) (h.toNat - l.toNat)) else none
        | _ => none
      | .d (.con (.slice none 0 0)) => (eBnd env 0 lo).bind fun l => (eBnd env 0 hi).bind fun h => if 0 ≤ l ∧ l ≤ h ∧ h ≤ 0 then some (.d (.sl [])) else none
      | _ => none
    | none => none
  | _ => none
theorem eSlice_ok {tab : List TI} {env : List (Nat × AV)} {roots : List Root} {T : Nat} {v x : AV} {lo hi : Option Operand} {K : AV → Prop} (h : eSlice tab env roots T v lo hi = some x) (hk : K x) : sliceX tab env roots T v lo hi K := by
  unfold eSlice at h
  split at h <;> try (cases h; done)
  · rename_i hT
    split at h <;> try (cases h; done)
    rename_i s
    obtain ⟨l, hl, h⟩ := Option.bind_eq_some_iff.1 h
    obtain ⟨h', hh, h⟩ := Option.bind_eq_some_iff.1 h
    split at h <;> try (cases h; done)
    rename_i hc
    cases h
    simp only [sliceX, hT]
    exact eBnd_ok hl (eBnd_ok hh ⟨⟨hc⟩, by rw [cutB_eq]; exact hk⟩)
  · rename_i hT
    split at h <;> try (cases h; done)
    rename_i i he
    simp only [sliceX, hT, he]
    split at h <;> try (cases h; done)
    · obtain ⟨l, hl, h⟩ := Option.bind_eq_some_iff.1 h
      obtain ⟨h', hh, h⟩ := Option.bind_eq_some_iff.1 h
      split at h <;> try (cases h; done)
      rename_i hc
      cases h
      exact eBnd_ok hl (eBnd_ok hh ⟨⟨hc.1⟩, ⟨hc.2⟩, hk⟩)
    · split at h <;> try (cases h; done)
      rename_i hr
      obtain ⟨l, hl, h⟩ := Option.bind_eq_some_iff.1 h
      obtain ⟨h', hh, h⟩ := Option.bind_eq_some_iff.1 h
      split at h <;> try (cases h; done)
      rename_i hc
      cases h
      simp only [hr]
      exact ⟨⟨hc.1⟩, eBnd_ok hl (eBnd_ok hh ⟨⟨hc.2⟩, hk⟩)⟩
    · obtain ⟨l, hl, h⟩ := Option.bind_eq_some_iff.1 h
      obtain ⟨h', hh, h⟩ := Option.bind_eq_some_iff.1 h
      split at h <;> try (cases h; done)
      rename_i hc
      cases h
      exact eBnd_ok hl (eBnd_ok hh ⟨⟨hc⟩, hk⟩)
def eLen (tab : List TI) (T : Nat) (v : AV) : Option AV := match tat tab T with
  | some ⟨_, _, _, .str, _⟩ => match v with
    | .d (.con (.string s)) => some (.d (.con (.int .i64 s.data.toList.length)))
    | _ => none
  | some ⟨_, _, _, .slice _, _⟩ => match v with
    | .d (.con (.slice _ len _)) => some (.d (.con (.int .i64 len)))
    | .d (.sl rows) => some (.d (.con (.int .i64 rows.length)))
    | .vs _ _ len => some (.d (.con (.int .i64 len)))
    | _ => none
  | _ => none
theorem eLen_ok {tab : List TI} {T : Nat} {v x : AV} {K : AV → Prop} (h : eLen tab T v = some x) (hk : K x) : lenX tab T v K := by
  unfold eLen at h
  unfold lenX
  split at h <;> try (cases h; done)
  · rename_i hT
    split at h <;> try (cases h; done)
    cases h
    simp only [hT]
    exact hk
  · rename_i hT
    simp only [hT]
    split at h <;> try (cases h; done)
    all_goals cases h; exact hk
def eMax (big : Bool) (x y : AV) : Option AV := match x, y with
  | .d (.con (.int k a)), .d (.con (.int k' b)) => if k = k' then some (.d (.con (.int k (if big then max a b else min a b)))) else none
  | _, _ => none
theorem eMax_ok {big : Bool} {x y v : AV} {K : AV → Prop} (h : eMax big x y = some v) (hk : K v) : maxW big x y K := by
  unfold eMax at h
  split at h <;> try (cases h; done)
  split at h <;> try (cases h; done)
  cases h
  exact ⟨by assumption, hk⟩
def eNil (v : AV) : Option AV := match v with
  | .ptr r i off => some (.ptr r i off)
  | .fptr row off => some (.fptr row off)
  | .fn f cs => some (.fn f cs)
  | _ => none
theorem eNil_ok {v x : AV} {K : AV → Prop} (h : eNil v = some x) (hk : K x) : nilW v K := by
  unfold eNil at h
  unfold nilW
  split at h <;> try (cases h; done)
  all_goals cases h; exact hk

def eLook (tab : List TI) (roots : List Root) (T : Nat) (x k : AV) (ok : Bool) : Option AV := match tat tab T with
  | some ⟨_, _, _, .map mk' e, _⟩ => match tat tab e with
    | some ⟨_, _, _, _, some z⟩ => match x with
      | .mp r => match k with
        | .d (.con kv) => match lat roots r with
          | some (.map mk es) => cond (mkSame mk mk' && kokB mk kv) (some (foundA ok z (mfind es kv))) none
          | _ => none
        | _ => none
      | _ => none
    | _ => none
  | _ => none
theorem cond_some' {α : Type} {b : Bool} {x : Option α} {y : α} (h : cond b x none = some y) : b = true ∧ x = some y := by
  cases b
  · cases h
  · exact ⟨rfl, h⟩
theorem eLook_ok {tab : List TI} {roots : List Root} {T : Nat} {x k : AV} {ok : Bool} {v : AV} {K : AV → Prop} (h : eLook tab roots T x k ok = some v) (hk : K v) : lookX tab roots T x k ok K := by
  unfold eLook at h
  split at h <;> try (cases h; done)
  rename_i hT
  split at h <;> try (cases h; done)
  rename_i he
  split at h <;> try (cases h; done)
  split at h <;> try (cases h; done)
  split at h <;> try (cases h; done)
  rename_i hr
  obtain ⟨hb, h⟩ := cond_some' h
  cases h
  unfold lookX
  simp only [hT, he, hr, hb, cond_true]
  exact ⟨hk⟩
def eP (tab : List TI) (env : List (Nat × AV)) (roots : List Root) (op : Op) : Option AV := match op with
  | .move x => some (evX env x)
  | .assign x => some (evX env x)
  | .pick c x y => match evX env c with
    | .d (.con (.bool t)) => some (cond t (evX env x) (evX env y))
    | _ => none
  | .binOp op T x y _ => eBin tab op T (evX env x) (evX env y)
  | .unOp op _ x => eUn op (evX env x)
  | .convert src T x => eConv tab src T (evX env x)
  | .nilCheck x => eNil (evX env x)
  | .load T x => eLoad tab roots T (evX env x)
  | .fieldAddr T x f => eField tab T f (evX env x)
  | .indexAddr T x i => eIdx tab roots T (evX env x) (evX env i)
  | .index T x i => eStrIdx tab T (evX env x) (evX env i)
  | .extract x i => match evX env x with
    | .tup vs => lat vs i
    | _ => none
  | .slice T x lo hi none => eSlice tab env roots T (evX env x) lo hi
  | .build T ⟨parts⟩ => match tat tab T with
    | some ⟨_, _, _, .struct offs, some z⟩ => ((cellsA (.d (.con z))).bind fun cs => fillA (fun i => lat offs i) cs (partsX env parts)).map .agg
    | _ => none
  | .makeFunc (.func f) ⟨[]⟩ ⟨captured⟩ => some (.fn f (captured.map (evX env)))
  | .call ⟨.builtin .len, ⟨[x]⟩, ⟨[T]⟩⟩ => eLen tab T (evX env x)
  | .call ⟨.builtin .max, ⟨[x, y]⟩, _⟩ => eMax true (evX env x) (evX env y)
  | .call ⟨.builtin .min, ⟨[x, y]⟩, _⟩ => eMax false (evX env x) (evX env y)
  | .lookup T x k ok => eLook tab roots T (evX env x) (evX env k) ok
  | _ => none
theorem eP_ok {tab : List TI} {env : List (Nat × AV)} {roots : List Root} {op : Op} {v : AV} {K : AV → Prop} (h : eP tab env roots op = some v) (hk : K v) : xP tab env roots op K := by
  unfold eP at h
  split at h
  · cases h; exact hk
  · cases h; exact hk
  · split at h <;> try (cases h; done)
    rename_i t hc
    simp only [xP, pickX, hc]
    cases t <;> (cases h; exact hk)
  · exact eBin_ok h hk
  · exact eUn_ok h hk
  · exact eConv_ok h hk
  · exact eNil_ok h hk
  · exact eLoad_ok h hk
  · exact eField_ok h hk
  · exact eIdx_ok h hk
  · exact eStrIdx_ok h hk
  · split at h <;> try (cases h; done)
    rename_i hx
    simp only [xP, hx]
    exact optW_of h (splitV_of hk)
  · exact eSlice_ok h hk
  · split at h <;> try (cases h; done)
    rename_i hT
    obtain ⟨cs, hcs, rfl⟩ := Option.map_eq_some_iff.1 h
    simp only [xP, buildX, hT]
    exact optW_of hcs hk
  · cases h; exact hk
  · exact eLen_ok h hk
  · exact eMax_ok h hk
  · exact eMax_ok h hk
  · exact eLook_ok h hk
  · cases h
end Go.Al
