/- Al: abstract values without memory, and what they say of values and of a world. -/
import Derived.Calls
import Derived.Test.YtobcdpmjaeflmaaGreatDoorAlGlob
import Derived.Laws.Sem
set_option linter.unusedVariables false
set_option linter.unusedSimpArgs false
namespace Go.Al

/-- Data that is never written again: of it nothing is known; the very value; a slice of rows of cells; a struct's cells. -/
inductive D where
  | any
  | cell
  | con (v : Value)
  | sl (rows : List (List D))
  | agg (cs : List D)

/-- What a temporary or a cell holds. -/
inductive AV where
  | d (x : D)
  | vs (r off len : Nat)
  | ptr (r i off : Nat)
  | fptr (row : List D) (off : Nat)
  | agg (cs : List AV)
  | tup (vs : List AV)
  | fn (f : FuncId) (caps : List AV)
  | gd (b : Bool) (x : AV)
  | mp (r : Nat)

/-- Of which kind a map's keys are. -/
inductive MK where
  | str
  | int (k : IntKind)
  | bool
def kokB : MK → Value → Bool
  | .str, .string _ => true
  | .int k, .int k' _ => decide (k = k')
  | .bool, .bool _ => true
  | _, _ => false
def kdesc : MK → TypeDesc
  | .str => .string
  | .int k => .int k
  | .bool => .bool

/-- Memory of the call's own: a box of cells, an array that grows, or nothing any more. -/
inductive Root where
  | box (cs : List AV)
  | arr (sz : Nat) (rows : List (List D)) (lim : Nat)
  | dead
  | map (k : MK) (es : List (Value × D))

structure Loc where
  b : Nat
  o : Nat
  sz : Nat
  cap : Nat

/-- The frozen cells. -/
abbrev Mem := Nat → Nat → Option Value
/-- Where each root lies. -/
inductive Slot where
  | no
  | virt
  | at (l : Loc)
abbrev Where := Nat → Slot

inductive RelF (M : Mem) : D → Value → Prop where
  | any (v : Value) : RelF M .any v
  | cell (v : Value) (h : v.oneCell' = true) : RelF M .cell v
  | con (v : Value) : RelF M (.con v) v
  | sl (rows : List (List D)) (a : Option Addr) (len cap b o : Nat) (f : Nat → Nat → Value) (hlen : len = rows.length) (hcap : len ≤ cap)
      (ha : rows ≠ [] → a = some ⟨b, o, none⟩)
      (hM : ∀ (i : Nat) row (j : Nat) c, rows[i]? = some row → row[j]? = some c → M b (o + i * row.length + j) = some (f i j))
      (hR : ∀ (i : Nat) row (j : Nat) c, rows[i]? = some row → row[j]? = some c → RelF M c (f i j)) : RelF M (.sl rows) (.slice a len cap)
  | agg (cs : List D) (vs : Array Value) (hlen : cs.length = vs.size)
      (hR : ∀ (i : Nat) c x, cs[i]? = some c → vs[i]? = some x → RelF M c x) : RelF M (.agg cs) (.agg vs)

inductive RelV (M : Mem) (β : Where) : AV → Value → Prop where
  | d (x : D) (v : Value) (h : RelF M x v) : RelV M β (.d x) v
  | vs (r off len : Nat) (l : Loc) (hb : β r = .at l) (hl : off + len ≤ l.cap) :
      RelV M β (.vs r off len) (.slice (some ⟨l.b, l.o + off * l.sz, none⟩) len (l.cap - off))
  | vsE (r off : Nat) (a : Option Addr) (l : Loc) (hb : β r = .at l) (ho : off = l.cap) : RelV M β (.vs r off 0) (.slice a 0 0)
  | vsV (r : Nat) (a : Option Addr) (hb : β r = .virt) : RelV M β (.vs r 0 0) (.slice a 0 0)
  | ptr (r i off : Nat) (l : Loc) (hb : β r = .at l) : RelV M β (.ptr r i off) (.pointer (some ⟨l.b, l.o + i * l.sz + off, none⟩))
  | fptr (row : List D) (off b o : Nat) (f : Nat → Value) (hM : ∀ (j : Nat) c, row[j]? = some c → M b (o + j) = some (f j))
      (hR : ∀ (j : Nat) c, row[j]? = some c → RelF M c (f j)) : RelV M β (.fptr row off) (.pointer (some ⟨b, o + off, none⟩))
  | agg (cs : List AV) (vs : Array Value) (hlen : cs.length = vs.size)
      (hR : ∀ (i : Nat) c x, cs[i]? = some c → vs[i]? = some x → RelV M β c x) : RelV M β (.agg cs) (.agg vs)
  | tup (cs : List AV) (vs : Array Value) (hlen : cs.length = vs.size)
      (hR : ∀ (i : Nat) c x, cs[i]? = some c → vs[i]? = some x → RelV M β c x) : RelV M β (.tup cs) (.tuple vs)
  | fn (f : FuncId) (caps : List AV) (vs : Array Value) (hlen : caps.length = vs.size)
      (hR : ∀ (i : Nat) c x, caps[i]? = some c → vs[i]? = some x → RelV M β c x) : RelV M β (.fn f caps) (.func (.func f) #[] vs)
  | gd (b : Bool) (x : AV) (v : Value) (h : b = true → RelV M β x v) : RelV M β (.gd b x) v
  | mp (r : Nat) (l : Loc) (hb : β r = .at l) : RelV M β (.mp r) (.map (some l.b))

def Mem.le (M M' : Mem) : Prop := ∀ b o x, M b o = some x → M' b o = some x

/-- What is known of the package-level variables holds; no root lies there. -/
structure GlobOK (β : Where) (w : World) : Prop where
  ok : GlobW w
  low : ∀ g, g ∈ globs → g < w.heap.size
  apart : ∀ r l, β r = .at l → l.b ∉ globs
theorem GlobOK.step {β β' : Where} {w w' : World} (h : GlobOK β w) (hsize : w.heap.size ≤ w'.heap.size)
    (hheap : ∀ b, b < w.heap.size → (∀ r l, β r = .at l → l.b ≠ b) → w'.heap[b]? = w.heap[b]?)
    (hown : ∀ r' l', β' r' = .at l' → (∃ r l, β r = .at l ∧ l.b = l'.b) ∨ w.heap.size ≤ l'.b) : GlobOK β' w' where
  ok := h.ok.of_heap fun g hg => hheap g (h.low g hg) fun r l hl e => h.apart r l hl (e ▸ hg)
  low := fun g hg => Nat.lt_of_lt_of_le (h.low g hg) hsize
  apart := fun r' l' hl' hg => by
    rcases hown r' l' hl' with ⟨r, l, hl, e⟩ | hge
    · exact h.apart r l hl (e ▸ hg)
    · exact absurd (h.low _ hg) (by omega)

theorem RelF.mono {M M' : Mem} (h : M.le M') {a : D} {v : Value} (hr : RelF M a v) : RelF M' a v := by
  induction hr with
  | any v => exact .any v
  | cell v h => exact .cell v h
  | con v => exact .con v
  | sl rows a len cap b o f hlen hcap ha hM hR ih =>
    exact .sl rows a len cap b o f hlen hcap ha (fun i row j c h1 h2 => h _ _ _ (hM i row j c h1 h2)) ih
  | agg cs vs hlen hR ih => exact .agg cs vs hlen ih

theorem RelV.mono {M M' : Mem} {β β' : Where} (h : M.le M') (hβ : ∀ r, β r ≠ .no → β' r = β r) {a : AV} {v : Value} (hr : RelV M β a v) : RelV M' β' a v := by
  induction hr with
  | d x v h' => exact .d x v (h'.mono h)
  | vs r off len l hb hl => exact .vs r off len l (by rw [hβ r (by rw [hb]; simp), hb]) hl
  | vsE r off a l hb ho => exact .vsE r off a l (by rw [hβ r (by rw [hb]; simp), hb]) ho
  | vsV r a hb => exact .vsV r a (by rw [hβ r (by rw [hb]; simp), hb])
  | ptr r i off l hb => exact .ptr r i off l (by rw [hβ r (by rw [hb]; simp), hb])
  | fptr row off b o f hM hR => exact .fptr row off b o f (fun j c h1 => h _ _ _ (hM j c h1)) (fun j c h1 => (hR j c h1).mono h)
  | agg cs vs hlen _ ih => exact .agg cs vs hlen ih
  | tup cs vs hlen _ ih => exact .tup cs vs hlen ih
  | fn f caps vs hlen _ ih => exact .fn f caps vs hlen ih
  | gd b x v _ ih => exact .gd b x v ih
  | mp r l hb => exact .mp r l (by rw [hβ r (by rw [hb]; simp), hb])

/-! ### Renaming of roots -/

mutual
def ren (f : Nat → Option Nat) : AV → AV
  | .d x => .d x
  | .vs r off len => match f r with | some r' => .vs r' off len | none => .d .cell
  | .ptr r i off => match f r with | some r' => .ptr r' i off | none => .d .cell
  | .fptr row off => .fptr row off
  | .agg cs => .agg (renL f cs)
  | .tup cs => .tup (renL f cs)
  | .fn g cs => .fn g (renL f cs)
  | .gd b x => .gd b (ren f x)
  | .mp r => match f r with | some r' => .mp r' | none => .d .cell
def renL (f : Nat → Option Nat) : List AV → List AV
  | [] => []
  | c :: cs => ren f c :: renL f cs
end

theorem renL_eq (f : Nat → Option Nat) : ∀ l, renL f l = l.map (ren f)
  | [] => rfl
  | c :: cs => by simp [renL, renL_eq f cs]

def renR (f : Nat → Option Nat) : Root → Root
  | .box cs => .box (renL f cs)
  | r => r

theorem RelV.ren {M : Mem} {β β' : Where} {f : Nat → Option Nat} (hf : ∀ r r', f r = some r' → β' r' = β r) {a : AV} {v : Value}
    (hr : RelV M β a v) : RelV M β' (ren f a) v := by
  induction hr with
  | d x v h' => exact .d x v h'
  | vs r off len l hb hl =>
    simp only [Al.ren]
    cases hfr : f r with
    | none => exact .d _ _ (.cell _ rfl)
    | some r' => exact .vs r' off len l (by rw [hf r r' hfr, hb]) hl
  | vsE r off a l hb ho =>
    simp only [Al.ren]
    cases hfr : f r with
    | none => exact .d _ _ (.cell _ rfl)
    | some r' => exact .vsE r' off a l (by rw [hf r r' hfr, hb]) ho
  | vsV r a hb =>
    simp only [Al.ren]
    cases hfr : f r with
    | none => exact .d _ _ (.cell _ rfl)
    | some r' => exact .vsV r' a (by rw [hf r r' hfr, hb])
  | ptr r i off l hb =>
    simp only [Al.ren]
    cases hfr : f r with
    | none => exact .d _ _ (.cell _ rfl)
    | some r' => exact .ptr r' i off l (by rw [hf r r' hfr, hb])
  | fptr row off b o f' hM hR => exact .fptr row off b o f' hM hR
  | agg cs vs hlen hR ih =>
    simp only [Al.ren, renL_eq]
    refine .agg _ vs (by simpa using hlen) ?_
    intro i c x h1 h2
    simp only [List.getElem?_map, Option.map_eq_some_iff] at h1
    obtain ⟨c0, h1, rfl⟩ := h1
    exact ih i c0 x h1 h2
  | tup cs vs hlen hR ih =>
    simp only [Al.ren, renL_eq]
    refine .tup _ vs (by simpa using hlen) ?_
    intro i c x h1 h2
    simp only [List.getElem?_map, Option.map_eq_some_iff] at h1
    obtain ⟨c0, h1, rfl⟩ := h1
    exact ih i c0 x h1 h2
  | fn g cs vs hlen hR ih =>
    simp only [Al.ren, renL_eq]
    refine .fn g _ vs (by simpa using hlen) ?_
    intro i c x h1 h2
    simp only [List.getElem?_map, Option.map_eq_some_iff] at h1
    obtain ⟨c0, h1, rfl⟩ := h1
    exact ih i c0 x h1 h2
  | gd b x v h ih => simp only [Al.ren]; exact .gd b _ v ih
  | mp r l hb =>
    simp only [Al.ren]
    cases hfr : f r with
    | none => exact .d _ _ (.cell _ rfl)
    | some r' => exact .mp r' l (by rw [hf r r' hfr, hb])

/-! ### What a world holds -/

/-- A root, and the cells that bear it. -/
inductive RelR (M : Mem) (β : Where) (w : World) : Slot → Root → Prop where
  | dead (l : Slot) : RelR M β w l .dead
  | virt (sz lim : Nat) : RelR M β w .virt (.arr sz [] lim)
  | box (b : Nat) (cs : List AV) (vals : Array Value) (T : TypeId) (hw : w.heap[b]? = some (.cells vals T (0, 0))) (hlen : cs.length = vals.size)
      (hM : ∀ o, M b o = none) (hR : ∀ (i : Nat) c x, cs[i]? = some c → vals[i]? = some x → RelV M β c x) : RelR M β w (.at ⟨b, 0, cs.length, 1⟩) (.box cs)
  | arr (b o sz cap lim : Nat) (rows : List (List D)) (vals : Array Value) (T : TypeId) (hw : w.heap[b]? = some (.cells vals T (0, 0)))
      (hcap : rows.length ≤ cap) (hsize : o + cap * sz ≤ vals.size) (hrow : ∀ (i : Nat) row, rows[i]? = some row → row.length = sz)
      (hM : ∀ k, o + lim * sz ≤ k → M b k = none)
      (hR : ∀ (i : Nat) row (j : Nat) c x, rows[i]? = some row → row[j]? = some c → vals[o + i * sz + j]? = some x → RelF M c x) :
      RelR M β w (.at ⟨b, o, sz, cap⟩) (.arr sz rows lim)
  | map (b : Nat) (mk : MK) (es : List (Value × D)) (arr : Array MapEntry) (clock : Nat) (hw : w.heap[b]? = some (.map arr clock)) (hlen : es.length = arr.size)
      (hM : ∀ o, M b o = none) (hR : ∀ (i : Nat) e x, es[i]? = some e → arr[i]? = some x → x.key = e.1 ∧ kokB mk e.1 = true ∧ RelF M e.2 x.val) : RelR M β w (.at ⟨b, 0, 1, 1⟩) (.map mk es)

structure Holds (M : Mem) (β : Where) (roots : List Root) (w : World) : Prop where
  frozen : ∀ b o x, M b o = some x → w.cell? ⟨b, o, none⟩ = some x
  root : ∀ (r : Nat) root, roots[r]? = some root → RelR M β w (β r) root
  inj : ∀ r r' l l', β r = .at l → β r' = .at l' → l.b = l'.b → r = r'
  low : ∀ r l, β r = .at l → l.b < w.heap.size
  scope : ∀ r, β r ≠ .no → r < roots.length
  glob : GlobOK β w

/-- From one world to a later one: what is not of the roots stays; the pinned roots stay where they are. -/
structure Later (p : Nat → Prop) (M : Mem) (β : Where) (w : World) (M' : Mem) (β' : Where) (w' : World) : Prop where
  mem : M.le M'
  size : w.heap.size ≤ w'.heap.size
  same : ∀ b, b < w.heap.size → (∀ r l, β r = .at l → l.b ≠ b) → w'.heap[b]? = w.heap[b]? ∧ ∀ o, M' b o = M b o
  own : ∀ r' l', β' r' = .at l' → (∃ r l, β r = .at l ∧ l.b = l'.b) ∨ w.heap.size ≤ l'.b
  pin : ∀ r, p r → β r ≠ .no → β' r = β r
  stream : w'.os = w.os ∧ w'.tape = w.tape ∧ w'.output = w.output

theorem Later.refl (p : Nat → Prop) (M : Mem) (β : Where) (w : World) : Later p M β w M β w :=
  ⟨fun _ _ _ h => h, Nat.le_refl _, fun _ _ _ => ⟨rfl, fun _ => rfl⟩, fun r l h => .inl ⟨r, l, h, rfl⟩, fun _ _ _ => rfl, rfl, rfl, rfl⟩

theorem Later.trans {p : Nat → Prop} {M M1 M2 : Mem} {β β1 β2 : Where} {w w1 w2 : World} (h1 : Later p M β w M1 β1 w1) (h2 : Later p M1 β1 w1 M2 β2 w2) :
    Later p M β w M2 β2 w2 where
  mem := fun b o x h => h2.mem b o x (h1.mem b o x h)
  size := Nat.le_trans h1.size h2.size
  same := fun b hb hr => by
    have hr1 : ∀ r l, β1 r = .at l → l.b ≠ b := fun r l h e => by
      rcases h1.own r l h with ⟨r0, l0, h0, e0⟩ | h0
      · exact hr r0 l0 h0 (e0.trans e)
      · omega
    obtain ⟨a1, a2⟩ := h1.same b hb hr
    obtain ⟨b1, b2⟩ := h2.same b (Nat.lt_of_lt_of_le hb h1.size) hr1
    exact ⟨b1.trans a1, fun o => (b2 o).trans (a2 o)⟩
  own := fun r' l' h => by
    rcases h2.own r' l' h with ⟨r1, l1, h1', e1⟩ | h0
    · rcases h1.own r1 l1 h1' with ⟨r0, l0, h0', e0⟩ | h0
      · exact .inl ⟨r0, l0, h0', e0.trans e1⟩
      · exact .inr (by omega)
    · exact .inr (Nat.le_trans h1.size h0)
  pin := fun r h hn => (h2.pin r h (by rw [h1.pin r h hn]; exact hn)).trans (h1.pin r h hn)
  stream := ⟨h2.stream.1.trans h1.stream.1, h2.stream.2.1.trans h1.stream.2.1, h2.stream.2.2.trans h1.stream.2.2⟩

end Go.Al
