/- Al: abstract values, the precondition, operations that look, make and freeze. -/
import Derived.Test.YtobcdpmjaeflmaaDoorProg
import Derived.Lib.LaidTab
import Derived.Lib.ItoaNum
import Derived.KernelRfl
import Derived.Calls
import Derived.Laws.Sem
import Derived.Tactics
import Derived.Laws.Entries
import Derived.Laws.Small
import Derived.Laws.Slices
import Derived.BigFrame
import Derived.Laws.Build
import Derived.Laws.Tables
import Derived.Laws.MakeOwn
set_option linter.unusedVariables false
set_option linter.unusedSimpArgs false
namespace Go.Al
def globs : List Nat := [0, 1]
/-- The largest length of the fast search is a number; the powers of ten. -/
structure GlobW (w : World) : Prop where
  maxLen : ∃ m, w.cell? ⟨0, 0, none⟩ = some (.int .i64 m)
  pow10 : Lib.TabIs Go.Proofs.Tryd.prog w "internal/strconv.uint64pow10" .u64 Lib.pow10Tab
theorem GlobW.of_heap {w w' : World} (h : GlobW w) (he : ∀ g, g ∈ globs → w'.heap[g]? = w.heap[g]?) : GlobW w' where
  maxLen := by
    have := h.maxLen
    unfold World.cell? at *
    rwa [he 0 (by simp [globs])]
  pow10 := by
    have := h.pow10
    unfold Lib.TabIs World.var? at *
    rw [show Go.Proofs.Tryd.prog.globalNamed "internal/strconv.uint64pow10" = some 1 by kernel_rfl] at *
    simp only [Option.bind_some] at *
    rwa [he 1 (by simp [globs])]
end Go.Al

namespace Go.Al

/-- Data that is never written again: of it nothing is known; the very value; a slice of rows of cells; a struct's cells. -/
inductive D where
  | any
  | cell
  | con (v : Value)
  | sl (rows : List (List D))
  | agg (cs : List D)

/-- What a temporary or a cell holds. -/
inductive AV where
  | d (x : D)
  | vs (r off len : Nat)
  | ptr (r i off : Nat)
  | fptr (row : List D) (off : Nat)
  | agg (cs : List AV)
  | tup (vs : List AV)
  | fn (f : FuncId) (caps : List AV)
  | gd (b : Bool) (x : AV)
  | mp (r : Nat)

/-- Of which kind a map's keys are. -/
inductive MK where
  | str
  | int (k : IntKind)
  | bool
def kokB : MK → Value → Bool
  | .str, .string _ => true
  | .int k, .int k' _ => decide (k = k')
  | .bool, .bool _ => true
  | _, _ => false
def kdesc : MK → TypeDesc
  | .str => .string
  | .int k => .int k
  | .bool => .bool

/-- Memory of the call's own: a box of cells, an array that grows, or nothing any more. -/
inductive Root where
  | box (cs : List AV)
  | arr (sz : Nat) (rows : List (List D)) (lim : Nat)
  | dead
  | map (k : MK) (es : List (Value × D))

structure Loc where
  b : Nat
  o : Nat
  sz : Nat
  cap : Nat

/-- The frozen cells. -/
abbrev Mem := Nat → Nat → Option Value
/-- Where each root lies. -/
inductive Slot where
  | no
  | virt
  | at (l : Loc)
abbrev Where := Nat → Slot

inductive RelF (M : Mem) : D → Value → Prop where
  | any (v : Value) : RelF M .any v
  | cell (v : Value) (h : v.oneCell' = true) : RelF M .cell v
  | con (v : Value) : RelF M (.con v) v
  | sl (rows : List (List D)) (a : Option Addr) (len cap b o : Nat) (f : Nat → Nat → Value) (hlen : len = rows.length) (hcap : len ≤ cap)
      (ha : rows ≠ [] → a = some ⟨b, o, none⟩)
      (hM : ∀ (i : Nat) row (j : Nat) c, rows[i]? = some row → row[j]? = some c → M b (o + i * row.length + j) = some (f i j))
      (hR : ∀ (i : Nat) row (j : Nat) c, rows[i]? = some row → row[j]? = some c → RelF M c (f i j)) : RelF M (.sl rows) (.slice a len cap)
  | agg (cs : List D) (vs : Array Value) (hlen : cs.length = vs.size)
      (hR : ∀ (i : Nat) c x, cs[i]? = some c → vs[i]? = some x → RelF M c x) : RelF M (.agg cs) (.agg vs)

inductive RelV (M : Mem) (β : Where) : AV → Value → Prop where
  | d (x : D) (v : Value) (h : RelF M x v) : RelV M β (.d x) v
  | vs (r off len : Nat) (l : Loc) (hb : β r = .at l) (hl : off + len ≤ l.cap) :
      RelV M β (.vs r off len) (.slice (some ⟨l.b, l.o + off * l.sz, none⟩) len (l.cap - off))
  | vsE (r off : Nat) (a : Option Addr) (l : Loc) (hb : β r = .at l) (ho : off = l.cap) : RelV M β (.vs r off 0) (.slice a 0 0)
  | vsV (r : Nat) (a : Option Addr) (hb : β r = .virt) : RelV M β (.vs r 0 0) (.slice a 0 0)
  | ptr (r i off : Nat) (l : Loc) (hb : β r = .at l) : RelV M β (.ptr r i off) (.pointer (some ⟨l.b, l.o + i * l.sz + off, none⟩))
  | fptr (row : List D) (off b o : Nat) (f : Nat → Value) (hM : ∀ (j : Nat) c, row[j]? = some c → M b (o + j) = some (f j))
      (hR : ∀ (j : Nat) c, row[j]? = some c → RelF M c (f j)) : RelV M β (.fptr row off) (.pointer (some ⟨b, o + off, none⟩))
  | agg (cs : List AV) (vs : Array Value) (hlen : cs.length = vs.size)
      (hR : ∀ (i : Nat) c x, cs[i]? = some c → vs[i]? = some x → RelV M β c x) : RelV M β (.agg cs) (.agg vs)
  | tup (cs : List AV) (vs : Array Value) (hlen : cs.length = vs.size)
      (hR : ∀ (i : Nat) c x, cs[i]? = some c → vs[i]? = some x → RelV M β c x) : RelV M β (.tup cs) (.tuple vs)
  | fn (f : FuncId) (caps : List AV) (vs : Array Value) (hlen : caps.length = vs.size)
      (hR : ∀ (i : Nat) c x, caps[i]? = some c → vs[i]? = some x → RelV M β c x) : RelV M β (.fn f caps) (.func (.func f) #[] vs)
  | gd (b : Bool) (x : AV) (v : Value) (h : b = true → RelV M β x v) : RelV M β (.gd b x) v
  | mp (r : Nat) (l : Loc) (hb : β r = .at l) : RelV M β (.mp r) (.map (some l.b))

def Mem.le (M M' : Mem) : Prop := ∀ b o x, M b o = some x → M' b o = some x

/-- What is known of the package-level variables holds; no root lies there. -/
structure GlobOK (β : Where) (w : World) : Prop where
  ok : GlobW w
  low : ∀ g, g ∈ globs → g < w.heap.size
  apart : ∀ r l, β r = .at l → l.b ∉ globs
theorem GlobOK.step {β β' : Where} {w w' : World} (h : GlobOK β w) (hsize : w.heap.size ≤ w'.heap.size)
    (hheap : ∀ b, b < w.heap.size → (∀ r l, β r = .at l → l.b ≠ b) → w'.heap[b]? = w.heap[b]?)
    (hown : ∀ r' l', β' r' = .at l' → (∃ r l, β r = .at l ∧ l.b = l'.b) ∨ w.heap.size ≤ l'.b) : GlobOK β' w' where
  ok := h.ok.of_heap fun g hg => hheap g (h.low g hg) fun r l hl e => h.apart r l hl (e ▸ hg)
  low := fun g hg => Nat.lt_of_lt_of_le (h.low g hg) hsize
  apart := fun r' l' hl' hg => by
    rcases hown r' l' hl' with ⟨r, l, hl, e⟩ | hge
    · exact h.apart r l hl (e ▸ hg)
    · exact absurd (h.low _ hg) (by omega)

theorem RelF.mono {M M' : Mem} (h : M.le M') {a : D} {v : Value} (hr : RelF M a v) : RelF M' a v := by
  induction hr with
  | any v => exact .any v
  | cell v h => exact .cell v h
  | con v => exact .con v
  | sl rows a len cap b o f hlen hcap ha hM hR ih =>
    exact .sl rows a len cap b o f hlen hcap ha (fun i row j c h1 h2 => h _ _ _ (hM i row j c h1 h2)) ih
  | agg cs vs hlen hR ih => exact .agg cs vs hlen ih

theorem RelV.mono {M M' : Mem} {β β' : Where} (h : M.le M') (hβ : ∀ r, β r ≠ .no → β' r = β r) {a : AV} {v : Value} (hr : RelV M β a v) : RelV M' β' a v := by
  induction hr with
  | d x v h' => exact .d x v (h'.mono h)
  | vs r off len l hb hl => exact .vs r off len l (by rw [hβ r (by rw [hb]; simp), hb]) hl
  | vsE r off a l hb ho => exact .vsE r off a l (by rw [hβ r (by rw [hb]; simp), hb]) ho
  | vsV r a hb => exact .vsV r a (by rw [hβ r (by rw [hb]; simp), hb])
  | ptr r i off l hb => exact .ptr r i off l (by rw [hβ r (by rw [hb]; simp), hb])
  | fptr row off b o f hM hR => exact .fptr row off b o f (fun j c h1 => h _ _ _ (hM j c h1)) (fun j c h1 => (hR j c h1).mono h)
  | agg cs vs hlen _ ih => exact .agg cs vs hlen ih
  | tup cs vs hlen _ ih => exact .tup cs vs hlen ih
  | fn f caps vs hlen _ ih => exact .fn f caps vs hlen ih
  | gd b x v _ ih => exact .gd b x v ih
  | mp r l hb => exact .mp r l (by rw [hβ r (by rw [hb]; simp), hb])

/-! ### Renaming of roots -/

mutual
def ren (f : Nat → Option Nat) : AV → AV
  | .d x => .d x
  | .vs r off len => match f r with | some r' => .vs r' off len | none => .d .cell
  | .ptr r i off => match f r with | some r' => .ptr r' i off | none => .d .cell
  | .fptr row off => .fptr row off
  | .agg cs => .agg (renL f cs)
  | .tup cs => .tup (renL f cs)
  | .fn g cs => .fn g (renL f cs)
  | .gd b x => .gd b (ren f x)
  | .mp r => match f r with | some r' => .mp r' | none => .d .cell
def renL (f : Nat → Option Nat) : List AV → List AV
  | [] => []
  | c :: cs => ren f c :: renL f cs
end

theorem renL_eq (f : Nat → Option Nat) : ∀ l, renL f l = l.map (ren f)
  | [] => rfl
  | c :: cs => by simp [renL, renL_eq f cs]

def renR (f : Nat → Option Nat) : Root → Root
  | .box cs => .box (renL f cs)
  | r => r

theorem RelV.ren {M : Mem} {β β' : Where} {f : Nat → Option Nat} (hf : ∀ r r', f r = some r' → β' r' = β r) {a : AV} {v : Value}
    (hr : RelV M β a v) : RelV M β' (ren f a) v := by
  induction hr with
  | d x v h' => exact .d x v h'
  | vs r off len l hb hl =>
    simp only [Al.ren]
    cases hfr : f r with
    | none => exact .d _ _ (.cell _ rfl)
    | some r' => exact .vs r' off len l (by rw [hf r r' hfr, hb]) hl
  | vsE r off a l hb ho =>
    simp only [Al.ren]
    cases hfr : f r with
    | none => exact .d _ _ (.cell _ rfl)
    | some r' => exact .vsE r' off a l (by rw [hf r r' hfr, hb]) ho
  | vsV r a hb =>
    simp only [Al.ren]
    cases hfr : f r with
    | none => exact .d _ _ (.cell _ rfl)
    | some r' => exact .vsV r' a (by rw [hf r r' hfr, hb])
  | ptr r i off l hb =>
    simp only [Al.ren]
    cases hfr : f r with
    | none => exact .d _ _ (.cell _ rfl)
    | some r' => exact .ptr r' i off l (by rw [hf r r' hfr, hb])
  | fptr row off b o f' hM hR => exact .fptr row off b o f' hM hR
  | agg cs vs hlen hR ih =>
    simp only [Al.ren, renL_eq]
    refine .agg _ vs (by simpa using hlen) ?_
    intro i c x h1 h2
    simp only [List.getElem?_map, Option.map_eq_some_iff] at h1
    obtain ⟨c0, h1, rfl⟩ := h1
    exact ih i c0 x h1 h2
  | tup cs vs hlen hR ih =>
    simp only [Al.ren, renL_eq]
    refine .tup _ vs (by simpa using hlen) ?_
    intro i c x h1 h2
    simp only [List.getElem?_map, Option.map_eq_some_iff] at h1
    obtain ⟨c0, h1, rfl⟩ := h1
    exact ih i c0 x h1 h2
  | fn g cs vs hlen hR ih =>
    simp only [Al.ren, renL_eq]
    refine .fn g _ vs (by simpa using hlen) ?_
    intro i c x h1 h2
    simp only [List.getElem?_map, Option.map_eq_some_iff] at h1
    obtain ⟨c0, h1, rfl⟩ := h1
    exact ih i c0 x h1 h2
  | gd b x v h ih => simp only [Al.ren]; exact .gd b _ v ih
  | mp r l hb =>
    simp only [Al.ren]
    cases hfr : f r with
    | none => exact .d _ _ (.cell _ rfl)
    | some r' => exact .mp r' l (by rw [hf r r' hfr, hb])

/-! ### What a world holds -/

/-- A root, and the cells that bear it. -/
inductive RelR (M : Mem) (β : Where) (w : World) : Slot → Root → Prop where
  | dead (l : Slot) : RelR M β w l .dead
  | virt (sz lim : Nat) : RelR M β w .virt (.arr sz [] lim)
  | box (b : Nat) (cs : List AV) (vals : Array Value) (T : TypeId) (hw : w.heap[b]? = some (.cells vals T (0, 0))) (hlen : cs.length = vals.size)
      (hM : ∀ o, M b o = none) (hR : ∀ (i : Nat) c x, cs[i]? = some c → vals[i]? = some x → RelV M β c x) : RelR M β w (.at ⟨b, 0, cs.length, 1⟩) (.box cs)
  | arr (b o sz cap lim : Nat) (rows : List (List D)) (vals : Array Value) (T : TypeId) (hw : w.heap[b]? = some (.cells vals T (0, 0)))
      (hcap : rows.length ≤ cap) (hsize : o + cap * sz ≤ vals.size) (hrow : ∀ (i : Nat) row, rows[i]? = some row → row.length = sz)
      (hM : ∀ k, o + lim * sz ≤ k → M b k = none)
      (hR : ∀ (i : Nat) row (j : Nat) c x, rows[i]? = some row → row[j]? = some c → vals[o + i * sz + j]? = some x → RelF M c x) :
      RelR M β w (.at ⟨b, o, sz, cap⟩) (.arr sz rows lim)
  | map (b : Nat) (mk : MK) (es : List (Value × D)) (arr : Array MapEntry) (clock : Nat) (hw : w.heap[b]? = some (.map arr clock)) (hlen : es.length = arr.size)
      (hM : ∀ o, M b o = none) (hR : ∀ (i : Nat) e x, es[i]? = some e → arr[i]? = some x → x.key = e.1 ∧ kokB mk e.1 = true ∧ RelF M e.2 x.val) : RelR M β w (.at ⟨b, 0, 1, 1⟩) (.map mk es)

structure Holds (M : Mem) (β : Where) (roots : List Root) (w : World) : Prop where
  frozen : ∀ b o x, M b o = some x → w.cell? ⟨b, o, none⟩ = some x
  root : ∀ (r : Nat) root, roots[r]? = some root → RelR M β w (β r) root
  inj : ∀ r r' l l', β r = .at l → β r' = .at l' → l.b = l'.b → r = r'
  low : ∀ r l, β r = .at l → l.b < w.heap.size
  scope : ∀ r, β r ≠ .no → r < roots.length
  glob : GlobOK β w

/-- From one world to a later one: what is not of the roots stays; the pinned roots stay where they are. -/
structure Later (p : Nat → Prop) (M : Mem) (β : Where) (w : World) (M' : Mem) (β' : Where) (w' : World) : Prop where
  mem : M.le M'
  size : w.heap.size ≤ w'.heap.size
  same : ∀ b, b < w.heap.size → (∀ r l, β r = .at l → l.b ≠ b) → w'.heap[b]? = w.heap[b]? ∧ ∀ o, M' b o = M b o
  own : ∀ r' l', β' r' = .at l' → (∃ r l, β r = .at l ∧ l.b = l'.b) ∨ w.heap.size ≤ l'.b
  pin : ∀ r, p r → β r ≠ .no → β' r = β r
  stream : w'.os = w.os ∧ w'.tape = w.tape ∧ w'.output = w.output

theorem Later.refl (p : Nat → Prop) (M : Mem) (β : Where) (w : World) : Later p M β w M β w :=
  ⟨fun _ _ _ h => h, Nat.le_refl _, fun _ _ _ => ⟨rfl, fun _ => rfl⟩, fun r l h => .inl ⟨r, l, h, rfl⟩, fun _ _ _ => rfl, rfl, rfl, rfl⟩

theorem Later.trans {p : Nat → Prop} {M M1 M2 : Mem} {β β1 β2 : Where} {w w1 w2 : World} (h1 : Later p M β w M1 β1 w1) (h2 : Later p M1 β1 w1 M2 β2 w2) :
    Later p M β w M2 β2 w2 where
  mem := fun b o x h => h2.mem b o x (h1.mem b o x h)
  size := Nat.le_trans h1.size h2.size
  same := fun b hb hr => by
    have hr1 : ∀ r l, β1 r = .at l → l.b ≠ b := fun r l h e => by
      rcases h1.own r l h with ⟨r0, l0, h0, e0⟩ | h0
      · exact hr r0 l0 h0 (e0.trans e)
      · omega
    obtain ⟨a1, a2⟩ := h1.same b hb hr
    obtain ⟨b1, b2⟩ := h2.same b (Nat.lt_of_lt_of_le hb h1.size) hr1
    exact ⟨b1.trans a1, fun o => (b2 o).trans (a2 o)⟩
  own := fun r' l' h => by
    rcases h2.own r' l' h with ⟨r1, l1, h1', e1⟩ | h0
    · rcases h1.own r1 l1 h1' with ⟨r0, l0, h0', e0⟩ | h0
      · exact .inl ⟨r0, l0, h0', e0.trans e1⟩
      · exact .inr (by omega)
    · exact .inr (Nat.le_trans h1.size h0)
  pin := fun r h hn => (h2.pin r h (by rw [h1.pin r h hn]; exact hn)).trans (h1.pin r h hn)
  stream := ⟨h2.stream.1.trans h1.stream.1, h2.stream.2.1.trans h1.stream.2.1, h2.stream.2.2.trans h1.stream.2.2⟩

end Go.Al

namespace Go.Al

structure St where
  env : List (Nat × AV)
  roots : List Root

def look : List (Nat × AV) → Nat → AV
  | [], _ => .d .any
  | (k, v) :: e, t => if k = t then v else look e t

structure Rel (n : Nat) (M : Mem) (β : Where) (st : St) (a : Act) (w : World) : Prop where
  size : a.tmps.size = n
  defers : a.defers = []
  env : ∀ t, RelV M β (look st.env t) (a.tmps.getD t undef)
  holds : Holds M β st.roots w

/-- Behind the code, from every world that this state tells of: Q. -/
def SWp (P : Program) (n : Nat) (p : Nat → Prop) (c : Code) (Q : Exit → St → Prop) (st : St) : Prop :=
  ∀ M β a w, Rel n M β st a w → ∀ Q' : Exit → Act → World → Prop,
    (∀ e st' M' β' a' w', Q e st' → Rel n M' β' st' a' w' → Later p M β w M' β' w' → Q' e a' w') → c.wp P Q' a w

variable {P : Program} {n : Nat} {p : Nat → Prop} {Q : Exit → St → Prop} {st : St}

theorem SWp.mono {c : Code} {Q1 : Exit → St → Prop} (h : SWp P n p c Q1 st) (hq : ∀ e st', Q1 e st' → Q e st') : SWp P n p c Q st :=
  fun M β a w hr Q' hQ => h M β a w hr Q' fun e st' M' β' a' w' q => hQ e st' M' β' a' w' (hq e st' q)

/-- A weaker state tells of the same world. -/
def Weak (p : Nat → Prop) (st st' : St) : Prop := ∀ n M β a w, Rel n M β st a w → ∃ M' β', Rel n M' β' st' a w ∧ Later p M β w M' β' w

theorem SWp.weak {c : Code} {st' : St} (hw : Weak p st st') (h : SWp P n p c Q st') : SWp P n p c Q st := by
  intro M β a w hr Q' hQ
  obtain ⟨M1, β1, hr1, hl1⟩ := hw n M β a w hr
  exact h M1 β1 a w hr1 Q' fun e st' M' β' a' w' q hr' hl => hQ e st' M' β' a' w' q hr' (hl1.trans hl)

/-- What is weaker behind the code. -/
theorem SWp.weak_post {c : Code} {Q1 : Exit → St → Prop} (h : SWp P n p c Q1 st) (hq : ∀ e st', Q1 e st' → ∃ st'', Weak p st' st'' ∧ Q e st'') : SWp P n p c Q st := by
  intro M β a w hr Q' hQ
  refine h M β a w hr Q' fun e st' M' β' a' w' q hr' hl => ?_
  obtain ⟨st'', hw, hq⟩ := hq e st' q
  obtain ⟨M1, β1, hr1, hl1⟩ := hw n M' β' a' w' hr'
  exact hQ e st'' M1 β1 a' w' hq hr1 (hl.trans hl1)

theorem Weak.refl (p : Nat → Prop) (st : St) : Weak p st st := fun _ M β _ w h => ⟨M, β, h, Later.refl p M β w⟩
theorem Weak.trans {st1 st2 : St} (h1 : Weak p st st1) (h2 : Weak p st1 st2) : Weak p st st2 := fun n M β a w h => by
  obtain ⟨M1, β1, hr1, hl1⟩ := h1 n M β a w h
  obtain ⟨M2, β2, hr2, hl2⟩ := h2 n M1 β1 a w hr1
  exact ⟨M2, β2, hr2, hl1.trans hl2⟩

def thenS (next : St → Prop) (Q : Exit → St → Prop) : Exit → St → Prop
  | .normal, st => next st
  | e, st => Q e st

theorem SWp.skip (h : Q .normal st) : SWp P n p .skip Q st := fun M β _ w hr _ hQ => wp_skip (hQ _ _ _ _ _ _ h hr (Later.refl p M β w))
theorem SWp.exit {id : Nat} (h : Q (.exit id) st) : SWp P n p (.exit id) Q st := fun M β _ w hr _ hQ => wp_exit (hQ _ _ _ _ _ _ h hr (Later.refl p M β w))
theorem SWp.ret (h : Q .ret st) : SWp P n p .ret Q st := fun M β _ w hr _ hQ => wp_ret (hQ _ _ _ _ _ _ h hr (Later.refl p M β w))

theorem SWp.seq {x y : Code} (h : SWp P n p x (thenS (SWp P n p y Q) Q) st) : SWp P n p (.seq x y) Q st := by
  intro M β a w hr Q' hQ
  refine wp_seq (h M β a w hr _ ?_)
  intro e st' M' β' a' w' hq hr' hl
  cases e
  case normal => exact hq M' β' a' w' hr' Q' fun e st2 M2 β2 a2 w2 q r l => hQ e st2 M2 β2 a2 w2 q r (hl.trans l)
  all_goals exact hQ _ st' M' β' a' w' hq hr' hl

theorem SWp.block {id : Nat} {c : Code} (h : SWp P n p c (fun e st' => match e with | .exit id' => if id' = id then Q .normal st' else Q (.exit id') st' | e => Q e st') st) :
    SWp P n p (.block id c) Q st := by
  intro M β a w hr Q' hQ
  refine wp_block (h M β a w hr _ ?_)
  intro e st' M' β' a' w' hq hr' hl
  cases e
  case exit id' =>
    simp only at hq
    simp only [Exit.inBlock]
    split <;> rename_i he
    · rw [if_pos he] at hq; exact hQ _ _ _ _ _ _ hq hr' hl
    · rw [if_neg he] at hq; exact hQ _ _ _ _ _ _ hq hr' hl
  all_goals exact hQ _ st' M' β' a' w' hq hr' hl

/-- What an operand says. -/
def ev (st : St) : Operand → AV
  | .tmp t => look st.env t
  | .const v => .d (.con v)
  | .func f => .fn f []
  | .global g => .d (.con (.pointer (some ⟨g, 0, none⟩)))

theorem ev_rel {M : Mem} {β : Where} {a : Act} {w : World} (h : Rel n M β st a w) (x : Operand) : RelV M β (ev st x) (a.eval x) := by
  cases x with
  | tmp t => exact h.env t
  | const v => exact .d _ _ (.con v)
  | func f => exact .fn f [] #[] rfl (by simp)
  | global g => exact .d _ _ (.con _)

theorem RelV.con_eq {M : Mem} {β : Where} {u v : Value} (h : RelV M β (.d (.con u)) v) : v = u := by
  cases h with | d _ _ h => cases h; rfl

theorem SWp.cond {c : Operand} {x y : Code} (t : Bool) (hc : ev st c = .d (.con (.bool t))) (ht : t = true → SWp P n p x Q st)
    (hf : t = false → SWp P n p y Q st) : SWp P n p (.cond c x y) Q st := by
  intro M β a w hr Q' hQ
  have hv := ev_rel hr c
  rw [hc] at hv
  exact wp_cond_split hv.con_eq (fun h => ht h M β a w hr Q' hQ) (fun h => hf h M β a w hr Q' hQ)

theorem exists_least {q : Nat → Prop} (h : ∃ n, q n) : ∃ n, q n ∧ ∀ m, q m → n ≤ m := by
  obtain ⟨n, hn⟩ := h
  induction n using Nat.strongRecOn with
  | _ n ih =>
    by_cases hm : ∃ m, m < n ∧ q m
    · obtain ⟨m, hlt, hq⟩ := hm
      exact ih m hlt hq
    · exact ⟨n, hn, fun m hq => Nat.le_of_not_lt fun hlt => hm ⟨m, hlt, hq⟩⟩

open Classical in
theorem SWp.loop {c : Code} (I : Nat → St → Prop) (h0 : ∃ m st0, Weak p st st0 ∧ I m st0)
    (round : ∀ m st, I m st → SWp P n p c (thenS (fun st' => ∃ m' st'', m' < m ∧ Weak p st' st'' ∧ I m' st'') Q) st) : SWp P n p (.loop c) Q st := by
  intro M β a w hr Q' hQ
  let J : Nat → Act → World → Prop := fun m a' w' => ∃ st' M' β', I m st' ∧ Rel n M' β' st' a' w' ∧ Later p M β w M' β' w'
  let μ : Act → World → Nat := fun a' w' => if h : ∃ m, J m a' w' then (exists_least h).choose else 0
  refine wp_loop (fun a' w' => ∃ m, J m a' w') μ ?_ ?_
  · obtain ⟨m, st0, hw, hi⟩ := h0
    obtain ⟨M1, β1, hr1, hl1⟩ := hw n M β a w hr
    exact ⟨m, st0, M1, β1, hi, hr1, hl1⟩
  · intro a1 w1 hI
    have hμ : μ a1 w1 = (exists_least hI).choose := by simp only [μ]; rw [dif_pos hI]
    obtain ⟨st1, M1, β1, hi1, hr1, hl1⟩ := (exists_least hI).choose_spec.1
    refine round _ st1 hi1 M1 β1 a1 w1 hr1 _ ?_
    intro e st' M' β' a' w' hq hr' hl
    cases e
    case normal =>
      obtain ⟨m', st'', hlt, hwk, hi'⟩ := hq
      obtain ⟨M2, β2, hr2, hl2⟩ := hwk n M' β' a' w' hr'
      have hJ : J m' a' w' := ⟨st'', M2, β2, hi', hr2, hl1.trans (hl.trans hl2)⟩
      refine ⟨⟨m', hJ⟩, ?_⟩
      have hex : ∃ m, J m a' w' := ⟨m', hJ⟩
      have h2 : μ a' w' = (exists_least hex).choose := by simp only [μ]; rw [dif_pos hex]
      rw [h2, hμ]
      exact Nat.lt_of_le_of_lt ((exists_least hex).choose_spec.2 m' hJ) hlt
    all_goals exact hQ _ st' M' β' a' w' hq hr' (hl1.trans hl)

/-! ### Operations in a row -/

/-- The operations that are left, in the order of the text. -/
def SOps (P : Program) (n : Nat) (p : Nat → Prop) (ops : Array Oper) (l : List Oper) (K : St → Prop) (st : St) : Prop :=
  ∀ M β a w, Rel n M β st a w → ∀ Q' : Exit → Act → World → Prop,
    (∀ st' M' β' a' w', K st' → Rel n M' β' st' a' w' → Later p M β w M' β' w' → Q' .normal a' w') → wpList P ops Q' l a w

theorem SWp.region {id : Nat} {ops : Array Oper} {l : List Oper} (hl : ops.toList = l) (h : SOps P n p ops l (Q .normal) st) : SWp P n p (.region id ops false) Q st := by
  intro M β a w hr Q' hQ
  refine wp_region_list (hl ▸ h M β a w hr Q' fun st' M' β' a' w' q r l => hQ _ st' M' β' a' w' q r l)

def put (st : St) (dst : Option Nat) (v : AV) : St :=
  match dst with
  | some t => { st with env := (t, v) :: st.env }
  | none => st

theorem Rel.put {M : Mem} {β : Where} {a : Act} {w : World} (h : Rel n M β st a w) (dst : Option Nat) (hd : ∀ t, dst = some t → t < n) {x : AV} {v : Value}
    (hx : RelV M β x v) : Rel n M β (put st dst x) (a.put dst v) w := by
  cases dst with
  | none => exact h
  | some t =>
    have ht := hd t rfl
    refine ⟨by simpa [Act.put] using h.size, h.defers, ?_, h.holds⟩
    intro u
    simp only [Al.put, Al.look, Act.put]
    split
    · rename_i e
      subst e
      have : t < a.tmps.size := h.size ▸ ht
      simp [Array.getD, this]
      exact hx
    · rename_i e
      have := h.env u
      have e2 : (a.tmps.setIfInBounds t v).getD u undef = a.tmps.getD u undef := by
        simp only [Array.getD_eq_getD_getElem?]
        rw [Array.getElem?_setIfInBounds_ne e]
      rw [e2]; exact this

theorem SOps.nil {ops : Array Oper} {K : St → Prop} (h : K st) : SOps P n p ops [] K st :=
  fun M β a w hr _ hQ => hQ st M β a w h hr (Later.refl p M β w)

/-- What an operation yields. -/
def Yielded : Next → Value → Prop
  | .value v, u => u = v
  | .skip, u => u = undef
  | _, _ => False

/-- An operation that makes or writes memory, or only looks at it. -/
def OpE (P : Program) (n : Nat) (p : Nat → Prop) (o : Oper) (st : St) (K : AV → St → Prop) : Prop :=
  ∀ M β a w, Rel n M β st a w → ∃ nx v w' x st' M' β', (execOp a.eval o).run P w = .ok nx w' ∧ Yielded nx v ∧ K x st' ∧ RelV M' β' x v ∧ Rel n M' β' st' a w' ∧ Later p M β w M' β' w'

theorem SOps.op {ops : Array Oper} {o : Oper} {rest : List Oper} {K : St → Prop} (hg : o.guard = none) (hd : ∀ t, o.dst = some t → t < n)
    (h : OpE P n p o st fun x st' => SOps P n p ops rest K (put st' o.dst x)) : SOps P n p ops (o :: rest) K st := by
  intro M β a w hr Q' hQ
  obtain ⟨nx, v, w', x, st', M', β', hrun, hy, hk, hx, hr', hl⟩ := h M β a w hr
  refine wpList_plain hg fun K' hK => ?_
  have hfin : K' (a.put o.dst v) w' := hK _ _ (hk M' β' _ w' (hr'.put o.dst hd hx) Q' fun st2 M2 β2 a2 w2 q r l => hQ st2 M2 β2 a2 w2 q r (hl.trans l))
  unfold Oper.wp
  rw [hrun]
  cases nx <;> simp only [Yielded] at hy <;> subst hy <;> exact hfin

end Go.Al

namespace Go.Al
variable {P : Program} {n : Nat} {p : Nat → Prop} {st : St}

def szOf (P : Program) (T : TypeId) : Option Nat := (P.info? T).map (·.size)
def aggOf (P : Program) (T : TypeId) : Bool := match P.underlying T with
  | some (.struct _) => true
  | some (.array _ _) => true
  | _ => false
/-- The offset of a field that has cells. -/
def fldOf (P : Program) (T f : Nat) : Option Nat := match P.underlying T with
  | some (.struct fs) => (fs[f]?).bind fun x => match szOf P x.type with
    | some (_ + 1) => some x.offset
    | _ => none
  | _ => none
def elemOf (P : Program) (T : Nat) : Option Nat := match P.underlying T with
  | some (.slice e) => some e
  | _ => none

theorem run_sizeOf {T s : Nat} (h : szOf P T = some s) (w : World) : (sizeOf T).run P w = .ok s w := by
  unfold szOf at h
  simp only [Option.map_eq_some_iff] at h
  obtain ⟨i, hi, rfl⟩ := h
  simp [sizeOf, typeInfo, hi]

theorem run_isAgg {T : Nat} (h : (P.underlying T).isSome = true) (w : World) : (isAgg T).run P w = .ok (aggOf P T) w := by
  obtain ⟨d, hd⟩ := Option.isSome_iff_exists.1 h
  simp only [isAgg, Sem.run_bind, run_underlying hd, Result.andThen_ok, aggOf, hd]
  cases d <;> rfl

/-- From one world to a later one in which nothing old has turned. -/
structure Ext (w w' : World) : Prop where
  size : w.heap.size ≤ w'.heap.size
  heap : ∀ b, b < w.heap.size → w'.heap[b]? = w.heap[b]?
  stream : w'.os = w.os ∧ w'.tape = w.tape ∧ w'.output = w.output
theorem Ext.refl (w : World) : Ext w w := ⟨Nat.le_refl _, fun _ _ => rfl, rfl, rfl, rfl⟩
theorem Ext.cell {w w' : World} (h : Ext w w') {a : Addr} {x : Value} (hc : w.cell? a = some x) : w'.cell? a = some x := by
  have hb : a.block < w.heap.size := World.block_lt_of_cell? w a hc
  unfold World.cell? at *
  rw [h.heap _ hb]; exact hc

def Yields (P : Program) (o : Oper) (a : Act) (w : World) (v : Value) : Prop := ∃ nx, Yielded nx v ∧ ∀ w', Ext w w' → (execOp a.eval o).run P w' = .ok nx w'

/-- An operation that only looks. -/
def OpP (P : Program) (n : Nat) (o : Oper) (st : St) (K : AV → Prop) : Prop :=
  ∀ M β a w, Rel n M β st a w → ∃ v x, K x ∧ RelV M β x v ∧ Yields P o a w v

theorem OpE.of_pure {o : Oper} {K : AV → St → Prop} (h : OpP P n o st fun x => K x st) : OpE P n p o st K := by
  intro M β a w hr
  obtain ⟨v, x, hk, hx, nx, hy, hrun⟩ := h M β a w hr
  exact ⟨nx, v, w, x, st, M, β, hrun w (Ext.refl w), hy, hk, hx, hr, Later.refl p M β w⟩

theorem Yields.of {o : Oper} {a : Act} {w : World} {v : Value} (h : ∀ w', Ext w w' → (execOp a.eval o).run P w' = .ok (.value v) w') : Yields P o a w v := ⟨.value v, rfl, h⟩

variable {K : AV → Prop} {dst : Option Tmp} {ty : TypeId} {pos : String} {after : Array Edge} {gu : Option (Nat × Bool)}

theorem OpP.move {x : Operand} (h : K (ev st x)) : OpP P n ⟨dst, .move x, ty, pos, after, gu⟩ st K :=
  fun _ _ a _ hr => ⟨a.eval x, _, h, ev_rel hr x, .of fun _ _ => rfl⟩
theorem OpP.assign {x : Operand} (h : K (ev st x)) : OpP P n ⟨dst, .assign x, ty, pos, after, gu⟩ st K :=
  fun _ _ a _ hr => ⟨a.eval x, _, h, ev_rel hr x, .of fun _ _ => rfl⟩

theorem OpP.pick {c x y : Operand} (t : Bool) (hc : ev st c = .d (.con (.bool t))) (ht : t = true → K (ev st x)) (hf : t = false → K (ev st y)) :
    OpP P n ⟨dst, .pick c x y, ty, pos, after, gu⟩ st K := by
  intro M β a w hr
  have hv := ev_rel hr c
  rw [hc] at hv
  have hv := hv.con_eq
  cases t
  · exact ⟨a.eval y, _, hf rfl, ev_rel hr y, .of fun w' _ => by simp [execOp, hv, asBool]⟩
  · exact ⟨a.eval x, _, ht rfl, ev_rel hr x, .of fun w' _ => by simp [execOp, hv, asBool]⟩

/-! ### Numbers, texts -/

def bytesEq (x y : ByteArray) : Bool := x.toList == y.toList

/-- What an operator gives at values; nothing: it would panic, or is not of these. -/
def binV : BinOp → Value → Value → Option Value
  | .add, .int k a, .int k' b => if k = k' then some (.int k (k.wrap (a + b))) else none
  | .sub, .int k a, .int k' b => if k = k' then some (.int k (k.wrap (a - b))) else none
  | .mul, .int k a, .int k' b => if k = k' then some (.int k (k.wrap (a * b))) else none
  | .quo, .int k a, .int k' b => if k = k' ∧ b ≠ 0 then some (.int k (k.wrap (a.tdiv b))) else none
  | .rem, .int k a, .int k' b => if k = k' ∧ b ≠ 0 then some (.int k (a.tmod b)) else none
  | .eql, .int k a, .int k' b => if k = k' then some (.bool (a == b)) else none
  | .neq, .int k a, .int k' b => if k = k' then some (.bool (a != b)) else none
  | .lss, .int k a, .int k' b => if k = k' then some (.bool (a < b)) else none
  | .leq, .int k a, .int k' b => if k = k' then some (.bool (a ≤ b)) else none
  | .gtr, .int k a, .int k' b => if k = k' then some (.bool (a > b)) else none
  | .geq, .int k a, .int k' b => if k = k' then some (.bool (a ≥ b)) else none
  | .add, .string a, .string b => if a.size + b.size ≤ 9223372036854775807 then some (.string (a ++ b)) else none
  | .eql, .string a, .string b => some (.bool (bytesEq a b))
  | .neq, .string a, .string b => some (.bool !(bytesEq a b))
  | _, _, _ => none

theorem run_binV {op : BinOp} {T : TypeId} {u v r : Value} (h : binV op u v = some r) (x y : Operand) (w : World) :
    (do eqGuard op T x y u v; binOp op T u v : Sem Value).run P w = .ok r w := by
  unfold binV at h
  split at h
  all_goals try (simp at h; done)
  all_goals try (split at h)
  all_goals try (simp at h; done)
  all_goals simp only [Option.some.injEq] at h
  all_goals subst_vars
  all_goals try (simp [go_sem]; done)
  all_goals try (simp [go_sem, binOp, Op.stringOp, bytesEq]; done)
  · rename_i hk; obtain ⟨rfl, hb⟩ := hk; simp [go_sem, hb]
  · rename_i hk; obtain ⟨rfl, hb⟩ := hk; simp [go_sem, hb]
  · rename_i hk; simp [go_sem, binOp, Op.stringOp]; omega

theorem OpP.bin {op : BinOp} {T T' : TypeId} {x y : Operand} (u v r : Value) (hx : ev st x = .d (.con u)) (hy : ev st y = .d (.con v)) (hr : binV op u v = some r)
    (h : K (.d (.con r))) : OpP P n ⟨dst, .binOp op T x y T', ty, pos, after, gu⟩ st K := by
  intro M β a w hrel
  have h1 := ev_rel hrel x
  have h2 := ev_rel hrel y
  rw [hx] at h1
  rw [hy] at h2
  refine ⟨r, _, h, .d _ _ (.con r), .of fun w' _ => ?_⟩
  have := run_binV (P := P) (T := T) hr x y w'
  simp only [execOp, h1.con_eq, h2.con_eq, Sem.run_bind] at *
  rw [this]; rfl

def unV : UnOp → Value → Option Value
  | .not, .bool b => some (.bool !b)
  | .neg, .int k a => some (.int k (k.wrap (0 - a)))
  | _, _ => none

theorem OpP.un {op : UnOp} {T : TypeId} {x : Operand} (u r : Value) (hx : ev st x = .d (.con u)) (hr : unV op u = some r)
    (h : K (.d (.con r))) : OpP P n ⟨dst, .unOp op T x, ty, pos, after, gu⟩ st K := by
  intro M β a w hrel
  have h1 := ev_rel hrel x
  rw [hx] at h1
  refine ⟨r, _, h, .d _ _ (.con r), .of fun w' _ => ?_⟩
  unfold unV at hr
  split at hr <;> simp at hr <;> subst hr <;> simp [execOp, h1.con_eq, Op.unary, Op.intArith]

theorem OpP.conv_int {src T : TypeId} {x : Operand} (k k' : IntKind) (m : Int) (hs : (P.underlying src).isSome = true) (hd : P.underlying T = some (.int k')) (hx : ev st x = .d (.con (.int k m)))
    (h : K (.d (.con (.int k' (k'.wrap m))))) : OpP P n ⟨dst, .convert src T x, ty, pos, after, gu⟩ st K := by
  intro M β a w hrel
  have h1 := ev_rel hrel x
  rw [hx] at h1
  refine ⟨_, _, h, .d _ _ (.con _), .of fun w' _ => ?_⟩
  obtain ⟨d, hd'⟩ := Option.isSome_iff_exists.mp hs
  simp [execOp, h1.con_eq, convert, run_underlying hd', run_underlying hd, Conv.intToInt]

theorem OpP.nilCheck {x : Operand} (v : AV) (hx : ev st x = v) (hv : (∃ r i off, v = .ptr r i off) ∨ (∃ row off, v = .fptr row off) ∨ (∃ f cs, v = .fn f cs)) (h : K v) :
    OpP P n ⟨dst, .nilCheck x, ty, pos, after, gu⟩ st K := by
  intro M β a w hrel
  have h1 := ev_rel hrel x
  rw [hx] at h1
  refine ⟨a.eval x, v, h, h1, .of fun w' _ => ?_⟩
  simp only [execOp]
  generalize a.eval x = u at *
  rcases hv with ⟨r, i, off, rfl⟩ | ⟨row, off, rfl⟩ | ⟨f, cs, rfl⟩
  · cases h1; rfl
  · cases h1; rfl
  · cases h1; rfl

end Go.Al

namespace Go.Al
variable {P : Program} {n : Nat} {p : Nat → Prop} {st : St} {K : AV → Prop} {dst : Option Tmp} {ty : TypeId} {pos : String} {after : Array Edge} {gu : Option (Nat × Bool)}

theorem run_loadCellsFrom {w : World} (b o : Nat) (f : Nat → Value) : ∀ (s i : Nat) (acc : Array Value), (∀ j, j < s → w.cell? ⟨b, o + (i + j), none⟩ = some (f (i + j))) →
    (loadCellsFrom ⟨b, o, none⟩ i s acc).run P w = .ok (acc ++ ((List.range' i s).map f).toArray) w
  | 0, i, acc, _ => by simp [loadCellsFrom]
  | s + 1, i, acc, h => by
    have h0 := h 0 (by omega)
    simp only [Nat.add_zero] at h0
    simp only [loadCellsFrom, Sem.run_bind, run_load, Addr.add_lit, h0, Result.andThen_ok]
    rw [run_loadCellsFrom b o f s (i + 1) _ (fun j hj => by have := h (j + 1) (by omega); rw [show i + (j + 1) = i + 1 + j from by omega] at this; exact this)]
    simp [List.range'_succ]

theorem run_loadCells {w : World} (b o : Nat) (f : Nat → Value) (s : Nat) (h : ∀ j, j < s → w.cell? ⟨b, o + j, none⟩ = some (f j)) :
    (loadCells ⟨b, o, none⟩ s).run P w = .ok ((List.range s).map f).toArray w := by
  have := run_loadCellsFrom (P := P) b o f s 0 #[] (by simpa using h)
  simpa [loadCells, List.range_eq_range'] using this

/-- What is read from cells. -/
def partA (agg : Bool) (s : Nat) (cs : List AV) (off : Nat) : Option AV :=
  bif agg then (if off + s ≤ cs.length then some (.agg ((cs.drop off).take s)) else none) else cs[off]?

theorem part_rel {M : Mem} {β : Where} {agg : Bool} {s : Nat} {cs : List AV} {off : Nat} {x : AV} (h : partA agg s cs off = some x) (b o : Nat) (f : Nat → Value)
    {T : TypeId} (hT : (P.underlying T).isSome = true) (hs : szOf P T = some s) (ha : aggOf P T = agg)
    (hR : ∀ (j : Nat) c, cs[j]? = some c → RelV M β c (f j)) :
    ∃ v, RelV M β x v ∧ ∀ w, (∀ (j : Nat) c, cs[j]? = some c → w.cell? ⟨b, o + j, none⟩ = some (f j)) → (loadVar T ⟨b, o + off, none⟩).run P w = .ok v w := by
  unfold partA at h
  cases agg with
  | true =>
    simp only [cond_true] at h
    split at h <;> simp at h
    rename_i hle
    subst h
    refine ⟨.agg ((List.range s).map fun j => f (off + j)).toArray, .agg _ _ (by simp; omega) ?_, ?_⟩
    · intro i c x h1 h2
      have hi : i < s := by
        have := (List.getElem?_eq_some_iff.1 h1).1
        simp at this; omega
      simp [hi] at h1
      simp [hi] at h2
      subst h2
      exact hR (off + i) c h1
    · intro w hw
      have hc : ∀ j, j < s → w.cell? ⟨b, (o + off) + j, none⟩ = some (f (off + j)) := by
        intro j hj
        have : off + j < cs.length := by omega
        rw [Nat.add_assoc]
        exact hw (off + j) _ (List.getElem?_eq_getElem this)
      simp only [loadVar, Sem.run_bind, run_isAgg hT, ha, Result.andThen_ok, if_true, run_sizeOf hs, run_loadCells b (o + off) _ s hc]
      rfl
  | false =>
    simp only [cond_false] at h
    refine ⟨f off, hR off x h, ?_⟩
    intro w hw
    simp only [loadVar, Sem.run_bind, run_isAgg hT, ha, Result.andThen_ok, Bool.false_eq_true, if_false, run_load, hw off x h]

/-- A load. -/
theorem OpP.load {T : TypeId} {x : Operand} {s : Nat} {agg : Bool} (hT : (P.underlying T).isSome = true) (hs : szOf P T = some s) (ha : aggOf P T = agg) (y : AV)
    (hv : (∃ row off, ev st x = .fptr row off ∧ partA agg s (row.map .d) off = some y) ∨
      (∃ r off cs, ev st x = .ptr r 0 off ∧ st.roots[r]? = some (.box cs) ∧ partA agg s cs off = some y) ∨
      (∃ r i off sz rows lim row, ev st x = .ptr r i off ∧ st.roots[r]? = some (.arr sz rows lim) ∧ rows[i]? = some row ∧ partA agg s (row.map .d) off = some y))
    (h : K y) : OpP P n ⟨dst, .load T x, ty, pos, after, gu⟩ st K := by
  intro M β a w hrel
  have h1 := ev_rel hrel x
  have fin : ∀ (b o off : Nat) (v : Value), a.eval x = .pointer (some ⟨b, o + off, none⟩) → RelV M β y v → (∀ w', Ext w w' → (loadVar T ⟨b, o + off, none⟩).run P w' = .ok v w') →
      ∃ v x_1, K x_1 ∧ RelV M β x_1 v ∧ Yields P ⟨dst, .load T x, ty, pos, after, gu⟩ a w v := by
    intro b o off v hx hv hrun
    refine ⟨v, y, h, hv, .of fun w' hw' => ?_⟩
    simp [execOp, Instr.loadAt, Instr.sureAddr, hx, hrun w' hw']
  rcases hv with ⟨row, off, hx, hp⟩ | ⟨r, off, cs, hx, hroot, hp⟩ | ⟨r, i, off, sz, rows, lim, row, hx, hroot, hrow, hp⟩
  · rw [hx] at h1
    generalize hu : a.eval x = u at h1
    cases h1 with
    | fptr _ _ b o f hM hR =>
      obtain ⟨v, hv, hl⟩ := part_rel (P := P) (M := M) (β := β) hp b o f hT hs ha (by
        intro j c hj
        simp only [List.getElem?_map, Option.map_eq_some_iff] at hj
        obtain ⟨d, hd, rfl⟩ := hj
        exact .d _ _ (hR j d hd))
      refine fin b o off v hu hv fun w' hw' => hl w' ?_
      intro j c hj
      simp only [List.getElem?_map, Option.map_eq_some_iff] at hj
      obtain ⟨d, hd, rfl⟩ := hj
      exact hw'.cell (hrel.holds.frozen _ _ _ (hM j d hd))
  · rw [hx] at h1
    generalize hu : a.eval x = u at h1
    cases h1 with
    | ptr _ _ _ l hb =>
      have hr := hrel.holds.root r _ hroot
      rw [hb] at hr
      cases hr with
      | box b _ vals T' hw hlen hM hR =>
        have hf : ∀ (j : Nat) c, cs[j]? = some c → vals[j]? = some (vals.getD j undef) := by
          intro j c hj
          have := (List.getElem?_eq_some_iff.1 hj).1
          rw [hlen] at this
          simp [Array.getD, this]
        obtain ⟨v, hv, hl⟩ := part_rel (P := P) (M := M) (β := β) hp b 0 (fun j => vals.getD j undef) hT hs ha (by
          intro j c hj
          exact hR j c _ hj (hf j c hj))
        refine fin b 0 off v ?_ hv fun w' hw' => hl w' ?_
        · simpa using hu
        · intro j c hj
          refine hw'.cell ?_
          simp only [World.cell?, hw, Option.isSome_none, Bool.false_eq_true, if_false, Nat.zero_add]
          exact hf j c hj
  · rw [hx] at h1
    generalize hu : a.eval x = u at h1
    cases h1 with
    | ptr _ _ _ l hb =>
      have hr := hrel.holds.root r _ hroot
      rw [hb] at hr
      cases hr with
      | arr b o _ cap _ _ vals T' hw hcap hsize hrows hM hR =>
        have hi : i < rows.length := (List.getElem?_eq_some_iff.1 hrow).1
        have hlen := hrows i row hrow
        have hf : ∀ (j : Nat) c, row[j]? = some c → vals[o + i * sz + j]? = some (vals.getD (o + i * sz + j) undef) := by
          intro j c hj
          have h2 := (List.getElem?_eq_some_iff.1 hj).1
          have h3 : (i + 1) * sz ≤ cap * sz := Nat.mul_le_mul_right _ (by omega)
          rw [Nat.succ_mul] at h3
          have : o + i * sz + j < vals.size := by omega
          simp [Array.getD, this]
        obtain ⟨v, hv, hl⟩ := part_rel (P := P) (M := M) (β := β) hp b (o + i * sz) (fun j => vals.getD (o + i * sz + j) undef) hT hs ha (by
          intro j c hj
          simp only [List.getElem?_map, Option.map_eq_some_iff] at hj
          obtain ⟨d, hd, rfl⟩ := hj
          exact .d _ _ (hR i row j d _ hrow hd (hf j d hd)))
        refine fin b (o + i * sz) off v hu hv fun w' hw' => hl w' ?_
        intro j c hj
        simp only [List.getElem?_map, Option.map_eq_some_iff] at hj
        obtain ⟨d, hd, rfl⟩ := hj
        refine hw'.cell ?_
        simp only [World.cell?, hw, Option.isSome_none, Bool.false_eq_true, if_false]
        exact hf j d hd

theorem OpP.fieldAddr {T f o : Nat} {x : Operand} (hf : fldOf P T f = some o) (y : AV)
    (hv : (∃ row off, ev st x = .fptr row off ∧ y = .fptr row (off + o)) ∨ (∃ r i off, ev st x = .ptr r i off ∧ y = .ptr r i (off + o))) (h : K y) :
    OpP P n ⟨dst, .fieldAddr T x f, ty, pos, after, gu⟩ st K := by
  intro M β a w hrel
  have h1 := ev_rel hrel x
  unfold fldOf at hf
  split at hf <;> try (simp at hf; done)
  rename_i fs hfs
  simp only [Option.bind_eq_some_iff] at hf
  obtain ⟨fl, hfl, hf⟩ := hf
  split at hf <;> try (simp at hf; done)
  rename_i m hsz
  simp only [Option.some.injEq] at hf
  subst hf
  have hrun : ∀ (w' : World) (b k : Nat), (Instr.fieldAt T (.pointer (some ⟨b, k, none⟩)) f).run P w' = .ok (.pointer (some ⟨b, k + fl.offset, none⟩)) w' := by
    intro w' b k
    simp [Instr.fieldAt, run_underlying hfs, hfl, Instr.sureAddr, fieldPlace, run_sizeOf hsz, Addr.add_lit]
  rcases hv with ⟨row, off, hx, rfl⟩ | ⟨r, i, off, hx, rfl⟩
  · rw [hx] at h1
    generalize hu : a.eval x = u at h1
    cases h1 with
    | fptr _ _ b o f' hM hR =>
      refine ⟨_, _, h, .fptr row (off + fl.offset) b o f' hM hR, .of fun w' _ => ?_⟩
      simp [execOp, hu, hrun, Nat.add_assoc]
  · rw [hx] at h1
    generalize hu : a.eval x = u at h1
    cases h1 with
    | ptr _ _ _ l hb =>
      refine ⟨_, _, h, .ptr r i (off + fl.offset) l hb, .of fun w' _ => ?_⟩
      simp [execOp, hu, hrun, Nat.add_assoc]

/-! ### Slices -/

theorem run_indexAt {T e s : Nat} (hT : P.underlying T = some (.slice e)) (hs : szOf P e = some s) (w : World) (a : Addr) (len cap : Nat) (k : IntKind) (m : Int) (h0 : 0 ≤ m) (h1 : m < len) :
    (Instr.indexAt T (.slice (some a) len cap) (.int k m)).run P w = .ok (.pointer (some (a.add (m.toNat * s)))) w := by
  simp [Instr.indexAt, asIntOf, run_underlying hT, run_sizeOf hs, h0, h1]

/-- The address of an element of a slice. -/
theorem OpP.indexAddr_sl {T e s : Nat} {x i : Operand} (hT : P.underlying T = some (.slice e)) (hs : szOf P e = some s) (rows : List (List D)) (k : IntKind) (m : Int)
    (hx : ev st x = .d (.sl rows)) (hi : ev st i = .d (.con (.int k m))) (hb : 0 ≤ m ∧ m < rows.length)
    (h : ∀ row, rows[m.toNat]? = some row → row.length = s ∧ K (.fptr row 0)) : OpP P n ⟨dst, .indexAddr T x i, ty, pos, after, gu⟩ st K := by
  intro M β a w hrel
  have h1 := ev_rel hrel x
  have h2 := ev_rel hrel i
  rw [hx] at h1
  rw [hi] at h2
  have h2 := h2.con_eq
  generalize hu : a.eval x = u at h1
  obtain ⟨row, hrow⟩ : ∃ row, rows[m.toNat]? = some row := ⟨_, List.getElem?_eq_getElem (by omega)⟩
  obtain ⟨hlen, hk⟩ := h row hrow
  cases h1 with
  | d _ _ h1 =>
    cases h1 with
    | sl _ ad len cap b o f hl hcap had hM hR =>
      have hne : rows ≠ [] := fun e => by rw [e] at hrow; simp at hrow
      refine ⟨.pointer (some ⟨b, o + m.toNat * s + 0, none⟩), _, hk, .fptr row 0 b (o + m.toNat * s) (f m.toNat) ?_ ?_, .of fun w' _ => ?_⟩
      · intro j c hj
        rw [← hlen]; exact hM _ row j c hrow hj
      · intro j c hj
        exact hR _ row j c hrow hj
      · simp [execOp, hu, h2, had hne, run_indexAt hT hs w' _ len cap k m hb.1 (by omega), Addr.add_lit]

theorem OpP.indexAddr_vs {T e s : Nat} {x i : Operand} (hT : P.underlying T = some (.slice e)) (hs : szOf P e = some s) (r off len lim : Nat) (rows : List (List D)) (k : IntKind) (m : Int)
    (hx : ev st x = .vs r off len) (hr : st.roots[r]? = some (.arr s rows lim)) (hi : ev st i = .d (.con (.int k m))) (hb : 0 ≤ m ∧ m < len)
    (h : K (.ptr r (off + m.toNat) 0)) : OpP P n ⟨dst, .indexAddr T x i, ty, pos, after, gu⟩ st K := by
  intro M β a w hrel
  have h1 := ev_rel hrel x
  have h2 := ev_rel hrel i
  rw [hx] at h1
  rw [hi] at h2
  have h2 := h2.con_eq
  generalize hu : a.eval x = u at h1
  cases h1 with
  | vs _ _ _ l hl hcap =>
    have hroot := hrel.holds.root r _ hr
    rw [hl] at hroot
    cases hroot with
    | arr b o _ cap _ _ vals T' hw hcap2 hsize hrows hM hR =>
      refine ⟨_, _, h, .ptr r (off + m.toNat) 0 _ hl, .of fun w' _ => ?_⟩
      simp [execOp, hu, h2, run_indexAt hT hs w' _ len _ k m hb.1 hb.2, Addr.add_lit, Nat.add_mul, Nat.add_assoc]
  | vsE => omega
  | vsV => omega

def byteAt (s : ByteArray) (i : Nat) : Nat := (s.data.toList.getD i 0).toNat

theorem OpP.index_str {T : Nat} {x i : Operand} (hT : P.underlying T = some .string) (s : ByteArray) (k : IntKind) (m : Int)
    (hx : ev st x = .d (.con (.string s))) (hi : ev st i = .d (.con (.int k m))) (hb : 0 ≤ m ∧ m < s.size)
    (h : K (.d (.con (.int .u8 (byteAt s m.toNat))))) : OpP P n ⟨dst, .index T x i, ty, pos, after, gu⟩ st K := by
  intro M β a w hrel
  have h1 := ev_rel hrel x
  have h2 := ev_rel hrel i
  rw [hx] at h1
  rw [hi] at h2
  refine ⟨_, _, h, .d _ _ (.con _), .of fun w' _ => ?_⟩
  have hm : m.toNat < s.size := by omega
  have hm' : m.toNat < s.data.size := hm
  have e1 : s[m.toNat]? = some (s.data.toList.getD m.toNat 0) := by
    rw [getElem?_pos s m.toNat hm]
    simp only [List.getD, Array.getElem?_toList, Array.getElem?_eq_getElem hm', Option.getD_some]
    rfl
  simp [execOp, h1.con_eq, h2.con_eq, Instr.index, asIntOf, run_underlying hT, hb.1, e1, byteAt]

theorem OpP.extract {x : Operand} {i : Nat} (vs : List AV) (y : AV) (hx : ev st x = .tup vs) (hi : vs[i]? = some y) (h : K y) :
    OpP P n ⟨dst, .extract x i, ty, pos, after, gu⟩ st K := by
  intro M β a w hrel
  have h1 := ev_rel hrel x
  rw [hx] at h1
  generalize hu : a.eval x = u at h1
  cases h1 with
  | tup _ us hlen hR =>
    have hi' : i < us.size := by have := (List.getElem?_eq_some_iff.1 hi).1; omega
    refine ⟨us[i], y, h, hR i y _ hi (by simp [hi']), .of fun w' _ => ?_⟩
    simp [execOp, hu, Instr.extract, hi']

end Go.Al

namespace Go.Al
variable {P : Program} {n : Nat} {p : Nat → Prop} {st : St} {K : AV → Prop} {dst : Option Tmp} {ty : TypeId} {pos : String} {after : Array Edge} {gu : Option (Nat × Bool)}

def lenV : AV → Option Nat
  | .d (.sl rows) => some rows.length
  | .vs _ _ len => some len
  | .d (.con (.slice _ len _)) => some len
  | .d (.con (.string s)) => some s.size
  | _ => none

def lenOk (P : Program) (T : TypeId) : Bool := match P.underlying T with
  | some (.slice _) => true
  | some .string => true
  | _ => false

theorem OpP.len {T : TypeId} {x : Operand} {m : Nat} (hT : lenOk P T = true) (hl : lenV (ev st x) = some m)
    (ht : ∀ s, ev st x = .d (.con (.string s)) → P.underlying T = some .string) (ht' : (∀ s, ev st x ≠ .d (.con (.string s))) → ∃ e, P.underlying T = some (.slice e))
    (h : K (.d (.con (.int .i64 m)))) :
    OpP P n ⟨dst, .call ⟨.builtin .len, #[x], #[T]⟩, ty, pos, after, gu⟩ st K := by
  intro M β a w hrel
  have h1 := ev_rel hrel x
  refine ⟨_, _, h, .d _ _ (.con _), .of fun w' _ => ?_⟩
  have fin : ∀ (ad : Option Addr) cap, a.eval x = .slice ad m cap → (∀ s, ev st x ≠ .d (.con (.string s))) →
      (execOp a.eval ⟨dst, .call ⟨.builtin .len, #[x], #[T]⟩, ty, pos, after, gu⟩).run P w' = .ok (.value (.int .i64 m)) w' := by
    intro ad cap hu hn
    obtain ⟨e, he⟩ := ht' hn
    simp [execOp, resolve, invoke, builtin, hu, Builtin.len_, run_underlying he, goInt]
  generalize hu : a.eval x = u at h1
  generalize hv : ev st x = v at *
  cases h1 with
  | d y _ h1 =>
    cases h1 with
    | any => simp [lenV] at hl
    | cell => simp [lenV] at hl
    | con =>
      cases u <;> simp only [lenV] at hl <;> try (simp at hl; done)
      · simp only [Option.some.injEq] at hl
        subst hl
        simp [execOp, resolve, invoke, builtin, hu, Builtin.len_, run_underlying (ht _ rfl), goInt]
      · simp only [Option.some.injEq] at hl
        subst hl
        exact fin _ _ hu (by simp)
    | sl rows ad len cap b o f hlen =>
      simp only [lenV, Option.some.injEq] at hl
      subst hl; subst hlen
      exact fin _ _ hu (by simp)
    | agg => simp [lenV] at hl
  | vs r off len l =>
    simp only [lenV, Option.some.injEq] at hl
    subst hl
    exact fin _ _ hu (by simp)
  | vsE r off ad =>
    simp only [lenV, Option.some.injEq] at hl
    subst hl
    exact fin _ _ hu (by simp)
  | vsV r ad =>
    simp only [lenV, Option.some.injEq] at hl
    subst hl
    exact fin _ _ hu (by simp)
  | _ => simp [lenV] at hl

/-- A bound of a slice expression, as an operand says it. -/
def bnd (st : St) (d : Nat) : Option Operand → Option Int
  | none => some d
  | some x => match ev st x with
    | .d (.con (.int _ m)) => some m
    | _ => none

theorem bnd_val {M : Mem} {β : Where} {a : Act} {w : World} (hr : Rel n M β st a w) {d : Nat} {x : Operand} {m : Int} (h : bnd st d (some x) = some m) : ∃ k, a.eval x = .int k m := by
  have h1 := ev_rel hr x
  simp only [bnd] at h
  split at h <;> simp at h
  rename_i k m' he
  subst h
  rw [he] at h1
  exact ⟨k, h1.con_eq⟩

theorem run_bounds {M : Mem} {β : Where} {a : Act} {w : World} (hr : Rel n M β st a w) (isSlice : Bool) (len cap : Nat) (lo hi : Option Operand) (l h : Int)
    (hl : bnd st 0 lo = some l) (hh : bnd st len hi = some h) (h0 : 0 ≤ l) (h1 : l ≤ h) (h2 : h ≤ cap) (w' : World) :
    (Instr.sliceBounds isSlice len cap (lo.map a.eval) (hi.map a.eval) none).run P w' = .ok (l.toNat, h.toNat, cap) w' := by
  have e2 : h.toNat ≤ cap := by omega
  have e3 : (l : Int) ≤ (h.toNat : Int) := by omega
  have e0 : 0 ≤ h := by omega
  cases hi with
  | none =>
    simp only [bnd, Option.some.injEq] at hh
    subst hh
    cases lo with
    | none =>
      simp only [bnd, Option.some.injEq] at hl
      subst hl
      simp [Instr.sliceBounds]
    | some x =>
      obtain ⟨k, hk⟩ := bnd_val hr hl
      simp only [Instr.sliceBounds, Option.map_some, Option.map_none, hk, Sem.run_bind, Sem.run_pure, Result.andThen_ok, Option.isSome_none, Bool.false_eq_true, if_false]
      rw [run_sliceBound w' k l len _ h0 (by omega)]
      simp
  | some y =>
    obtain ⟨k', hk'⟩ := bnd_val hr hh
    cases lo with
    | none =>
      simp only [bnd, Option.some.injEq] at hl
      subst hl
      simp only [Instr.sliceBounds, Option.map_some, Option.map_none, hk', Sem.run_bind, Sem.run_pure, Result.andThen_ok]
      rw [run_sliceBound w' k' h cap _ e0 (by omega)]
      simp
    | some x =>
      obtain ⟨k, hk⟩ := bnd_val hr hl
      simp only [Instr.sliceBounds, Option.map_some, Option.map_none, hk, hk', Sem.run_bind, Sem.run_pure, Result.andThen_ok, Option.isSome_none, Bool.false_eq_true, if_false]
      rw [run_sliceBound w' k' h cap _ e0 (by omega)]
      simp only [Result.andThen_ok]
      rw [run_sliceBound w' k l _ _ h0 (by omega)]
      simp

/-- A part of a text. -/
theorem OpP.slice_str {T : TypeId} {x : Operand} {lo hi : Option Operand} (hT : P.underlying T = some .string) (s : ByteArray) (l h : Int)
    (hx : ev st x = .d (.con (.string s))) (hl : bnd st 0 lo = some l) (hh : bnd st s.size hi = some h) (hb : 0 ≤ l ∧ l ≤ h ∧ h ≤ s.size)
    (hk : K (.d (.con (.string (s.extract l.toNat h.toNat))))) : OpP P n ⟨dst, .slice T x lo hi none, ty, pos, after, gu⟩ st K := by
  intro M β a w hrel
  have h1 := ev_rel hrel x
  rw [hx] at h1
  refine ⟨_, _, hk, .d _ _ (.con _), .of fun w' _ => ?_⟩
  have := run_bounds (P := P) hrel false s.size s.size lo hi l h hl hh hb.1 hb.2.1 hb.2.2 w'
  simp [execOp, h1.con_eq, Instr.sliceAt, Instr.slice, run_underlying hT, this]

theorem run_slice_parts {T e s : Nat} (hT : P.underlying T = some (.slice e)) (hs : szOf P e = some s) {M : Mem} {β : Where} {a : Act} {w : World} (hr : Rel n M β st a w)
    (lo hi : Option Operand) (l h : Int) (ad : Option Addr) (len cap : Nat) (hl : bnd st 0 lo = some l) (hh : bnd st len hi = some h) (h0 : 0 ≤ l) (h1 : l ≤ h) (h2 : h ≤ cap) (w' : World) :
    (Instr.sliceAt T (.slice ad len cap) (lo.map a.eval) (hi.map a.eval) none).run P w' =
      .ok (.slice (if cap = l.toNat then ad else ad.map (·.add (l.toNat * s))) (h.toNat - l.toNat) (cap - l.toNat)) w' := by
  have := run_bounds (P := P) hr true len cap lo hi l h hl hh h0 h1 h2 w'
  simp [Instr.sliceAt, Instr.slice, run_underlying hT, this, run_sizeOf hs]

/-- A part of a slice that is never written again. -/
theorem OpP.slice_sl {T e s : Nat} {x : Operand} {lo hi : Option Operand} (hT : P.underlying T = some (.slice e)) (hs : szOf P e = some s) (rows : List (List D)) (l h : Int)
    (hx : ∀ M β v, RelV M β (ev st x) v → RelV M β (.d (.sl rows)) v) (hl : bnd st 0 lo = some l) (hh : bnd st rows.length hi = some h) (hb : 0 ≤ l ∧ l ≤ h ∧ h ≤ rows.length)
    (hrow : ∀ row, row ∈ rows → row.length = s) (hk : K (.d (.sl ((rows.drop l.toNat).take (h.toNat - l.toNat))))) :
    OpP P n ⟨dst, .slice T x lo hi none, ty, pos, after, gu⟩ st K := by
  intro M β a w hrel
  have h1 := hx _ _ _ (ev_rel hrel x)
  generalize hu : a.eval x = u at h1
  cases h1 with
  | d _ _ h1 =>
    cases h1 with
    | sl _ ad len cap b o f hlen hcap had hM hR =>
      subst hlen
      have hrun := run_slice_parts (P := P) hT hs hrel lo hi l h ad rows.length cap hl hh hb.1 hb.2.1 (by omega)
      refine ⟨.slice (if cap = l.toNat then ad else ad.map (·.add (l.toNat * s))) (h.toNat - l.toNat) (cap - l.toNat), _, hk, .d _ _ (.sl _ _ _ _ b (o + l.toNat * s) (fun i j => f (l.toNat + i) j) ?_ ?_ ?_ ?_ ?_), .of fun w' _ => ?_⟩
      · simp; omega
      · omega
      · intro hne
        have hlt : l.toNat < h.toNat := by
          rcases Nat.lt_or_ge l.toNat h.toNat with h' | h'
          · exact h'
          · exact absurd (by rw [Nat.sub_eq_zero_of_le h']; simp) hne
        rw [if_neg (by omega), had (by intro e0; subst e0; simp at hb; omega)]
        simp [Addr.add_lit]
      · intro i row j c h2 h3
        have hi : i < h.toNat - l.toNat := by
          have := (List.getElem?_eq_some_iff.1 h2).1
          simp at this; omega
        simp [hi] at h2
        have hlen2 := hrow row (List.mem_of_getElem? h2)
        have := hM (l.toNat + i) row j c h2 h3
        rw [← this, hlen2]
        congr 1
        rw [Nat.add_mul]; omega
      · intro i row j c h2 h3
        have hi : i < h.toNat - l.toNat := by
          have := (List.getElem?_eq_some_iff.1 h2).1
          simp at this; omega
        simp [hi] at h2
        exact hR (l.toNat + i) row j c h2 h3
      · simp only [execOp, hu, Option.map_none, Sem.run_bind, hrun]
        rfl

/-- A part of an array of the call's own. -/
theorem OpP.slice_vs {T e s : Nat} {x : Operand} {lo hi : Option Operand} (hT : P.underlying T = some (.slice e)) (hs : szOf P e = some s) (r off len lim : Nat) (rows : List (List D)) (l h : Int)
    (hx : ev st x = .vs r off len) (hr : st.roots[r]? = some (.arr s rows lim)) (hl : bnd st 0 lo = some l) (hh : bnd st len hi = some h) (hb : 0 ≤ l ∧ l ≤ h ∧ h ≤ len)
    (hk : K (.vs r (off + l.toNat) (h.toNat - l.toNat))) : OpP P n ⟨dst, .slice T x lo hi none, ty, pos, after, gu⟩ st K := by
  intro M β a w hrel
  have h1 := ev_rel hrel x
  rw [hx] at h1
  generalize hu : a.eval x = u at h1
  cases h1 with
  | vs _ _ _ loc hloc hcap =>
    have hroot := hrel.holds.root r _ hr
    rw [hloc] at hroot
    cases hroot with
    | arr b o _ cap _ _ vals T' hw hcap2 hsize hrows hM hR =>
      have hrun := run_slice_parts (P := P) hT hs hrel lo hi l h (some ⟨b, o + off * s, none⟩) len (cap - off) hl hh hb.1 hb.2.1 (by simp at hcap; omega)
      simp only at hcap
      have hy : ∀ v, v = Value.slice (if cap - off = l.toNat then some ⟨b, o + off * s, none⟩ else some ⟨b, o + (off + l.toNat) * s, none⟩) (h.toNat - l.toNat) (cap - (off + l.toNat)) →
          RelV M β (.vs r (off + l.toNat) (h.toNat - l.toNat)) v := by
        intro v hv
        subst hv
        by_cases hc : cap - off = l.toNat
        · rw [if_pos hc]
          have e1 : h.toNat - l.toNat = 0 := by omega
          have e2 : cap - (off + l.toNat) = 0 := by omega
          rw [e1, e2]
          exact .vsE r _ _ _ hloc (by simp; omega)
        · rw [if_neg hc]
          exact .vs r _ _ _ hloc (by simp; omega)
      refine ⟨_, _, hk, hy _ rfl, .of fun w' _ => ?_⟩
      simp only [execOp, hu, Option.map_none, Sem.run_bind, hrun, Option.map_some, Addr.add_lit]
      rw [show cap - (off + l.toNat) = cap - off - l.toNat from by omega, show o + (off + l.toNat) * s = o + off * s + l.toNat * s from by rw [Nat.add_mul]; omega]
      rfl
  | vsE _ _ ad loc hloc ho =>
    have hrun := run_slice_parts (P := P) hT hs hrel lo hi l h ad 0 0 hl hh hb.1 hb.2.1 (by omega)
    have e1 : l.toNat = 0 := by omega
    have e2 : h.toNat = 0 := by omega
    rw [e1, e2] at hk
    refine ⟨_, _, hk, .vsE r off ad loc hloc ho, .of fun w' _ => ?_⟩
    simp only [execOp, hu, Option.map_none, Sem.run_bind, hrun, e1, e2]
    rfl
  | vsV _ ad hloc =>
    have hrun := run_slice_parts (P := P) hT hs hrel lo hi l h ad 0 0 hl hh hb.1 hb.2.1 (by omega)
    have e1 : l.toNat = 0 := by omega
    have e2 : h.toNat = 0 := by omega
    rw [e1, e2] at hk
    refine ⟨_, _, hk, .vsV r ad hloc, .of fun w' _ => ?_⟩
    simp only [execOp, hu, Option.map_none, Sem.run_bind, hrun, e1, e2]
    rfl

end Go.Al

namespace Go.Al
variable {P : Program} {n : Nat} {p : Nat → Prop} {st : St} {dst : Option Tmp} {ty : TypeId} {pos : String} {after : Array Edge} {gu : Option (Nat × Bool)}

theorem Ext.trans {w w1 w2 : World} (h : Ext w w1) (h' : Ext w1 w2) : Ext w w2 :=
  ⟨Nat.le_trans h.size h'.size, fun b hb => (h'.heap b (Nat.lt_of_lt_of_le hb h.size)).trans (h.heap b hb), h'.stream.1.trans h.stream.1, h'.stream.2.1.trans h.stream.2.1, h'.stream.2.2.trans h.stream.2.2⟩

theorem Ext.alloc (w : World) (o : Obj) : Ext w (w.alloc o) := by
  refine ⟨by simp, fun b hb => ?_, rfl, rfl, rfl⟩
  simp only [World.alloc, Array.getElem?_push, Nat.ne_of_lt hb, if_false]

theorem lt_of_heap {w : World} {b : Nat} {o : Obj} (h : w.heap[b]? = some o) : b < w.heap.size := by
  rcases Nat.lt_or_ge b w.heap.size with h' | h'
  · exact h'
  · simp [Array.getElem?_eq_none h'] at h

theorem RelR.ext {M : Mem} {β : Where} {w w' : World} (he : Ext w w') {s : Slot} {root : Root} (h : RelR M β w s root) : RelR M β w' s root := by
  cases h with
  | dead => exact .dead _
  | virt sz lim => exact .virt sz lim
  | box b cs vals T hw hlen hM hR => exact .box b cs vals T (by rw [he.heap b (lt_of_heap hw)]; exact hw) hlen hM hR
  | arr b o sz cap lim rows vals T hw hcap hsize hrow hM hR => exact .arr b o sz cap lim rows vals T (by rw [he.heap b (lt_of_heap hw)]; exact hw) hcap hsize hrow hM hR
  | map b mk es arr clock hw hlen hM hR => exact .map b mk es arr clock (by rw [he.heap b (lt_of_heap hw)]; exact hw) hlen hM hR

theorem RelR.mono {M : Mem} {β β' : Where} {w : World} (hβ : ∀ r, β r ≠ .no → β' r = β r) {s : Slot} {root : Root} (h : RelR M β w s root) : RelR M β' w s root := by
  cases h with
  | dead => exact .dead _
  | virt sz lim => exact .virt sz lim
  | box b cs vals T hw hlen hM hR => exact .box b cs vals T hw hlen hM (fun i c x h1 h2 => (hR i c x h1 h2).mono (fun _ _ _ h => h) hβ)
  | arr b o sz cap lim rows vals T hw hcap hsize hrow hM hR => exact .arr b o sz cap lim rows vals T hw hcap hsize hrow hM hR
  | map b mk es arr clock hw hlen hM hR => exact .map b mk es arr clock hw hlen hM hR

theorem Holds.ext {M : Mem} {β : Where} {roots : List Root} {w w' : World} (he : Ext w w') (h : Holds M β roots w) : Holds M β roots w' :=
  ⟨fun b o x hm => he.cell (h.frozen b o x hm), fun r root hr => (h.root r root hr).ext he, h.inj, fun r l hl => Nat.lt_of_lt_of_le (h.low r l hl) he.size, h.scope,
    h.glob.step he.size (fun b hb _ => he.heap b hb) (fun r l hl => .inl ⟨r, l, hl, rfl⟩)⟩

theorem Holds.no_mem {M : Mem} {β : Where} {roots : List Root} {w : World} (h : Holds M β roots w) {b : Nat} (hb : w.heap.size ≤ b) (o : Nat) : M b o = none := by
  cases hm : M b o with
  | none => rfl
  | some x =>
    have := World.block_lt_of_cell? w _ (h.frozen b o x hm)
    simp only at this
    omega

/-- One root more. -/
def addW (β : Where) (k : Nat) (s : Slot) : Where := fun r => if r = k then s else β r

theorem addW_same {M : Mem} {β : Where} {roots : List Root} {w : World} (h : Holds M β roots w) (s : Slot) : ∀ r, β r ≠ .no → addW β roots.length s r = β r := by
  intro r hr
  have := h.scope r hr
  simp [addW, Nat.ne_of_lt this]

theorem Holds.add {M : Mem} {β : Where} {roots : List Root} {w w' : World} (h : Holds M β roots w) (he : Ext w w') (s : Slot) (root : Root)
    (hs : ∀ l, s = .at l → w.heap.size ≤ l.b ∧ l.b < w'.heap.size) (hr : RelR M (addW β roots.length s) w' s root) :
    Holds M (addW β roots.length s) (roots ++ [root]) w' := by
  have h' := h.ext he
  refine ⟨h'.frozen, ?_, ?_, ?_, ?_, h.glob.step he.size (fun b hb _ => he.heap b hb) (fun r l hl => by
    simp only [addW] at hl
    split at hl
    · exact .inr (hs l hl).1
    · exact .inl ⟨r, l, hl, rfl⟩)⟩
  · intro r rt hrt
    by_cases hk : r = roots.length
    · subst hk
      simp at hrt
      subst hrt
      simpa [addW] using hr
    · have hlt : r < roots.length := by
        have := (List.getElem?_eq_some_iff.1 hrt).1
        simp at this; omega
      rw [List.getElem?_append_left hlt] at hrt
      simp only [addW, if_neg hk]
      exact (h'.root r rt hrt).mono (addW_same h s)
  · intro r r' l l' hl hl' hb
    simp only [addW] at hl hl'
    split at hl <;> split at hl'
    · omega
    · have := (hs l hl).1
      have := h.low _ _ hl'
      omega
    · have := (hs l' hl').1
      have := h.low _ _ hl
      omega
    · exact h.inj r r' l l' hl hl' hb
  · intro r l hl
    simp only [addW] at hl
    split at hl
    · exact (hs l hl).2
    · exact h'.low r l hl
  · intro r hr
    simp only [addW] at hr
    split at hr
    · simp; omega
    · have := h.scope r hr
      simp; omega

theorem Later.add {M M' : Mem} {β : Where} {roots : List Root} {w w' : World} (h : Holds M β roots w) (he : Ext w w') (s : Slot)
    (hs : ∀ l, s = .at l → w.heap.size ≤ l.b) (hM : M.le M') (hM' : ∀ b, b < w.heap.size → ∀ o, M' b o = M b o) : Later p M β w M' (addW β roots.length s) w' := by
  refine ⟨hM, he.size, fun b hb _ => ⟨he.heap b hb, hM' b hb⟩, ?_, fun r _ hr => addW_same h s r hr, he.stream⟩
  intro r' l' hl
  simp only [addW] at hl
  split at hl
  · exact .inr (hs l' hl)
  · exact .inl ⟨r', l', hl, rfl⟩

/-- The cells of a value. -/
def cellsA : AV → Option (List AV)
  | .agg cs => some cs
  | .d (.agg ds) => some (ds.map .d)
  | .d (.con (.agg vs)) => some (vs.toList.map fun v => .d (.con v))
  | .d (.con v) => some [.d (.con v)]
  | .d .cell => some [.d .cell]
  | .d (.sl rows) => some [.d (.sl rows)]
  | .vs r off len => some [.vs r off len]
  | .ptr r i off => some [.ptr r i off]
  | .fptr row off => some [.fptr row off]
  | .fn f cs => some [.fn f cs]
  | .mp r => some [.mp r]
  | _ => none

theorem cellsA_rel {M : Mem} {β : Where} {a : AV} {v : Value} (hr : RelV M β a v) {cs : List AV} (h : cellsA a = some cs) :
    cs.length = v.cells.size ∧ ∀ (i : Nat) c x, cs[i]? = some c → v.cells[i]? = some x → RelV M β c x := by
  have one : ∀ (a : AV) (v : Value), RelV M β a v → v.cells = #[v] → [a].length = v.cells.size ∧ ∀ (i : Nat) c x, [a][i]? = some c → v.cells[i]? = some x → RelV M β c x := by
    intro a v hr hv
    rw [hv]
    refine ⟨rfl, ?_⟩
    intro i c x h1 h2
    cases i with
    | zero => simp at h1 h2; subst h1; subst h2; exact hr
    | succ i => simp at h1
  cases hr with
  | d x v hf =>
    cases hf with
    | any => simp [cellsA] at h
    | cell v hv =>
      simp only [cellsA, Option.some.injEq] at h
      subst h
      refine one _ _ (.d _ _ (.cell _ hv)) ?_
      cases v <;> first | rfl | simp [Value.oneCell'] at hv
    | con v =>
      cases v <;> simp only [cellsA, Option.some.injEq] at h <;> subst h <;> first
        | exact one _ _ (.d _ _ (.con _)) rfl
        | skip
      rename_i us
      refine ⟨by simp [Value.cells], ?_⟩
      intro i c x h1 h2
      simp only [Value.cells] at h2
      simp only [List.getElem?_map, Option.map_eq_some_iff, Array.getElem?_toList] at h1
      obtain ⟨u, hu, rfl⟩ := h1
      rw [h2] at hu
      cases hu
      exact .d _ _ (.con _)
    | sl rows ad len cap b o f h1 h2 h3 h4 h5 =>
      simp only [cellsA, Option.some.injEq] at h
      subst h
      exact one _ _ (.d _ _ (.sl rows ad len cap b o f h1 h2 h3 h4 h5)) rfl
    | agg ds vs hlen hR =>
      simp only [cellsA, Option.some.injEq] at h
      subst h
      refine ⟨by simpa [Value.cells] using hlen, ?_⟩
      intro i c x h1 h2
      simp only [List.getElem?_map, Option.map_eq_some_iff] at h1
      obtain ⟨d, hd, rfl⟩ := h1
      exact .d _ _ (hR i d x hd h2)
  | vs r off len l hb hl => simp only [cellsA, Option.some.injEq] at h; subst h; exact one _ _ (.vs r off len l hb hl) rfl
  | vsE r off ad l hb ho => simp only [cellsA, Option.some.injEq] at h; subst h; exact one _ _ (.vsE r off ad l hb ho) rfl
  | vsV r ad hb => simp only [cellsA, Option.some.injEq] at h; subst h; exact one _ _ (.vsV r ad hb) rfl
  | ptr r i off l hb => simp only [cellsA, Option.some.injEq] at h; subst h; exact one _ _ (.ptr r i off l hb) rfl
  | fptr row off b o f hM hR => simp only [cellsA, Option.some.injEq] at h; subst h; exact one _ _ (.fptr row off b o f hM hR) rfl
  | fn f caps vs hlen hR => simp only [cellsA, Option.some.injEq] at h; subst h; exact one _ _ (.fn f caps vs hlen hR) rfl
  | agg cs' vs hlen hR => simp only [cellsA, Option.some.injEq] at h; subst h; exact ⟨hlen, hR⟩
  | mp r l hb => simp only [cellsA, Option.some.injEq] at h; subst h; exact one _ _ (.mp r l hb) rfl
  | tup => simp [cellsA] at h
  | gd => simp [cellsA] at h

/-- What an operation leaves. -/
inductive Left (P : Program) (n : Nat) (p : Nat → Prop) (M : Mem) (β : Where) (a : Act) (w : World) (o : Oper) (K : AV → St → Prop) : Prop where
  | val {v : Value} {w' : World} {x : AV} {st' : St} {M' : Mem} {β' : Where} (hrun : (execOp a.eval o).run P w = .ok (.value v) w') (hk : K x st') (hx : RelV M' β' x v)
      (hr : Rel n M' β' st' a w') (hl : Later p M β w M' β' w') : Left P n p M β a w o K
  | skip {w' : World} {x : AV} {st' : St} {M' : Mem} {β' : Where} (hrun : (execOp a.eval o).run P w = .ok .skip w') (hk : K x st') (hx : RelV M' β' x undef)
      (hr : Rel n M' β' st' a w') (hl : Later p M β w M' β' w') : Left P n p M β a w o K

theorem OpE.of_left {o : Oper} {K : AV → St → Prop} (h : ∀ M β a w, Rel n M β st a w → Left P n p M β a w o K) : OpE P n p o st K := by
  intro M β a w hr
  cases h M β a w hr with
  | val hrun hk hx hr hl => exact ⟨_, _, _, _, _, _, _, hrun, rfl, hk, hx, hr, hl⟩
  | skip hrun hk hx hr hl => exact ⟨_, _, _, _, _, _, _, hrun, rfl, hk, hx, hr, hl⟩

/-- A new box. -/
theorem newBox {M : Mem} {β : Where} {w : World} {a : Act} (hr : Rel n M β st a w) (x : AV) (v : Value) (hx : RelV M β x v) (cs : List AV) (hcs : cellsA x = some cs) (T : TypeId) :
    RelV M (addW β st.roots.length (.at ⟨w.heap.size, 0, cs.length, 1⟩)) (.ptr st.roots.length 0 0) (.pointer (some ⟨w.heap.size, 0, none⟩)) ∧
    Rel n M (addW β st.roots.length (.at ⟨w.heap.size, 0, cs.length, 1⟩)) { st with roots := st.roots ++ [.box cs] } a (w.alloc (.cells v.cells T)) ∧
    Later p M β w M (addW β st.roots.length (.at ⟨w.heap.size, 0, cs.length, 1⟩)) (w.alloc (.cells v.cells T)) := by
  obtain ⟨hlen, hR⟩ := cellsA_rel hx hcs
  have he := Ext.alloc w (.cells v.cells T)
  have hsame := addW_same hr.holds (.at ⟨w.heap.size, 0, cs.length, 1⟩)
  refine ⟨?_, ⟨hr.size, hr.defers, fun t => (hr.env t).mono (fun _ _ _ h => h) hsame, ?_⟩, ?_⟩
  · have := RelV.ptr (M := M) (β := addW β st.roots.length (.at ⟨w.heap.size, 0, cs.length, 1⟩)) st.roots.length 0 0 ⟨w.heap.size, 0, cs.length, 1⟩ (by simp [addW])
    simpa using this
  · refine hr.holds.add he _ _ (by intro l hl; cases hl; simp) ?_
    refine .box w.heap.size cs v.cells T (by simp only [World.alloc, Array.getElem?_push, if_true]) hlen (fun o => hr.holds.no_mem (Nat.le_refl _) o) ?_
    intro i c x h1 h2
    exact (hR i c x h1 h2).mono (fun _ _ _ h => h) hsame
  · exact Later.add hr.holds he _ (by intro l hl; cases hl; simp) (fun _ _ _ h => h) (fun _ _ _ => rfl)

theorem OpE.box {T : TypeId} {x : Operand} {K : AV → St → Prop} (cs : List AV) (hcs : cellsA (ev st x) = some cs)
    (h : K (.ptr st.roots.length 0 0) { st with roots := st.roots ++ [.box cs] }) : OpE P n p ⟨dst, .box T x, ty, pos, after, gu⟩ st K := by
  refine .of_left fun M β a w hr => ?_
  obtain ⟨h1, h2, h3⟩ := newBox (p := p) hr _ _ (ev_rel hr x) cs hcs T
  exact .val (by simp [execOp, Instr.box, newVar, newRow]) h h1 h2 h3

def zeroOf (P : Program) (T : TypeId) : Option Value := (P.info? T).bind (·.zero)

theorem run_zeroValue {T : Nat} {z : Value} (h : zeroOf P T = some z) (w : World) : (zeroValue T).run P w = .ok z w := by
  unfold zeroOf at h
  simp only [Option.bind_eq_some_iff] at h
  obtain ⟨i, hi, hz⟩ := h
  simp [zeroValue, typeInfo, hi, hz]

theorem OpE.alloc {T : TypeId} {K : AV → St → Prop} (z : Value) (hz : zeroOf P T = some z) (cs : List AV) (hcs : cellsA (.d (.con z)) = some cs)
    (h : K (.ptr st.roots.length 0 0) { st with roots := st.roots ++ [.box cs] }) : OpE P n p ⟨dst, .alloc T, ty, pos, after, gu⟩ st K := by
  refine .of_left fun M β a w hr => ?_
  obtain ⟨h1, h2, h3⟩ := newBox (p := p) hr (.d (.con z)) z (.d _ _ (.con z)) cs hcs T
  exact .val (by simp [execOp, Instr.alloc, newVar, newRow, run_zeroValue hz]) h h1 h2 h3

end Go.Al

namespace Go.Al
variable {P : Program} {n : Nat} {p : Nat → Prop} {st : St} {dst : Option Tmp} {ty : TypeId} {pos : String} {after : Array Edge} {gu : Option (Nat × Bool)}

/-- Cells laid over others. -/
def splice {α : Type} (cs : List α) (off : Nat) (new : List α) : List α := cs.take off ++ new ++ cs.drop (off + new.length)

theorem splice_get {α : Type} (cs : List α) (off : Nat) (new : List α) (h : off + new.length ≤ cs.length) (k : Nat) :
    (splice cs off new)[k]? = if off ≤ k ∧ k < off + new.length then new[k - off]? else cs[k]? := by
  have h1 : (cs.take off).length = off := by simp; omega
  unfold splice
  rw [List.append_assoc]
  by_cases ha : k < off
  · rw [List.getElem?_append_left (by omega), if_neg (by omega)]
    simp [ha]
  · rw [List.getElem?_append_right (by omega), h1]
    by_cases hb : k < off + new.length
    · rw [List.getElem?_append_left (by omega), if_pos (by omega)]
    · rw [List.getElem?_append_right (by omega), if_neg (by omega), List.getElem?_drop]
      congr 1; omega

theorem splice_length {α : Type} (cs : List α) (off : Nat) (new : List α) (h : off + new.length ≤ cs.length) : (splice cs off new).length = cs.length := by
  simp [splice]; omega

def fillA (place : Nat → Option (Nat × Nat)) (cells : List AV) : List (Nat × AV) → Option (List AV)
  | [] => some cells
  | (i, v) :: rest => (place i).bind fun pl => (cellsA v).bind fun cs =>
    if cs.length = pl.2 ∧ pl.1 + cs.length ≤ cells.length then fillA place (splice cells pl.1 cs) rest else none

/-- Cells that are told of by others. -/
def RelC (M : Mem) (β : Where) (cs : List AV) (vs : Array Value) : Prop := cs.length = vs.size ∧ ∀ (i : Nat) c x, cs[i]? = some c → vs[i]? = some x → RelV M β c x

theorem foldl_cells (new : List Value) (off : Nat) : ∀ (k : Nat) (cs : Array Value) (j : Nat),
    ((new.zipIdx k).foldl (fun cs (x : Value × Nat) => cs.setIfInBounds (off + x.2) x.1) cs)[j]? =
      if off + k ≤ j ∧ j < off + k + new.length ∧ j < cs.size then new[j - (off + k)]? else cs[j]? := by
  induction new with
  | nil => intro k cs j; simp; omega
  | cons v new ih =>
    intro k cs j
    simp only [List.zipIdx_cons, List.foldl_cons, List.length_cons]
    rw [ih (k + 1)]
    simp only [Array.size_setIfInBounds, Array.getElem?_setIfInBounds]
    by_cases h0 : j = off + k
    · subst h0
      rw [if_neg (by omega), if_pos rfl]
      by_cases hs : off + k < cs.size
      · rw [if_pos hs, if_pos (by omega)]; simp
      · rw [if_neg hs, if_neg (by omega)]
        simp; omega
    · by_cases h1 : off + (k + 1) ≤ j ∧ j < off + (k + 1) + new.length ∧ j < cs.size
      · rw [if_pos h1, if_pos (by omega)]
        rw [show j - (off + k) = (j - (off + (k + 1))) + 1 from by omega, List.getElem?_cons_succ]
      · rw [if_neg h1, if_neg (Ne.symm h0), if_neg (by omega)]

theorem size_foldl (new : List Value) (off : Nat) : ∀ (k : Nat) (cs : Array Value),
    ((new.zipIdx k).foldl (fun cs (x : Value × Nat) => cs.setIfInBounds (off + x.2) x.1) cs).size = cs.size := by
  induction new with
  | nil => intro k cs; rfl
  | cons v new ih => intro k cs; simp only [List.zipIdx_cons, List.foldl_cons]; rw [ih]; simp

theorem fill_rel {M : Mem} {β : Where} (place : Nat → Option (Nat × Nat)) : ∀ (parts : List (Nat × AV)) (vals : List (Nat × Value)) (cells : List AV) (vs : Array Value) (out : List AV),
    RelC M β cells vs → parts.length = vals.length → (∀ (k : Nat) x y, parts[k]? = some x → vals[k]? = some y → x.1 = y.1 ∧ RelV M β x.2 y.2) →
    fillA place cells parts = some out → ∃ us, Instr.fill place vs vals = some us ∧ RelC M β out us
  | [], [], cells, vs, out, hc, _, _, h => by
    simp only [fillA, Option.some.injEq] at h
    subst h
    exact ⟨vs, rfl, hc⟩
  | [], _ :: _, _, _, _, _, hl, _, _ => by simp at hl
  | _ :: _, [], _, _, _, _, hl, _, _ => by simp at hl
  | (i, a) :: parts, (j, v) :: vals, cells, vs, out, hc, hl, hr, h => by
    have h0 := hr 0 _ _ rfl rfl
    simp only at h0
    obtain ⟨rfl, ha⟩ := h0
    simp only [fillA, Option.bind_eq_some_iff] at h
    obtain ⟨⟨off, size⟩, hpl, cs, hcs, h⟩ := h
    split at h
    case isFalse => simp at h
    rename_i hcond
    simp only at hcond
    obtain ⟨hsz, hle⟩ := hcond
    obtain ⟨hlen, hR⟩ := cellsA_rel ha hcs
    have hfold : ∀ k : Nat, (v.cells.zipIdx.foldl (fun cs (x : Value × Nat) => cs.setIfInBounds (off + x.2) x.1) vs)[k]? = if off ≤ k ∧ k < off + v.cells.size ∧ k < vs.size then v.cells[k - off]? else vs[k]? := by
      intro k
      have := foldl_cells v.cells.toList off 0 vs k
      simp only [Nat.add_zero, Array.length_toList, Array.getElem?_toList] at this
      rw [← this, ← Array.foldl_toList]
      simp
    have hsize : (v.cells.zipIdx.foldl (fun cs (x : Value × Nat) => cs.setIfInBounds (off + x.2) x.1) vs).size = vs.size := by
      have := size_foldl v.cells.toList off 0 vs
      rw [← this, ← Array.foldl_toList]
      simp
    have hc' : RelC M β (splice cells off cs) (v.cells.zipIdx.foldl (fun cs (x : Value × Nat) => cs.setIfInBounds (off + x.2) x.1) vs) := by
      refine ⟨by rw [splice_length _ _ _ (by simpa using hle), hsize]; exact hc.1, ?_⟩
      intro k c x h1 h2
      rw [splice_get _ _ _ (by simpa using hle)] at h1
      rw [hfold] at h2
      have e0 := hc.1
      by_cases hk : off ≤ k ∧ k < off + cs.length
      · rw [if_pos hk] at h1
        rw [if_pos (by omega)] at h2
        exact hR _ c x h1 h2
      · rw [if_neg hk] at h1
        rw [if_neg (by omega)] at h2
        exact hc.2 k c x h1 h2
    obtain ⟨us, hus, hou⟩ := fill_rel place parts vals _ _ out hc' (by simpa using hl) (fun k x y hx hy => hr (k + 1) x y hx hy) h
    refine ⟨us, ?_, hou⟩
    simp only [Instr.fill, hpl]
    rw [if_neg]
    · exact hus
    · have e0 := hc.1
      simp only [bne_iff_ne, ne_eq, gt_iff_lt, Bool.or_eq_true, decide_eq_true_eq, not_or, Decidable.not_not, Nat.not_lt]
      omega

/-- A struct out of its parts, the others zero. -/
def buildA (P : Program) (T : TypeId) (parts : List (Nat × AV)) : Option (List AV) :=
  match P.underlying T with
  | some (.struct fs) => (fs.toList.mapM fun f => (P.info? f.type).map fun i => (f.offset, i.size)).bind fun places =>
    (zeroOf P T).bind fun z => (cellsA (.d (.con z))).bind fun cs => fillA (places.toArray[·]?) cs parts
  | _ => none

theorem OpP.build {T : TypeId} {parts : Array (Nat × Operand)} {K : AV → Prop} (cs : List AV) (hb : buildA P T (parts.toList.map fun x => (x.1, ev st x.2)) = some cs) (h : K (.agg cs)) :
    OpP P n ⟨dst, .build T parts, ty, pos, after, gu⟩ st K := by
  intro M β a w hrel
  unfold buildA at hb
  split at hb
  case h_2 => simp at hb
  rename_i fs hfs
  simp only [Option.bind_eq_some_iff] at hb
  obtain ⟨places, hpl, z, hz, zc, hzc, hfill⟩ := hb
  have hzr := cellsA_rel (M := M) (β := β) (.d _ _ (.con z)) hzc
  obtain ⟨us, hus, hrel'⟩ := fill_rel (M := M) (β := β) (places.toArray[·]?) _ (parts.toList.map fun x => (x.1, a.eval x.2)) zc z.cells cs ⟨hzr.1, hzr.2⟩ (by simp) (by
    intro k x y hx hy
    simp only [List.getElem?_map, Option.map_eq_some_iff] at hx hy
    obtain ⟨q, hq, rfl⟩ := hx
    obtain ⟨q', hq', rfl⟩ := hy
    rw [hq] at hq'
    cases hq'
    exact ⟨rfl, ev_rel hrel q.2⟩) hfill
  refine ⟨.agg us, _, h, .agg cs us hrel'.1 hrel'.2, .of fun w' _ => ?_⟩
  have hbuilt : P.built T (parts.map fun (x : Nat × Operand) => (x.1, a.eval x.2)).toList = some us := by
    unfold zeroOf at hz
    simp only [Option.bind_eq_some_iff] at hz
    obtain ⟨i, hi, hz⟩ := hz
    unfold Program.built
    simp only [hi, hfs, hz, hpl]
    simpa using hus
  have hrun := run_build (P := P) w' T (parts.map fun (x : Nat × Operand) => (x.1, a.eval x.2)) us hbuilt
  simp only [execOp, Sem.run_bind]
  rw [hrun]
  rfl

theorem OpP.makeFunc {f : FuncId} {captured : Array Operand} {K : AV → Prop} (h : K (.fn f (captured.toList.map (ev st)))) :
    OpP P n ⟨dst, .makeFunc (.func f) #[] captured, ty, pos, after, gu⟩ st K := by
  intro M β a w hrel
  refine ⟨.func (.func f) #[] (captured.map a.eval), _, h, .fn f _ _ (by simp) ?_, .of fun w' _ => by simp [execOp, Instr.makeFunc]⟩
  intro i c x h1 h2
  simp only [List.getElem?_map, Option.map_eq_some_iff, Array.getElem?_toList, Array.getElem?_map] at h1 h2
  obtain ⟨q, hq, rfl⟩ := h1
  obtain ⟨q', hq', rfl⟩ := h2
  rw [hq] at hq'
  cases hq'
  exact ev_rel hrel q

end Go.Al

namespace Go.Al
variable {P : Program} {n : Nat} {p : Nat → Prop} {st : St} {dst : Option Tmp} {ty : TypeId} {pos : String} {after : Array Edge} {gu : Option (Nat × Bool)}

mutual
/-- A value as data that is never written again, and the roots of which more is frozen then. -/
def asD : AV → List Root → Option (D × List Root)
  | .d x, R => some (x, R)
  | .vs r off len, R => match R[r]? with
    | some (.arr sz rows lim) => if off + len ≤ rows.length then some (.sl ((rows.drop off).take len), R.set r (.arr sz rows (max lim (off + len)))) else none
    | _ => none
  | .agg cs, R => (asDL cs R).map fun x => (.agg x.1, x.2)
  | _, _ => none
def asDL : List AV → List Root → Option (List D × List Root)
  | [], R => some ([], R)
  | c :: cs, R => (asD c R).bind fun x => (asDL cs x.2).map fun y => (x.1 :: y.1, y.2)
end

/-- More is frozen, in blocks of the roots alone. -/
structure More (M : Mem) (β : Where) (R : List Root) (M' : Mem) (R' : List Root) (w : World) : Prop where
  le : M.le M'
  same : ∀ b, (∀ r l, β r = .at l → l.b ≠ b) → ∀ o, M' b o = M b o
  holds : Holds M' β R' w
  len : R'.length = R.length

theorem More.refl {M : Mem} {β : Where} {R : List Root} {w : World} (h : Holds M β R w) : More M β R M R w := ⟨fun _ _ _ h => h, fun _ _ _ => rfl, h, rfl⟩
theorem More.trans {M M1 M2 : Mem} {β : Where} {R R1 R2 : List Root} {w : World} (h : More M β R M1 R1 w) (h' : More M1 β R1 M2 R2 w) : More M β R M2 R2 w :=
  ⟨fun b o x hx => h'.le b o x (h.le b o x hx), fun b hb o => (h'.same b hb o).trans (h.same b hb o), h'.holds, h'.len.trans h.len⟩
theorem More.later {M M' : Mem} {β : Where} {R R' : List Root} {w : World} (h : More M β R M' R' w) : Later p M β w M' β w :=
  ⟨h.le, Nat.le_refl _, fun b _ hr => ⟨rfl, h.same b hr⟩, fun r l hl => .inl ⟨r, l, hl, rfl⟩, fun _ _ _ => rfl, rfl, rfl, rfl⟩
theorem More.rel {M M' : Mem} {β : Where} {R' : List Root} {a : Act} {w : World} (hr : Rel n M β st a w) (h : More M β st.roots M' R' w) : Rel n M' β { st with roots := R' } a w :=
  ⟨hr.size, hr.defers, fun t => (hr.env t).mono h.le (fun _ _ => rfl), h.holds⟩

def Mem.with (M : Mem) (b lo hi : Nat) (f : Nat → Option Value) : Mem := fun b' o => if b' = b ∧ lo ≤ o ∧ o < hi then f o else M b' o

theorem freeze_one {M : Mem} {β : Where} {R : List Root} {w : World} (h : Holds M β R w) {r sz lim k : Nat} {rows : List (List D)} {l : Loc} (hr : R[r]? = some (.arr sz rows lim)) (hl : β r = .at l)
    (hk : k ≤ rows.length) : ∃ M', More M β R M' (R.set r (.arr sz rows (max lim k))) w ∧
      ∀ (i : Nat) row (j : Nat) c, rows[i]? = some row → row[j]? = some c → i < k → row.length = sz ∧ ∃ x, M' l.b (l.o + i * sz + j) = some x ∧ RelF M c x := by
  have hroot := h.root r _ hr
  rw [hl] at hroot
  cases hroot with
  | arr b o _ cap _ _ vals T hw hcap hsize hrow hM hR =>
    have hcell : ∀ q, w.cell? ⟨b, q, none⟩ = vals[q]? := by
      intro q
      simp [World.cell?, hw]
    have hle : M.le (M.with b o (o + k * sz) (vals[·]?)) := by
      intro b' q x hx
      unfold Mem.with
      split
      · rename_i hc
        have := h.frozen b' q x hx
        rw [hc.1, hcell] at this
        exact this
      · exact hx
    have hother : ∀ b', b' ≠ b → ∀ q, M.with b o (o + k * sz) (vals[·]?) b' q = M b' q := by
      intro b' hb q
      simp [Mem.with, hb]
    have hfro : ∀ b' q x, M.with b o (o + k * sz) (vals[·]?) b' q = some x → w.cell? ⟨b', q, none⟩ = some x := by
      intro b' q x hx
      unfold Mem.with at hx
      split at hx
      · rename_i hc
        rw [hc.1, hcell]; exact hx
      · exact h.frozen b' q x hx
    refine ⟨M.with b o (o + k * sz) (vals[·]?), ⟨hle, fun b' hb' q => hother b' (fun e => hb' r _ hl e.symm) q, ⟨hfro, ?_, h.inj, h.low, fun q hq => by simpa using h.scope q hq, h.glob⟩, by simp⟩, ?_⟩
    · intro q root hq
      by_cases e : q = r
      · subst e
        have hlt : q < R.length := (List.getElem?_eq_some_iff.1 hr).1
        simp [hlt] at hq
        subst hq
        rw [hl]
        refine .arr b o sz cap _ rows vals T hw hcap hsize hrow ?_ (fun i row j c x h1 h2 h3 => (hR i row j c x h1 h2 h3).mono hle)
        intro q hq
        have e1 : lim * sz ≤ max lim k * sz := Nat.mul_le_mul_right _ (Nat.le_max_left _ _)
        have e2 : k * sz ≤ max lim k * sz := Nat.mul_le_mul_right _ (Nat.le_max_right _ _)
        unfold Mem.with
        rw [if_neg (by omega)]
        exact hM q (by omega)
      · rw [List.getElem?_set_ne (Ne.symm e)] at hq
        have hq' := h.root q root hq
        generalize hs : β q = s at hq'
        cases hq' with
        | dead => exact .dead _
        | virt sz lim => exact .virt sz lim
        | box b' cs vals' T' hw' hlen' hM' hR' =>
          have hbb : b' ≠ b := fun e' => e (h.inj q r _ _ hs hl e')
          exact .box b' cs vals' T' hw' hlen' (fun o => by rw [hother b' hbb]; exact hM' o) (fun i c x h1 h2 => (hR' i c x h1 h2).mono hle (fun _ _ => rfl))
        | arr b' o' sz' cap' lim' rows' vals' T' hw' hcap' hsize' hrow' hM' hR' =>
          have hbb : b' ≠ b := fun e' => e (h.inj q r _ _ hs hl e')
          exact .arr b' o' sz' cap' lim' rows' vals' T' hw' hcap' hsize' hrow' (fun k hk => by rw [hother b' hbb]; exact hM' k hk) (fun i row j c x h1 h2 h3 => (hR' i row j c x h1 h2 h3).mono hle)
        | map b' mk' es' arr' clock' hw' hlen' hM' hR' =>
          have hbb : b' ≠ b := fun e' => e (h.inj q r _ _ hs hl e')
          exact .map b' mk' es' arr' clock' hw' hlen' (fun o => by rw [hother b' hbb]; exact hM' o) (fun i e x h1 h2 => ⟨(hR' i e x h1 h2).1, (hR' i e x h1 h2).2.1, (hR' i e x h1 h2).2.2.mono hle⟩)
    · intro i row j c h1 h2 hi
      have e1 := hrow i row h1
      have hj : j < sz := by rw [← e1]; exact (List.getElem?_eq_some_iff.1 h2).1
      have e2 : (i + 1) * sz ≤ k * sz := Nat.mul_le_mul_right _ hi
      rw [Nat.succ_mul] at e2
      have e3 : k * sz ≤ cap * sz := Nat.mul_le_mul_right _ (by omega)
      have hlt : o + i * sz + j < vals.size := by omega
      refine ⟨e1, vals[o + i * sz + j], ?_, hR i row j c _ h1 h2 (by simp [hlt])⟩
      simp only [Mem.with]
      rw [if_pos ⟨trivial, by omega, by omega⟩]
      simp [hlt]

mutual
theorem asD_rel : ∀ (a : AV) (R : List Root) (x : D) (R' : List Root), asD a R = some (x, R') → ∀ (M : Mem) (β : Where) (w : World), Holds M β R w →
    ∃ M', More M β R M' R' w ∧ ∀ v, RelV M β a v → RelF M' x v
  | .d y, R, x, R', h, M, β, w, hh => by
    simp only [asD, Option.some.injEq, Prod.mk.injEq] at h
    obtain ⟨rfl, rfl⟩ := h
    exact ⟨M, More.refl hh, fun v hv => by cases hv; assumption⟩
  | .vs r off len, R, x, R', h, M, β, w, hh => by
    simp only [asD] at h
    split at h <;> try (simp at h; done)
    rename_i sz rows lim hr
    split at h <;> simp only [Option.some.injEq, Prod.mk.injEq, reduceCtorEq] at h
    rename_i hle
    obtain ⟨rfl, rfl⟩ := h
    have hroot := hh.root r _ hr
    generalize hs : β r = s at hroot
    cases hroot with
    | virt _ _ =>
      have hset : R.set r (.arr sz [] (max lim (off + len))) = R.set r (.arr sz [] (max lim (off + len))) := rfl
      refine ⟨M, ⟨fun _ _ _ h => h, fun _ _ _ => rfl, ⟨hh.frozen, ?_, hh.inj, hh.low, fun q hq => by simpa using hh.scope q hq, hh.glob⟩, by simp⟩, ?_⟩
      · intro q root hq
        by_cases e : q = r
        · subst e
          have hlt : q < R.length := (List.getElem?_eq_some_iff.1 hr).1
          simp [hlt] at hq
          subst hq
          rw [hs]; exact .virt _ _
        · rw [List.getElem?_set_ne (Ne.symm e)] at hq
          exact hh.root q root hq
      · intro v hv
        simp at hle
        obtain ⟨rfl, rfl⟩ := hle
        cases hv with
        | vs _ _ _ l hb => rw [hs] at hb; cases hb
        | vsE _ _ a l hb => rw [hs] at hb; cases hb
        | vsV _ a hb => exact .sl [] a 0 0 0 0 (fun _ _ => undef) rfl (Nat.le_refl _) (by simp) (by simp) (by simp)
    | arr b o _ cap _ _ vals T hw hcap hsize hrow hM hR =>
      obtain ⟨M', hmore, hcells⟩ := freeze_one hh hr hs hle
      refine ⟨M', hmore, ?_⟩
      intro v hv
      have hget : ∀ (i : Nat) row, ((rows.drop off).take len)[i]? = some row → i < len ∧ rows[off + i]? = some row := by
        intro i row h1
        have hi : i < len := by
          have := (List.getElem?_eq_some_iff.1 h1).1
          simp at this; omega
        simp [hi] at h1
        exact ⟨hi, h1⟩
      cases hv with
      | vs _ _ _ l hb hl =>
        rw [hs] at hb
        cases hb
        simp only at hl
        let f : Nat → Nat → Value := fun i j => (M' b (o + off * sz + i * sz + j)).getD undef
        refine .sl _ _ len _ b (o + off * sz) f (by simp; omega) (by simp; omega) (fun _ => rfl) ?_ ?_
        · intro i row j c h1 h2
          obtain ⟨hi, h1'⟩ := hget i row h1
          obtain ⟨e1, y, hy, hyf⟩ := hcells (off + i) row j c h1' h2 (by omega)
          have e2 : o + off * sz + i * sz + j = o + (off + i) * sz + j := by rw [Nat.add_mul]; omega
          simp only [f]
          rw [e1, e2, hy]; rfl
        · intro i row j c h1 h2
          obtain ⟨hi, h1'⟩ := hget i row h1
          obtain ⟨e1, y, hy, hyf⟩ := hcells (off + i) row j c h1' h2 (by omega)
          have e2 : o + off * sz + i * sz + j = o + (off + i) * sz + j := by rw [Nat.add_mul]; omega
          simp only [f]
          rw [e2, hy]
          exact hyf.mono hmore.le
      | vsE _ _ a l hb ho =>
        simp only [List.take_zero]
        exact .sl [] a 0 0 0 0 (fun _ _ => undef) rfl (Nat.le_refl _) (by simp) (by simp) (by simp)
      | vsV _ a hb => rw [hs] at hb; cases hb
  | .agg cs, R, x, R', h, M, β, w, hh => by
    simp only [asD, Option.map_eq_some_iff, Prod.mk.injEq] at h
    obtain ⟨⟨ds, R1⟩, h1, rfl, rfl⟩ := h
    obtain ⟨M', hm, hl, hv⟩ := asDL_rel cs R ds R1 h1 M β w hh
    refine ⟨M', hm, ?_⟩
    intro v hv'
    cases hv' with
    | agg _ vs hlen hR =>
      refine .agg ds vs (hl.symm.trans hlen) ?_
      intro i c x h1 h2
      have hi : i < cs.length := by rw [hl]; exact (List.getElem?_eq_some_iff.1 h1).1
      exact hv i _ c x (List.getElem?_eq_getElem hi) h1 (hR i _ x (List.getElem?_eq_getElem hi) h2)
  | .ptr .., _, _, _, h, _, _, _, _ => by simp [asD] at h
  | .fptr .., _, _, _, h, _, _, _, _ => by simp [asD] at h
  | .tup _, _, _, _, h, _, _, _, _ => by simp [asD] at h
  | .fn .., _, _, _, h, _, _, _, _ => by simp [asD] at h
  | .gd .., _, _, _, h, _, _, _, _ => by simp [asD] at h
  | .mp .., _, _, _, h, _, _, _, _ => by simp [asD] at h
theorem asDL_rel : ∀ (cs : List AV) (R : List Root) (ds : List D) (R' : List Root), asDL cs R = some (ds, R') → ∀ (M : Mem) (β : Where) (w : World), Holds M β R w →
    ∃ M', More M β R M' R' w ∧ cs.length = ds.length ∧ ∀ (i : Nat) c d v, cs[i]? = some c → ds[i]? = some d → RelV M β c v → RelF M' d v
  | [], R, ds, R', h, M, β, w, hh => by
    simp only [asDL, Option.some.injEq, Prod.mk.injEq] at h
    obtain ⟨rfl, rfl⟩ := h
    exact ⟨M, More.refl hh, rfl, by simp⟩
  | c :: cs, R, ds, R', h, M, β, w, hh => by
    simp only [asDL, Option.bind_eq_some_iff, Option.map_eq_some_iff, Prod.mk.injEq] at h
    obtain ⟨⟨x, R1⟩, h1, ⟨ys, R2⟩, h2, rfl, rfl⟩ := h
    obtain ⟨M1, hm1, hv1⟩ := asD_rel c R x R1 h1 M β w hh
    obtain ⟨M2, hm2, hl, hv2⟩ := asDL_rel cs R1 ys R2 h2 M1 β w hm1.holds
    refine ⟨M2, hm1.trans hm2, by simp [hl], ?_⟩
    intro i c' d v hc hd hv
    cases i with
    | zero =>
      simp at hc hd
      subst hc; subst hd
      exact (hv1 v hv).mono hm2.le
    | succ i =>
      simp at hc hd
      exact hv2 i c' d v hc hd (hv.mono hm1.le (fun _ _ => rfl))
end

end Go.Al

namespace Go.Al
variable {P : Program} {n : Nat} {p : Nat → Prop} {st : St} {dst : Option Tmp} {ty : TypeId} {pos : String} {after : Array Edge} {gu : Option (Nat × Bool)}

/-- The cells of data. -/
def dcells : D → Option (List D)
  | .agg ds => some ds
  | .con (.agg vs) => some (vs.toList.map .con)
  | .con v => some [.con v]
  | .cell => some [.cell]
  | .sl rows => some [.sl rows]
  | .any => none

theorem dcells_rel {M : Mem} {x : D} {v : Value} (hr : RelF M x v) {cs : List D} (h : dcells x = some cs) :
    cs.length = v.cells.size ∧ ∀ (i : Nat) c y, cs[i]? = some c → v.cells[i]? = some y → RelF M c y := by
  have hA : cellsA (.d x) = some (cs.map .d) := by
    cases x with
    | any => simp [dcells] at h
    | cell => simp only [dcells, Option.some.injEq] at h; subst h; rfl
    | con v =>
      cases v <;> simp only [dcells, Option.some.injEq] at h <;> subst h <;> first
        | rfl
        | simp [cellsA]
    | sl rows => simp only [dcells, Option.some.injEq] at h; subst h; rfl
    | agg ds => simp only [dcells, Option.some.injEq] at h; subst h; rfl
  obtain ⟨h1, h2⟩ := cellsA_rel (M := M) (β := fun _ => .no) (.d _ _ hr) hA
  refine ⟨by simpa using h1, ?_⟩
  intro i c y hc hy
  have := h2 i (.d c) y (by simp [hc]) hy
  cases this
  assumption

def rowsOf (sz : Nat) : List (Nat × AV) → Nat → List Root → Option (List (List D) × List Root)
  | [], _, R => some ([], R)
  | (i, a) :: rest, k, R => (asD a R).bind fun x => (dcells x.1).bind fun cs =>
    if i = k ∧ cs.length = sz then (rowsOf sz rest (k + 1) x.2).map fun y => (cs :: y.1, y.2) else none

theorem rowsOf_rel (sz : Nat) : ∀ (parts : List (Nat × AV)) (k : Nat) (R : List Root) (rows : List (List D)) (R' : List Root), rowsOf sz parts k R = some (rows, R') →
    ∀ (M : Mem) (β : Where) (w : World), Holds M β R w → ∃ M', More M β R M' R' w ∧ rows.length = parts.length ∧
      ∀ (i : Nat) q row v, parts[i]? = some q → rows[i]? = some row → RelV M β q.2 v → q.1 = k + i ∧ row.length = sz ∧ row.length = v.cells.size ∧
        ∀ (j : Nat) c y, row[j]? = some c → v.cells[j]? = some y → RelF M' c y
  | [], k, R, rows, R', h, M, β, w, hh => by
    simp only [rowsOf, Option.some.injEq, Prod.mk.injEq] at h
    obtain ⟨rfl, rfl⟩ := h
    exact ⟨M, More.refl hh, rfl, by simp⟩
  | (i0, a) :: rest, k, R, rows, R', h, M, β, w, hh => by
    simp only [rowsOf, Option.bind_eq_some_iff] at h
    obtain ⟨⟨x, R1⟩, h1, cs, h2, h⟩ := h
    split at h <;> simp only [Option.map_eq_some_iff, Prod.mk.injEq, reduceCtorEq] at h
    rename_i hc
    obtain ⟨⟨rows', R2⟩, h3, rfl, rfl⟩ := h
    obtain ⟨rfl, hlen⟩ := hc
    obtain ⟨M1, hm1, hv1⟩ := asD_rel a R x R1 h1 M β w hh
    obtain ⟨M2, hm2, hl, hv2⟩ := rowsOf_rel sz rest (i0 + 1) R1 rows' R2 h3 M1 β w hm1.holds
    refine ⟨M2, hm1.trans hm2, by simp [hl], ?_⟩
    intro i q row v hq hrow hv
    cases i with
    | zero =>
      simp at hq hrow
      subst hq; subst hrow
      obtain ⟨e1, e2⟩ := dcells_rel (hv1 v hv) h2
      exact ⟨by simp, hlen, e1, fun j c y hc hy => (e2 j c y hc hy).mono hm2.le⟩
    | succ i =>
      simp at hq hrow
      obtain ⟨e1, e2, e3, e4⟩ := hv2 i q row v hq hrow (hv.mono hm1.le (fun _ _ => rfl))
      exact ⟨by omega, e2, e3, e4⟩

theorem fill_rows (sz : Nat) : ∀ (vals : List (Nat × Value)) (k : Nat) (init : Array Value), (∀ (i : Nat) v, vals[i]? = some v → v.1 = k + i ∧ v.2.cells.size = sz) → (k + vals.length) * sz ≤ init.size →
    ∃ us, Instr.fill (fun i => some (i * sz, sz)) init vals = some us ∧ us.size = init.size ∧ (∀ t, t < k * sz → us[t]? = init[t]?) ∧
      ∀ (i : Nat) v (j : Nat), vals[i]? = some v → j < sz → us[(k + i) * sz + j]? = v.2.cells[j]?
  | [], k, init, _, _ => ⟨init, rfl, rfl, fun _ _ => rfl, by simp⟩
  | (i0, v) :: vals, k, init, h, hsz => by
    obtain ⟨h0, h1⟩ := h 0 _ rfl
    simp only [Nat.add_zero] at h0 h1
    subst h0
    simp only [List.length_cons] at hsz
    have e1 : (i0 + (vals.length + 1)) * sz = i0 * sz + sz + vals.length * sz := by rw [Nat.add_mul, Nat.succ_mul]; omega
    have hfold : ∀ t : Nat, (v.cells.zipIdx.foldl (fun cs (x : Value × Nat) => cs.setIfInBounds (i0 * sz + x.2) x.1) init)[t]? = if i0 * sz ≤ t ∧ t < i0 * sz + v.cells.size ∧ t < init.size then v.cells[t - i0 * sz]? else init[t]? := by
      intro t
      have := foldl_cells v.cells.toList (i0 * sz) 0 init t
      simp only [Nat.add_zero, Array.length_toList, Array.getElem?_toList] at this
      rw [← this, ← Array.foldl_toList]
      simp
    have hsize : (v.cells.zipIdx.foldl (fun cs (x : Value × Nat) => cs.setIfInBounds (i0 * sz + x.2) x.1) init).size = init.size := by
      have := size_foldl v.cells.toList (i0 * sz) 0 init
      rw [← this, ← Array.foldl_toList]
      simp
    obtain ⟨us, hus, hs, hlow, hget⟩ := fill_rows sz vals (i0 + 1) _ (fun i v hv => by
      obtain ⟨a1, a2⟩ := h (i + 1) v hv
      exact ⟨by omega, a2⟩) (by rw [hsize, Nat.add_mul, Nat.succ_mul]; omega)
    refine ⟨us, ?_, hs.trans hsize, ?_, ?_⟩
    · simp only [Instr.fill]
      rw [if_neg]
      · exact hus
      · simp only [bne_iff_ne, ne_eq, gt_iff_lt, Bool.or_eq_true, decide_eq_true_eq, not_or, Decidable.not_not, Nat.not_lt]
        omega
    · intro t ht
      rw [hlow t (by rw [Nat.succ_mul]; omega), hfold, if_neg (by omega)]
    · intro i u j hu hj
      cases i with
      | zero =>
        simp at hu
        subst hu
        rw [Nat.add_zero, hlow _ (by rw [Nat.succ_mul]; omega), hfold, if_pos (by omega)]
        congr 1; omega
      | succ i =>
        simp at hu
        have := hget i u j hu hj
        rw [show i0 + (i + 1) = i0 + 1 + i from by omega]
        exact this

theorem newFrozen {M : Mem} {β : Where} {w : World} {a : Act} (hr : Rel n M β st a w) (us : Array Value) (T : TypeId) :
    Rel n (M.with w.heap.size 0 us.size (us[·]?)) β st a (w.alloc (.cells us T)) ∧ Later p M β w (M.with w.heap.size 0 us.size (us[·]?)) β (w.alloc (.cells us T)) := by
  have hh := hr.holds
  have he := Ext.alloc w (.cells us T)
  have hle : M.le (M.with w.heap.size 0 us.size (us[·]?)) := by
    intro b o x hx
    unfold Mem.with
    rw [if_neg]
    · exact hx
    · intro hc
      rw [hc.1, hh.no_mem (Nat.le_refl _)] at hx
      cases hx
  have hother : ∀ b, b < w.heap.size → ∀ o, (M.with w.heap.size 0 us.size (us[·]?)) b o = M b o := by
    intro b hb o
    unfold Mem.with
    rw [if_neg (by omega)]
  have hh' := hh.ext he
  refine ⟨⟨hr.size, hr.defers, fun t => (hr.env t).mono hle (fun _ _ => rfl), ⟨?_, ?_, hh.inj, hh'.low, hh.scope, hh'.glob⟩⟩, ⟨hle, he.size, fun b hb _ => ⟨he.heap b hb, hother b hb⟩, fun r l hl => .inl ⟨r, l, hl, rfl⟩, fun _ _ _ => rfl, he.stream⟩⟩
  · intro b o x hx
    unfold Mem.with at hx
    split at hx
    · rename_i hc
      rw [hc.1, World.cell?_alloc_new]; exact hx
    · exact hh'.frozen b o x hx
  · intro r root hroot
    have h1 := hh.root r root hroot
    have h2 := hh'.root r root hroot
    generalize hs : β r = s at h1 h2
    cases h2 with
    | dead => exact .dead _
    | virt sz lim => exact .virt sz lim
    | box b cs vals T' hw hlen hM hR =>
      have hb := hh.low r _ hs
      exact .box b cs vals T' hw hlen (fun o => by rw [hother b hb]; exact hM o) (fun i c x h1 h2 => (hR i c x h1 h2).mono hle (fun _ _ => rfl))
    | arr b o sz cap lim rows vals T' hw hcap hsize hrow hM hR =>
      have hb := hh.low r _ hs
      exact .arr b o sz cap lim rows vals T' hw hcap hsize hrow (fun k hk => by rw [hother b hb]; exact hM k hk) (fun i row j c x h1 h2 h3 => (hR i row j c x h1 h2 h3).mono hle)
    | map b mk es arr clock hw hlen hM hR =>
      have hb := hh.low r _ hs
      exact .map b mk es arr clock hw hlen (fun o => by rw [hother b hb]; exact hM o) (fun i e x h1 h2 => ⟨(hR i e x h1 h2).1, (hR i e x h1 h2).2.1, (hR i e x h1 h2).2.2.mono hle⟩)

/-- A row of values, never written again. -/
theorem OpE.buildSlice {T e len sz : Nat} {parts : Array (Nat × Operand)} {K : AV → St → Prop} (hT : P.underlying T = some (.slice e)) (hs : szOf P e = some sz) (z : Value) (hz : zeroOf P e = some z)
    (rows : List (List D)) (R' : List Root) (hp : rowsOf sz (parts.toList.map fun x => (x.1, ev st x.2)) 0 st.roots = some (rows, R')) (hlen : rows.length = len) (hsz : len * sz ≤ 16777216)
    (h : K (.d (.sl rows)) { st with roots := R' }) : OpE P n p ⟨dst, .buildSlice T len parts, ty, pos, after, gu⟩ st K := by
  refine .of_left fun M β a w hr => ?_
  obtain ⟨M1, hm1, hl1, hrows⟩ := rowsOf_rel sz _ 0 st.roots rows R' hp M β w hr.holds
  have hlp : parts.toList.length = len := by rw [← hlen, hl1]; simp
  have hvals : ∀ (i : Nat) v, (parts.toList.map fun (x : Nat × Operand) => (x.1, a.eval x.2))[i]? = some v → v.1 = 0 + i ∧ v.2.cells.size = sz := by
    intro i v hv
    simp only [List.getElem?_map, Option.map_eq_some_iff] at hv
    obtain ⟨q, hq, rfl⟩ := hv
    have hi : i < rows.length := by rw [hl1]; simpa using (List.getElem?_eq_some_iff.1 hq).1
    obtain ⟨e1, e2, e3, _⟩ := hrows i (q.1, ev st q.2) rows[i] (a.eval q.2) (by simp [List.getElem?_map, hq]) (List.getElem?_eq_getElem hi) (ev_rel hr q.2)
    exact ⟨e1, by simp only; omega⟩
  generalize hzc : (if len * sz = 0 then (#[] : Array Value) else z.cells) = zc
  obtain ⟨us, hus, hsize, _, hget⟩ := fill_rows sz _ 0 ((Array.range (len * sz)).map (zc[· % zc.size]!)) hvals (by simp [hlp])
  simp only [Array.size_map, Array.size_range] at hsize
  have hr1 := More.rel hr hm1
  obtain ⟨hr2, hl2⟩ := newFrozen (p := p) hr1 us e
  refine .val (v := .slice (some ⟨w.heap.size, 0, none⟩) len len) ?_ h (.d _ _ (.sl rows _ _ _ w.heap.size 0 (fun i j => (us[i * sz + j]?).getD undef) hlen.symm (Nat.le_refl _) (fun _ => rfl) ?_ ?_)) hr2 (hm1.later.trans hl2)
  · have hg : ¬ (16777216 < len * sz) := by omega
    have hus' : Instr.fill (fun i => some (i * sz, sz)) ((Array.range (len * sz)).map (zc[· % zc.size]!)) (parts.map fun (x : Nat × Operand) => (x.1, a.eval x.2)).toList = some us := by
      rw [← hus]; simp
    by_cases hn : len * sz = 0
    · rw [if_pos hn] at hzc
      subst hzc
      rw [hn] at hus'
      simp only [execOp, Instr.buildSlice, Sem.run_bind, run_underlying hT, Result.andThen_ok, run_sizeOf hs, hn, if_true, Sem.run_pure]
      simp only [show ¬ (0 > 2 ^ 24) from by omega, if_false, Sem.run_bind, Sem.run_pure, Result.andThen_ok, hus', newRow, run_newObj, Sem.run_map]
      rfl
    · rw [if_neg hn] at hzc
      subst hzc
      simp only [execOp, Instr.buildSlice, Sem.run_bind, run_underlying hT, Result.andThen_ok, run_sizeOf hs]
      simp only [show ¬ (len * sz > 2 ^ 24) from by omega, if_false, hn, Sem.run_bind, Sem.run_pure, Result.andThen_ok, run_zeroValue hz, hus', newRow, run_newObj, Sem.run_map]
      rfl
  · intro i row j c h1 h2
    have hi : i < rows.length := (List.getElem?_eq_some_iff.1 h1).1
    have hip : i < parts.toList.length := by omega
    have hq : parts.toList[i]? = some parts.toList[i] := List.getElem?_eq_getElem hip
    obtain ⟨e1, e2, e3, e4⟩ := hrows i (parts.toList[i].1, ev st parts.toList[i].2) row (a.eval parts.toList[i].2) (by rw [List.getElem?_map, hq]; rfl) h1 (ev_rel hr _)
    have hj : j < sz := by rw [← e2]; exact (List.getElem?_eq_some_iff.1 h2).1
    have hu := hget i (parts.toList[i].1, a.eval parts.toList[i].2) j (by rw [List.getElem?_map, hq]; rfl) hj
    simp only [Nat.zero_add] at hu
    have hjc : j < (a.eval parts.toList[i].2).cells.size := by omega
    rw [Array.getElem?_eq_getElem hjc] at hu
    simp only [Mem.with, e2, Nat.zero_add, hu, Option.getD_some]
    rw [if_pos]
    · refine ⟨trivial, by omega, ?_⟩
      rcases Nat.lt_or_ge (i * sz + j) us.size with h' | h'
      · exact h'
      · rw [Array.getElem?_eq_none h'] at hu; cases hu
  · intro i row j c h1 h2
    have hi : i < rows.length := (List.getElem?_eq_some_iff.1 h1).1
    have hip : i < parts.toList.length := by omega
    have hq : parts.toList[i]? = some parts.toList[i] := List.getElem?_eq_getElem hip
    obtain ⟨e1, e2, e3, e4⟩ := hrows i (parts.toList[i].1, ev st parts.toList[i].2) row (a.eval parts.toList[i].2) (by rw [List.getElem?_map, hq]; rfl) h1 (ev_rel hr _)
    have hj : j < sz := by rw [← e2]; exact (List.getElem?_eq_some_iff.1 h2).1
    have hu := hget i (parts.toList[i].1, a.eval parts.toList[i].2) j (by rw [List.getElem?_map, hq]; rfl) hj
    simp only [Nat.zero_add] at hu
    have hjc : j < (a.eval parts.toList[i].2).cells.size := by omega
    rw [Array.getElem?_eq_getElem hjc] at hu
    simp only [hu, Option.getD_some]
    exact (e4 j c _ h2 (Array.getElem?_eq_getElem hjc)).mono hl2.mem

end Go.Al

