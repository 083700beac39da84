/- Al: operations that make memory: boxes, structs, rows. -/
import Derived.Test.YtobcdpmjaeflmaaGreatDoorAlLook2
set_option linter.unusedVariables false
set_option linter.unusedSimpArgs false
namespace Go.Al
variable {P : Program} {n : Nat} {p : Nat → Prop} {st : St} {dst : Option Tmp} {ty : TypeId} {pos : String} {after : Array Edge} {gu : Option (Nat × Bool)}

theorem Ext.trans {w w1 w2 : World} (h : Ext w w1) (h' : Ext w1 w2) : Ext w w2 :=
  ⟨Nat.le_trans h.size h'.size, fun b hb => (h'.heap b (Nat.lt_of_lt_of_le hb h.size)).trans (h.heap b hb), h'.stream.1.trans h.stream.1, h'.stream.2.1.trans h.stream.2.1, h'.stream.2.2.trans h.stream.2.2⟩

theorem Ext.alloc (w : World) (o : Obj) : Ext w (w.alloc o) := by
  refine ⟨by simp, fun b hb => ?_, rfl, rfl, rfl⟩
  simp only [World.alloc, Array.getElem?_push, Nat.ne_of_lt hb, if_false]

theorem lt_of_heap {w : World} {b : Nat} {o : Obj} (h : w.heap[b]? = some o) : b < w.heap.size := by
  rcases Nat.lt_or_ge b w.heap.size with h' | h'
  · exact h'
  · simp [Array.getElem?_eq_none h'] at h

theorem RelR.ext {M : Mem} {β : Where} {w w' : World} (he : Ext w w') {s : Slot} {root : Root} (h : RelR M β w s root) : RelR M β w' s root := by
  cases h with
  | dead => exact .dead _
  | virt sz lim => exact .virt sz lim
  | box b cs vals T hw hlen hM hR => exact .box b cs vals T (by rw [he.heap b (lt_of_heap hw)]; exact hw) hlen hM hR
  | arr b o sz cap lim rows vals T hw hcap hsize hrow hM hR => exact .arr b o sz cap lim rows vals T (by rw [he.heap b (lt_of_heap hw)]; exact hw) hcap hsize hrow hM hR
  | map b mk es arr clock hw hlen hM hR => exact .map b mk es arr clock (by rw [he.heap b (lt_of_heap hw)]; exact hw) hlen hM hR

theorem RelR.mono {M : Mem} {β β' : Where} {w : World} (hβ : ∀ r, β r ≠ .no → β' r = β r) {s : Slot} {root : Root} (h : RelR M β w s root) : RelR M β' w s root := by
  cases h with
  | dead => exact .dead _
  | virt sz lim => exact .virt sz lim
  | box b cs vals T hw hlen hM hR => exact .box b cs vals T hw hlen hM (fun i c x h1 h2 => (hR i c x h1 h2).mono (fun _ _ _ h => h) hβ)
  | arr b o sz cap lim rows vals T hw hcap hsize hrow hM hR => exact .arr b o sz cap lim rows vals T hw hcap hsize hrow hM hR
  | map b mk es arr clock hw hlen hM hR => exact .map b mk es arr clock hw hlen hM hR

theorem Holds.ext {M : Mem} {β : Where} {roots : List Root} {w w' : World} (he : Ext w w') (h : Holds M β roots w) : Holds M β roots w' :=
  ⟨fun b o x hm => he.cell (h.frozen b o x hm), fun r root hr => (h.root r root hr).ext he, h.inj, fun r l hl => Nat.lt_of_lt_of_le (h.low r l hl) he.size, h.scope,
    h.glob.step he.size (fun b hb _ => he.heap b hb) (fun r l hl => .inl ⟨r, l, hl, rfl⟩)⟩

theorem Holds.no_mem {M : Mem} {β : Where} {roots : List Root} {w : World} (h : Holds M β roots w) {b : Nat} (hb : w.heap.size ≤ b) (o : Nat) : M b o = none := by
  cases hm : M b o with
  | none => rfl
  | some x =>
    have := World.block_lt_of_cell? w _ (h.frozen b o x hm)
    simp only at this
    omega

/-- One root more. -/
def addW (β : Where) (k : Nat) (s : Slot) : Where := fun r => if r = k then s else β r

theorem addW_same {M : Mem} {β : Where} {roots : List Root} {w : World} (h : Holds M β roots w) (s : Slot) : ∀ r, β r ≠ .no → addW β roots.length s r = β r := by
  intro r hr
  have := h.scope r hr
  simp [addW, Nat.ne_of_lt this]

theorem Holds.add {M : Mem} {β : Where} {roots : List Root} {w w' : World} (h : Holds M β roots w) (he : Ext w w') (s : Slot) (root : Root)
    (hs : ∀ l, s = .at l → w.heap.size ≤ l.b ∧ l.b < w'.heap.size) (hr : RelR M (addW β roots.length s) w' s root) :
    Holds M (addW β roots.length s) (roots ++ [root]) w' := by
  have h' := h.ext he
  refine ⟨h'.frozen, ?_, ?_, ?_, ?_, h.glob.step he.size (fun b hb _ => he.heap b hb) (fun r l hl => by
    simp only [addW] at hl
    split at hl
    · exact .inr (hs l hl).1
    · exact .inl ⟨r, l, hl, rfl⟩)⟩
  · intro r rt hrt
    by_cases hk : r = roots.length
    · subst hk
      simp at hrt
      subst hrt
      simpa [addW] using hr
    · have hlt : r < roots.length := by
        have := (List.getElem?_eq_some_iff.1 hrt).1
        simp at this; omega
      rw [List.getElem?_append_left hlt] at hrt
      simp only [addW, if_neg hk]
      exact (h'.root r rt hrt).mono (addW_same h s)
  · intro r r' l l' hl hl' hb
    simp only [addW] at hl hl'
    split at hl <;> split at hl'
    · omega
    · have := (hs l hl).1
      have := h.low _ _ hl'
      omega
    · have := (hs l' hl').1
      have := h.low _ _ hl
      omega
    · exact h.inj r r' l l' hl hl' hb
  · intro r l hl
    simp only [addW] at hl
    split at hl
    · exact (hs l hl).2
    · exact h'.low r l hl
  · intro r hr
    simp only [addW] at hr
    split at hr
    · simp; omega
    · have := h.scope r hr
      simp; omega

theorem Later.add {M M' : Mem} {β : Where} {roots : List Root} {w w' : World} (h : Holds M β roots w) (he : Ext w w') (s : Slot)
    (hs : ∀ l, s = .at l → w.heap.size ≤ l.b) (hM : M.le M') (hM' : ∀ b, b < w.heap.size → ∀ o, M' b o = M b o) : Later p M β w M' (addW β roots.length s) w' := by
  refine ⟨hM, he.size, fun b hb _ => ⟨he.heap b hb, hM' b hb⟩, ?_, fun r _ hr => addW_same h s r hr, he.stream⟩
  intro r' l' hl
  simp only [addW] at hl
  split at hl
  · exact .inr (hs l' hl)
  · exact .inl ⟨r', l', hl, rfl⟩

/-- The cells of a value. -/
def cellsA : AV → Option (List AV)
  | .agg cs => some cs
  | .d (.agg ds) => some (ds.map .d)
  | .d (.con (.agg vs)) => some (vs.toList.map fun v => .d (.con v))
  | .d (.con v) => some [.d (.con v)]
  | .d .cell => some [.d .cell]
  | .d (.sl rows) => some [.d (.sl rows)]
  | .vs r off len => some [.vs r off len]
  | .ptr r i off => some [.ptr r i off]
  | .fptr row off => some [.fptr row off]
  | .fn f cs => some [.fn f cs]
  | .mp r => some [.mp r]
  | _ => none

theorem cellsA_rel {M : Mem} {β : Where} {a : AV} {v : Value} (hr : RelV M β a v) {cs : List AV} (h : cellsA a = some cs) :
    cs.length = v.cells.size ∧ ∀ (i : Nat) c x, cs[i]? = some c → v.cells[i]? = some x → RelV M β c x := by
  have one : ∀ (a : AV) (v : Value), RelV M β a v → v.cells = #[v] → [a].length = v.cells.size ∧ ∀ (i : Nat) c x, [a][i]? = some c → v.cells[i]? = some x → RelV M β c x := by
    intro a v hr hv
    rw [hv]
    refine ⟨rfl, ?_⟩
    intro i c x h1 h2
    cases i with
    | zero => simp at h1 h2; subst h1; subst h2; exact hr
    | succ i => simp at h1
  cases hr with
  | d x v hf =>
    cases hf with
    | any => simp [cellsA] at h
    | cell v hv =>
      simp only [cellsA, Option.some.injEq] at h
      subst h
      refine one _ _ (.d _ _ (.cell _ hv)) ?_
      cases v <;> first | rfl | simp [Value.oneCell'] at hv
    | con v =>
      cases v <;> simp only [cellsA, Option.some.injEq] at h <;> subst h <;> first
        | exact one _ _ (.d _ _ (.con _)) rfl
        | skip
      rename_i us
      refine ⟨by simp [Value.cells], ?_⟩
      intro i c x h1 h2
      simp only [Value.cells] at h2
      simp only [List.getElem?_map, Option.map_eq_some_iff, Array.getElem?_toList] at h1
      obtain ⟨u, hu, rfl⟩ := h1
      rw [h2] at hu
      cases hu
      exact .d _ _ (.con _)
    | sl rows ad len cap b o f h1 h2 h3 h4 h5 =>
      simp only [cellsA, Option.some.injEq] at h
      subst h
      exact one _ _ (.d _ _ (.sl rows ad len cap b o f h1 h2 h3 h4 h5)) rfl
    | agg ds vs hlen hR =>
      simp only [cellsA, Option.some.injEq] at h
      subst h
      refine ⟨by simpa [Value.cells] using hlen, ?_⟩
      intro i c x h1 h2
      simp only [List.getElem?_map, Option.map_eq_some_iff] at h1
      obtain ⟨d, hd, rfl⟩ := h1
      exact .d _ _ (hR i d x hd h2)
  | vs r off len l hb hl => simp only [cellsA, Option.some.injEq] at h; subst h; exact one _ _ (.vs r off len l hb hl) rfl
  | vsE r off ad l hb ho => simp only [cellsA, Option.some.injEq] at h; subst h; exact one _ _ (.vsE r off ad l hb ho) rfl
  | vsV r ad hb => simp only [cellsA, Option.some.injEq] at h; subst h; exact one _ _ (.vsV r ad hb) rfl
  | ptr r i off l hb => simp only [cellsA, Option.some.injEq] at h; subst h; exact one _ _ (.ptr r i off l hb) rfl
  | fptr row off b o f hM hR => simp only [cellsA, Option.some.injEq] at h; subst h; exact one _ _ (.fptr row off b o f hM hR) rfl
  | fn f caps vs hlen hR => simp only [cellsA, Option.some.injEq] at h; subst h; exact one _ _ (.fn f caps vs hlen hR) rfl
  | agg cs' vs hlen hR => simp only [cellsA, Option.some.injEq] at h; subst h; exact ⟨hlen, hR⟩
  | mp r l hb => simp only [cellsA, Option.some.injEq] at h; subst h; exact one _ _ (.mp r l hb) rfl
  | tup => simp [cellsA] at h
  | gd => simp [cellsA] at h

/-- What an operation leaves. -/
inductive Left (P : Program) (n : Nat) (p : Nat → Prop) (M : Mem) (β : Where) (a : Act) (w : World) (o : Oper) (K : AV → St → Prop) : Prop where
  | val {v : Value} {w' : World} {x : AV} {st' : St} {M' : Mem} {β' : Where} (hrun : (execOp a.eval o).run P w = .ok (.value v) w') (hk : K x st') (hx : RelV M' β' x v)
      (hr : Rel n M' β' st' a w') (hl : Later p M β w M' β' w') : Left P n p M β a w o K
  | skip {w' : World} {x : AV} {st' : St} {M' : Mem} {β' : Where} (hrun : (execOp a.eval o).run P w = .ok .skip w') (hk : K x st') (hx : RelV M' β' x undef)
      (hr : Rel n M' β' st' a w') (hl : Later p M β w M' β' w') : Left P n p M β a w o K

theorem OpE.of_left {o : Oper} {K : AV → St → Prop} (h : ∀ M β a w, Rel n M β st a w → Left P n p M β a w o K) : OpE P n p o st K := by
  intro M β a w hr
  cases h M β a w hr with
  | val hrun hk hx hr hl => exact ⟨_, _, _, _, _, _, _, hrun, rfl, hk, hx, hr, hl⟩
  | skip hrun hk hx hr hl => exact ⟨_, _, _, _, _, _, _, hrun, rfl, hk, hx, hr, hl⟩

/-- A new box. -/
theorem newBox {M : Mem} {β : Where} {w : World} {a : Act} (hr : Rel n M β st a w) (x : AV) (v : Value) (hx : RelV M β x v) (cs : List AV) (hcs : cellsA x = some cs) (T : TypeId) :
    RelV M (addW β st.roots.length (.at ⟨w.heap.size, 0, cs.length, 1⟩)) (.ptr st.roots.length 0 0) (.pointer (some ⟨w.heap.size, 0, none⟩)) ∧
    Rel n M (addW β st.roots.length (.at ⟨w.heap.size, 0, cs.length, 1⟩)) { st with roots := st.roots ++ [.box cs] } a (w.alloc (.cells v.cells T)) ∧
    Later p M β w M (addW β st.roots.length (.at ⟨w.heap.size, 0, cs.length, 1⟩)) (w.alloc (.cells v.cells T)) := by
  obtain ⟨hlen, hR⟩ := cellsA_rel hx hcs
  have he := Ext.alloc w (.cells v.cells T)
  have hsame := addW_same hr.holds (.at ⟨w.heap.size, 0, cs.length, 1⟩)
  refine ⟨?_, ⟨hr.size, hr.defers, fun t => (hr.env t).mono (fun _ _ _ h => h) hsame, ?_⟩, ?_⟩
  · have := RelV.ptr (M := M) (β := addW β st.roots.length (.at ⟨w.heap.size, 0, cs.length, 1⟩)) st.roots.length 0 0 ⟨w.heap.size, 0, cs.length, 1⟩ (by simp [addW])
    simpa using this
  · refine hr.holds.add he _ _ (by intro l hl; cases hl; simp) ?_
    refine .box w.heap.size cs v.cells T (by simp only [World.alloc, Array.getElem?_push, if_true]) hlen (fun o => hr.holds.no_mem (Nat.le_refl _) o) ?_
    intro i c x h1 h2
    exact (hR i c x h1 h2).mono (fun _ _ _ h => h) hsame
  · exact Later.add hr.holds he _ (by intro l hl; cases hl; simp) (fun _ _ _ h => h) (fun _ _ _ => rfl)

theorem OpE.box {T : TypeId} {x : Operand} {K : AV → St → Prop} (cs : List AV) (hcs : cellsA (ev st x) = some cs)
    (h : K (.ptr st.roots.length 0 0) { st with roots := st.roots ++ [.box cs] }) : OpE P n p ⟨dst, .box T x, ty, pos, after, gu⟩ st K := by
  refine .of_left fun M β a w hr => ?_
  obtain ⟨h1, h2, h3⟩ := newBox (p := p) hr _ _ (ev_rel hr x) cs hcs T
  exact .val (by simp [execOp, Instr.box, newVar, newRow]) h h1 h2 h3

def zeroOf (P : Program) (T : TypeId) : Option Value := (P.info? T).bind (·.zero)

theorem run_zeroValue {T : Nat} {z : Value} (h : zeroOf P T = some z) (w : World) : (zeroValue T).run P w = .ok z w := by
  unfold zeroOf at h
  simp only [Option.bind_eq_some_iff] at h
  obtain ⟨i, hi, hz⟩ := h
  simp [zeroValue, typeInfo, hi, hz]

theorem OpE.alloc {T : TypeId} {K : AV → St → Prop} (z : Value) (hz : zeroOf P T = some z) (cs : List AV) (hcs : cellsA (.d (.con z)) = some cs)
    (h : K (.ptr st.roots.length 0 0) { st with roots := st.roots ++ [.box cs] }) : OpE P n p ⟨dst, .alloc T, ty, pos, after, gu⟩ st K := by
  refine .of_left fun M β a w hr => ?_
  obtain ⟨h1, h2, h3⟩ := newBox (p := p) hr (.d (.con z)) z (.d _ _ (.con z)) cs hcs T
  exact .val (by simp [execOp, Instr.alloc, newVar, newRow, run_zeroValue hz]) h h1 h2 h3

end Go.Al
