/- Al: rows built, slices made. -/
import Derived.Test.YtobcdpmjaeflmaaGreatDoorAlFreeze
set_option linter.unusedVariables false
set_option linter.unusedSimpArgs false
namespace Go.Al
variable {P : Program} {n : Nat} {p : Nat → Prop} {st : St} {dst : Option Tmp} {ty : TypeId} {pos : String} {after : Array Edge} {gu : Option (Nat × Bool)}

/-- The cells of data. -/
def dcells : D → Option (List D)
  | .agg ds => some ds
  | .con (.agg vs) => some (vs.toList.map .con)
  | .con v => some [.con v]
  | .cell => some [.cell]
  | .sl rows => some [.sl rows]
  | .any => none

theorem dcells_rel {M : Mem} {x : D} {v : Value} (hr : RelF M x v) {cs : List D} (h : dcells x = some cs) :
    cs.length = v.cells.size ∧ ∀ (i : Nat) c y, cs[i]? = some c → v.cells[i]? = some y → RelF M c y := by
  have hA : cellsA (.d x) = some (cs.map .d) := by
    cases x with
    | any => simp [dcells] at h
    | cell => simp only [dcells, Option.some.injEq] at h; subst h; rfl
    | con v =>
      cases v <;> simp only [dcells, Option.some.injEq] at h <;> subst h <;> first
        | rfl
        | simp [cellsA]
    | sl rows => simp only [dcells, Option.some.injEq] at h; subst h; rfl
    | agg ds => simp only [dcells, Option.some.injEq] at h; subst h; rfl
  obtain ⟨h1, h2⟩ := cellsA_rel (M := M) (β := fun _ => .no) (.d _ _ hr) hA
  refine ⟨by simpa using h1, ?_⟩
  intro i c y hc hy
  have := h2 i (.d c) y (by simp [hc]) hy
  cases this
  assumption

def rowsOf (sz : Nat) : List (Nat × AV) → Nat → List Root → Option (List (List D) × List Root)
  | [], _, R => some ([], R)
  | (i, a) :: rest, k, R => (asD a R).bind fun x => (dcells x.1).bind fun cs =>
    if i = k ∧ cs.length = sz then (rowsOf sz rest (k + 1) x.2).map fun y => (cs :: y.1, y.2) else none

theorem rowsOf_rel (sz : Nat) : ∀ (parts : List (Nat × AV)) (k : Nat) (R : List Root) (rows : List (List D)) (R' : List Root), rowsOf sz parts k R = some (rows, R') →
    ∀ (M : Mem) (β : Where) (w : World), Holds M β R w → ∃ M', More M β R M' R' w ∧ rows.length = parts.length ∧
      ∀ (i : Nat) q row v, parts[i]? = some q → rows[i]? = some row → RelV M β q.2 v → q.1 = k + i ∧ row.length = sz ∧ row.length = v.cells.size ∧
        ∀ (j : Nat) c y, row[j]? = some c → v.cells[j]? = some y → RelF M' c y
  | [], k, R, rows, R', h, M, β, w, hh => by
    simp only [rowsOf, Option.some.injEq, Prod.mk.injEq] at h
    obtain ⟨rfl, rfl⟩ := h
    exact ⟨M, More.refl hh, rfl, by simp⟩
  | (i0, a) :: rest, k, R, rows, R', h, M, β, w, hh => by
    simp only [rowsOf, Option.bind_eq_some_iff] at h
    obtain ⟨⟨x, R1⟩, h1, cs, h2, h⟩ := h
    split at h <;> simp only [Option.map_eq_some_iff, Prod.mk.injEq, reduceCtorEq] at h
    rename_i hc
    obtain ⟨⟨rows', R2⟩, h3, rfl, rfl⟩ := h
    obtain ⟨rfl, hlen⟩ := hc
    obtain ⟨M1, hm1, hv1⟩ := asD_rel a R x R1 h1 M β w hh
    obtain ⟨M2, hm2, hl, hv2⟩ := rowsOf_rel sz rest (i0 + 1) R1 rows' R2 h3 M1 β w hm1.holds
    refine ⟨M2, hm1.trans hm2, by simp [hl], ?_⟩
    intro i q row v hq hrow hv
    cases i with
    | zero =>
      simp at hq hrow
      subst hq; subst hrow
      obtain ⟨e1, e2⟩ := dcells_rel (hv1 v hv) h2
      exact ⟨by simp, hlen, e1, fun j c y hc hy => (e2 j c y hc hy).mono hm2.le⟩
    | succ i =>
      simp at hq hrow
      obtain ⟨e1, e2, e3, e4⟩ := hv2 i q row v hq hrow (hv.mono hm1.le (fun _ _ => rfl))
      exact ⟨by omega, e2, e3, e4⟩

theorem fill_rows (sz : Nat) : ∀ (vals : List (Nat × Value)) (k : Nat) (init : Array Value), (∀ (i : Nat) v, vals[i]? = some v → v.1 = k + i ∧ v.2.cells.size = sz) → (k + vals.length) * sz ≤ init.size →
    ∃ us, Instr.fill (fun i => some (i * sz, sz)) init vals = some us ∧ us.size = init.size ∧ (∀ t, t < k * sz → us[t]? = init[t]?) ∧
      ∀ (i : Nat) v (j : Nat), vals[i]? = some v → j < sz → us[(k + i) * sz + j]? = v.2.cells[j]?
  | [], k, init, _, _ => ⟨init, rfl, rfl, fun _ _ => rfl, by simp⟩
  | (i0, v) :: vals, k, init, h, hsz => by
    obtain ⟨h0, h1⟩ := h 0 _ rfl
    simp only [Nat.add_zero] at h0 h1
    subst h0
    simp only [List.length_cons] at hsz
    have e1 : (i0 + (vals.length + 1)) * sz = i0 * sz + sz + vals.length * sz := by rw [Nat.add_mul, Nat.succ_mul]; omega
    have hfold : ∀ t : Nat, (v.cells.zipIdx.foldl (fun cs (x : Value × Nat) => cs.setIfInBounds (i0 * sz + x.2) x.1) init)[t]? = if i0 * sz ≤ t ∧ t < i0 * sz + v.cells.size ∧ t < init.size then v.cells[t - i0 * sz]? else init[t]? := by
      intro t
      have := foldl_cells v.cells.toList (i0 * sz) 0 init t
      simp only [Nat.add_zero, Array.length_toList, Array.getElem?_toList] at this
      rw [← this, ← Array.foldl_toList]
      simp
    have hsize : (v.cells.zipIdx.foldl (fun cs (x : Value × Nat) => cs.setIfInBounds (i0 * sz + x.2) x.1) init).size = init.size := by
      have := size_foldl v.cells.toList (i0 * sz) 0 init
      rw [← this, ← Array.foldl_toList]
      simp
    obtain ⟨us, hus, hs, hlow, hget⟩ := fill_rows sz vals (i0 + 1) _ (fun i v hv => by
      obtain ⟨a1, a2⟩ := h (i + 1) v hv
      exact ⟨by omega, a2⟩) (by rw [hsize, Nat.add_mul, Nat.succ_mul]; omega)
    refine ⟨us, ?_, hs.trans hsize, ?_, ?_⟩
    · simp only [Instr.fill]
      rw [if_neg]
      · exact hus
      · simp only [bne_iff_ne, ne_eq, gt_iff_lt, Bool.or_eq_true, decide_eq_true_eq, not_or, Decidable.not_not, Nat.not_lt]
        omega
    · intro t ht
      rw [hlow t (by rw [Nat.succ_mul]; omega), hfold, if_neg (by omega)]
    · intro i u j hu hj
      cases i with
      | zero =>
        simp at hu
        subst hu
        rw [Nat.add_zero, hlow _ (by rw [Nat.succ_mul]; omega), hfold, if_pos (by omega)]
        congr 1; omega
      | succ i =>
        simp at hu
        have := hget i u j hu hj
        rw [show i0 + (i + 1) = i0 + 1 + i from by omega]
        exact this

theorem newFrozen {M : Mem} {β : Where} {w : World} {a : Act} (hr : Rel n M β st a w) (us : Array Value) (T : TypeId) :
    Rel n (M.with w.heap.size 0 us.size (us[·]?)) β st a (w.alloc (.cells us T)) ∧ Later p M β w (M.with w.heap.size 0 us.size (us[·]?)) β (w.alloc (.cells us T)) := by
  have hh := hr.holds
  have he := Ext.alloc w (.cells us T)
  have hle : M.le (M.with w.heap.size 0 us.size (us[·]?)) := by
    intro b o x hx
    unfold Mem.with
    rw [if_neg]
    · exact hx
    · intro hc
      rw [hc.1, hh.no_mem (Nat.le_refl _)] at hx
      cases hx
  have hother : ∀ b, b < w.heap.size → ∀ o, (M.with w.heap.size 0 us.size (us[·]?)) b o = M b o := by
    intro b hb o
    unfold Mem.with
    rw [if_neg (by omega)]
  have hh' := hh.ext he
  refine ⟨⟨hr.size, hr.defers, fun t => (hr.env t).mono hle (fun _ _ => rfl), ⟨?_, ?_, hh.inj, hh'.low, hh.scope, hh'.glob⟩⟩, ⟨hle, he.size, fun b hb _ => ⟨he.heap b hb, hother b hb⟩, fun r l hl => .inl ⟨r, l, hl, rfl⟩, fun _ _ _ => rfl, he.stream⟩⟩
  · intro b o x hx
    unfold Mem.with at hx
    split at hx
    · rename_i hc
      rw [hc.1, World.cell?_alloc_new]; exact hx
    · exact hh'.frozen b o x hx
  · intro r root hroot
    have h1 := hh.root r root hroot
    have h2 := hh'.root r root hroot
    generalize hs : β r = s at h1 h2
    cases h2 with
    | dead => exact .dead _
    | virt sz lim => exact .virt sz lim
    | box b cs vals T' hw hlen hM hR =>
      have hb := hh.low r _ hs
      exact .box b cs vals T' hw hlen (fun o => by rw [hother b hb]; exact hM o) (fun i c x h1 h2 => (hR i c x h1 h2).mono hle (fun _ _ => rfl))
    | arr b o sz cap lim rows vals T' hw hcap hsize hrow hM hR =>
      have hb := hh.low r _ hs
      exact .arr b o sz cap lim rows vals T' hw hcap hsize hrow (fun k hk => by rw [hother b hb]; exact hM k hk) (fun i row j c x h1 h2 h3 => (hR i row j c x h1 h2 h3).mono hle)
    | map b mk es arr clock hw hlen hM hR =>
      have hb := hh.low r _ hs
      exact .map b mk es arr clock hw hlen (fun o => by rw [hother b hb]; exact hM o) (fun i e x h1 h2 => ⟨(hR i e x h1 h2).1, (hR i e x h1 h2).2.1, (hR i e x h1 h2).2.2.mono hle⟩)

/-- A row of values, never written again. -/
theorem OpE.buildSlice {T e len sz : Nat} {parts : Array (Nat × Operand)} {K : AV → St → Prop} (hT : P.underlying T = some (.slice e)) (hs : szOf P e = some sz) (z : Value) (hz : zeroOf P e = some z)
    (rows : List (List D)) (R' : List Root) (hp : rowsOf sz (parts.toList.map fun x => (x.1, ev st x.2)) 0 st.roots = some (rows, R')) (hlen : rows.length = len) (hsz : len * sz ≤ 16777216)
    (h : K (.d (.sl rows)) { st with roots := R' }) : OpE P n p ⟨dst, .buildSlice T len parts, ty, pos, after, gu⟩ st K := by
  refine .of_left fun M β a w hr => ?_
  obtain ⟨M1, hm1, hl1, hrows⟩ := rowsOf_rel sz _ 0 st.roots rows R' hp M β w hr.holds
  have hlp : parts.toList.length = len := by rw [← hlen, hl1]; simp
  have hvals : ∀ (i : Nat) v, (parts.toList.map fun (x : Nat × Operand) => (x.1, a.eval x.2))[i]? = some v → v.1 = 0 + i ∧ v.2.cells.size = sz := by
    intro i v hv
    simp only [List.getElem?_map, Option.map_eq_some_iff] at hv
    obtain ⟨q, hq, rfl⟩ := hv
    have hi : i < rows.length := by rw [hl1]; simpa using (List.getElem?_eq_some_iff.1 hq).1
    obtain ⟨e1, e2, e3, _⟩ := hrows i (q.1, ev st q.2) rows[i] (a.eval q.2) (by simp [List.getElem?_map, hq]) (List.getElem?_eq_getElem hi) (ev_rel hr q.2)
    exact ⟨e1, by simp only; omega⟩
  generalize hzc : (if len * sz = 0 then (#[] : Array Value) else z.cells) = zc
  obtain ⟨us, hus, hsize, _, hget⟩ := fill_rows sz _ 0 ((Array.range (len * sz)).map (zc[· % zc.size]!)) hvals (by simp [hlp])
  simp only [Array.size_map, Array.size_range] at hsize
  have hr1 := More.rel hr hm1
  obtain ⟨hr2, hl2⟩ := newFrozen (p := p) hr1 us e
  refine .val (v := .slice (some ⟨w.heap.size, 0, none⟩) len len) ?_ h (.d _ _ (.sl rows _ _ _ w.heap.size 0 (fun i j => (us[i * sz + j]?).getD undef) hlen.symm (Nat.le_refl _) (fun _ => rfl) ?_ ?_)) hr2 (hm1.later.trans hl2)
  · have hg : ¬ (16777216 < len * sz) := by omega
    have hus' : Instr.fill (fun i => some (i * sz, sz)) ((Array.range (len * sz)).map (zc[· % zc.size]!)) (parts.map fun (x : Nat × Operand) => (x.1, a.eval x.2)).toList = some us := by
      rw [← hus]; simp
    by_cases hn : len * sz = 0
    · rw [if_pos hn] at hzc
      subst hzc
      rw [hn] at hus'
      simp only [execOp, Instr.buildSlice, Sem.run_bind, run_underlying hT, Result.andThen_ok, run_sizeOf hs, hn, if_true, Sem.run_pure]
      simp only [show ¬ (0 > 2 ^ 24) from by omega, if_false, Sem.run_bind, Sem.run_pure, Result.andThen_ok, hus', newRow, run_newObj, Sem.run_map]
      rfl
    · rw [if_neg hn] at hzc
      subst hzc
      simp only [execOp, Instr.buildSlice, Sem.run_bind, run_underlying hT, Result.andThen_ok, run_sizeOf hs]
      simp only [show ¬ (len * sz > 2 ^ 24) from by omega, if_false, hn, Sem.run_bind, Sem.run_pure, Result.andThen_ok, run_zeroValue hz, hus', newRow, run_newObj, Sem.run_map]
      rfl
  · intro i row j c h1 h2
    have hi : i < rows.length := (List.getElem?_eq_some_iff.1 h1).1
    have hip : i < parts.toList.length := by omega
    have hq : parts.toList[i]? = some parts.toList[i] := List.getElem?_eq_getElem hip
    obtain ⟨e1, e2, e3, e4⟩ := hrows i (parts.toList[i].1, ev st parts.toList[i].2) row (a.eval parts.toList[i].2) (by rw [List.getElem?_map, hq]; rfl) h1 (ev_rel hr _)
    have hj : j < sz := by rw [← e2]; exact (List.getElem?_eq_some_iff.1 h2).1
    have hu := hget i (parts.toList[i].1, a.eval parts.toList[i].2) j (by rw [List.getElem?_map, hq]; rfl) hj
    simp only [Nat.zero_add] at hu
    have hjc : j < (a.eval parts.toList[i].2).cells.size := by omega
    rw [Array.getElem?_eq_getElem hjc] at hu
    simp only [Mem.with, e2, Nat.zero_add, hu, Option.getD_some]
    rw [if_pos]
    · refine ⟨trivial, by omega, ?_⟩
      rcases Nat.lt_or_ge (i * sz + j) us.size with h' | h'
      · exact h'
      · rw [Array.getElem?_eq_none h'] at hu; cases hu
  · intro i row j c h1 h2
    have hi : i < rows.length := (List.getElem?_eq_some_iff.1 h1).1
    have hip : i < parts.toList.length := by omega
    have hq : parts.toList[i]? = some parts.toList[i] := List.getElem?_eq_getElem hip
    obtain ⟨e1, e2, e3, e4⟩ := hrows i (parts.toList[i].1, ev st parts.toList[i].2) row (a.eval parts.toList[i].2) (by rw [List.getElem?_map, hq]; rfl) h1 (ev_rel hr _)
    have hj : j < sz := by rw [← e2]; exact (List.getElem?_eq_some_iff.1 h2).1
    have hu := hget i (parts.toList[i].1, a.eval parts.toList[i].2) j (by rw [List.getElem?_map, hq]; rfl) hj
    simp only [Nat.zero_add] at hu
    have hjc : j < (a.eval parts.toList[i].2).cells.size := by omega
    rw [Array.getElem?_eq_getElem hjc] at hu
    simp only [hu, Option.getD_some]
    exact (e4 j c _ h2 (Array.getElem?_eq_getElem hjc)).mono hl2.mem

end Go.Al
