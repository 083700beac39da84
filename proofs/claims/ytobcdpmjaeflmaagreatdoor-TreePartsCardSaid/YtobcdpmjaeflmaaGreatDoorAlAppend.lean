/- Al: append. -/
import Derived.Test.YtobcdpmjaeflmaaGreatDoorAlWrite2
set_option linter.unusedVariables false
set_option linter.unusedSimpArgs false
namespace Go.Al
variable {P : Program} {n : Nat} {p : Nat → Prop} {st : St} {dst : Option Tmp} {ty : TypeId} {pos : String} {after : Array Edge} {gu : Option (Nat × Bool)}

/-- The rows that a source of an append says. -/
def srcRows (st : St) : AV → Option (List (List D))
  | .d (.sl rows) => some rows
  | .d (.con (.slice none 0 0)) => some []
  | .vs r off len => match st.roots[r]? with
    | some (.arr _ rows _) => if off + len ≤ rows.length then some ((rows.drop off).take len) else none
    | _ => none
  | _ => none

theorem src_of {M : Mem} {w : World} {sz : Nat} {tx e' : TypeId} (hk : P.underlying tx = some (.slice e')) (rows : List (List D)) (hrow : ∀ row, row ∈ rows → row.length = sz ∧ ∀ c, c ∈ row → oneD c = true)
    (ad : Option Addr) (cap b o : Nat) (g : Nat → Nat → Value) (had : rows ≠ [] → ad = some ⟨b, o, none⟩)
    (hcell : ∀ (i : Nat) row (j : Nat) c, rows[i]? = some row → row[j]? = some c → w.cell? ⟨b, o + i * sz + j, none⟩ = some (g i j) ∧ RelF M c (g i j)) :
    ∃ news, Src P sz tx (.slice ad rows.length cap) rows.length news w ∧ ∀ (i : Nat) row (j : Nat) c, rows[i]? = some row → row[j]? = some c → ∃ x, news[i * sz + j]? = some x ∧ RelF M c x := by
  by_cases hne : rows = []
  · subst hne
    refine ⟨[], ?_, by simp⟩
    cases ad with
    | none => exact Src.ofNil w hk cap
    | some a => exact Src.ofSlice w hk a 0 cap [] (by simp) (by simp) (by simp)
  · have had := had hne
    subst had
    have hget : ∀ t, t < rows.length * sz → ∃ row c, rows[t / sz]? = some row ∧ row[t % sz]? = some c ∧ row ∈ rows ∧ c ∈ row := by
      intro t ht
      have hsz : 0 < sz := by
        rcases Nat.eq_zero_or_pos sz with h | h
        · subst h; simp at ht
        · exact h
      have h1 : t / sz < rows.length := (Nat.div_lt_iff_lt_mul hsz).2 ht
      have h2 : t % sz < sz := Nat.mod_lt _ hsz
      have h3 := (hrow _ (List.getElem_mem h1)).1
      refine ⟨rows[t / sz], (rows[t / sz])[t % sz]'(by omega), List.getElem?_eq_getElem h1, List.getElem?_eq_getElem (by omega), List.getElem_mem h1, List.getElem_mem _⟩
    have hdm : ∀ t, t / sz * sz + t % sz = t := fun t => by rw [Nat.mul_comm]; exact Nat.div_add_mod t sz
    refine ⟨(List.range (rows.length * sz)).map fun t => g (t / sz) (t % sz), ?_, ?_⟩
    · refine Src.ofSlice w hk ⟨b, o, none⟩ rows.length cap _ (by simp) ?_ ?_
      · intro t u hu
        simp only [List.getElem?_map, Option.map_eq_some_iff] at hu
        obtain ⟨t', ht', rfl⟩ := hu
        obtain ⟨htl, ht'⟩ := List.getElem?_eq_some_iff.1 ht'
        simp at htl ht'
        subst ht'
        obtain ⟨row, c, h1, h2, _, _⟩ := hget t htl
        rw [Addr.add_lit, ← (hcell _ row _ c h1 h2).1, Nat.add_assoc, hdm]
      · intro u hu
        simp only [List.mem_map, List.mem_range] at hu
        obtain ⟨t, ht, rfl⟩ := hu
        obtain ⟨row, c, h1, h2, h3, h4⟩ := hget t ht
        exact oneD_rel (hcell _ row _ c h1 h2).2 ((hrow row h3).2 c h4)
    · intro i row j c h1 h2
      have hi : i < rows.length := (List.getElem?_eq_some_iff.1 h1).1
      have hl := (hrow row (List.mem_of_getElem? h1)).1
      have hj : j < sz := by rw [← hl]; exact (List.getElem?_eq_some_iff.1 h2).1
      have hlt : i * sz + j < rows.length * sz := by
        have := Nat.mul_le_mul_right sz (show i + 1 ≤ rows.length from hi)
        rw [Nat.succ_mul] at this
        omega
      refine ⟨g i j, ?_, (hcell i row j c h1 h2).2⟩
      simp only [List.getElem?_map]
      rw [List.getElem?_eq_getElem (by simpa using hlt)]
      have e1 : (i * sz + j) / sz = i := by
        rw [Nat.mul_comm, Nat.mul_add_div (by omega), Nat.div_eq_of_lt hj]; rfl
      have e2 : (i * sz + j) % sz = j := by
        rw [Nat.mul_comm, Nat.mul_add_mod, Nat.mod_eq_of_lt hj]
      simp [e1, e2]

theorem src_rel {M : Mem} {β : Where} {a : Act} {w : World} (hr : Rel n M β st a w) {sz : Nat} {tx e' : TypeId} (hk : P.underlying tx = some (.slice e')) (x : AV) (v : Value) (hx : RelV M β x v) (rows : List (List D))
    (hs : srcRows st x = some rows) (hrow : ∀ row, row ∈ rows → row.length = sz ∧ ∀ c, c ∈ row → oneD c = true) :
    ∃ news, Src P sz tx v rows.length news w ∧ ∀ (i : Nat) row (j : Nat) c, rows[i]? = some row → row[j]? = some c → ∃ x, news[i * sz + j]? = some x ∧ RelF M c x := by
  cases hx with
  | d y _ hy =>
    cases hy with
    | any => simp [srcRows] at hs
    | cell => simp [srcRows] at hs
    | agg => simp [srcRows] at hs
    | con =>
      unfold srcRows at hs
      split at hs
      · rename_i h; cases h
      · rename_i h; cases h
        simp only [Option.some.injEq] at hs
        subst hs
        exact ⟨[], Src.ofNil w hk 0, by simp⟩
      · rename_i h; cases h
      · cases hs
    | sl rows' ad len cap b o f hlen hcap had hM hR =>
      simp only [srcRows, Option.some.injEq] at hs
      subst hs; subst hlen
      refine src_of hk _ hrow ad cap b o f had ?_
      intro i row j c h1 h2
      have := hM i row j c h1 h2
      rw [(hrow row (List.mem_of_getElem? h1)).1] at this
      exact ⟨hr.holds.frozen _ _ _ this, hR i row j c h1 h2⟩
  | vs r off len l hb hl =>
    simp only [srcRows] at hs
    split at hs <;> try (simp at hs; done)
    rename_i s0 rows0 lim0 hroot
    split at hs <;> simp only [Option.some.injEq, reduceCtorEq] at hs
    rename_i hle
    have hrr := hr.holds.root r _ hroot
    rw [hb] at hrr
    cases hrr with
    | arr b o _ cap _ _ vals T' hw hcap hsize hrows hM hR =>
      have hget : ∀ (i : Nat) row, rows[i]? = some row → i < len ∧ rows0[off + i]? = some row := by
        intro i row h1
        subst hs
        have hi : i < len := by
          have := (List.getElem?_eq_some_iff.1 h1).1
          simp at this; omega
        simp [hi] at h1
        exact ⟨hi, h1⟩
      have hlen : rows.length = len := by subst hs; simp; omega
      rw [← hlen]
      refine src_of hk rows hrow (some ⟨b, o + off * s0, none⟩) _ b (o + off * s0) (fun i j => vals.getD (o + (off + i) * s0 + j) undef) (fun _ => rfl) ?_
      intro i row j c h1 h2
      obtain ⟨hi, h1'⟩ := hget i row h1
      have e1 := hrows _ row h1'
      have e2 := (hrow row (List.mem_of_getElem? h1)).1
      have hj : j < s0 := by rw [← e1]; exact (List.getElem?_eq_some_iff.1 h2).1
      have hm : (off + i + 1) * s0 ≤ cap * s0 := Nat.mul_le_mul_right _ (by simp only at hl; omega)
      rw [Nat.succ_mul] at hm
      have hlt : o + (off + i) * s0 + j < vals.size := by omega
      have hv : vals[o + (off + i) * s0 + j]? = some (vals.getD (o + (off + i) * s0 + j) undef) := by simp [Array.getD, hlt]
      refine ⟨?_, hR (off + i) row j c _ h1' h2 hv⟩
      rw [← e2, e1, show o + off * s0 + i * s0 + j = o + (off + i) * s0 + j from by rw [Nat.add_mul]; omega]
      simp only [World.cell?, hw, Option.isSome_none, Bool.false_eq_true, if_false]
      exact hv
  | vsE r off ad l hb ho =>
    simp only [srcRows] at hs
    split at hs <;> try (simp at hs; done)
    split at hs <;> simp only [Option.some.injEq, reduceCtorEq] at hs
    simp at hs
    subst hs
    exact src_of hk [] (by simp) ad 0 0 0 (fun _ _ => undef) (by simp) (by simp)
  | vsV r ad hb =>
    simp only [srcRows] at hs
    split at hs <;> try (simp at hs; done)
    split at hs <;> simp only [Option.some.injEq, reduceCtorEq] at hs
    simp at hs
    subst hs
    exact src_of hk [] (by simp) ad 0 0 0 (fun _ _ => undef) (by simp) (by simp)
  | _ => simp [srcRows] at hs

def killF (r : Nat) : Nat → Option Nat := fun q => if q = r then none else some q

theorem killF_ok {β : Where} {r : Nat} {s : Slot} : ∀ q q', killF r q = some q' → q' = q ∧ (q = r → s = β r) := by
  intro q q' h
  unfold killF at h
  split at h
  · cases h
  · cases h; rename_i e; exact ⟨rfl, fun e' => absurd e' e⟩

/-- What append leaves, of an array of the call's own. -/
theorem append_core {M : Mem} {β : Where} {a : Act} {w : World} (hrel : Rel n M β st a w) {T e sz bytes : Nat} (hT : P.underlying T = some (.slice e)) (i : TypeInfo) (hi : P.info? e = some i) (z : Value) (hz : i.zero = some z)
    (hsz : i.size = sz) (hby : i.bytes = bytes) (hzl : z.cells.size = sz) (u v : Value) (r off len lim : Nat) (rows rows2 : List (List D)) (hu : RelV M β (.vs r off len) u) (hr : st.roots[r]? = some (.arr sz rows lim))
    (hoff : off + len ≤ rows.length) (hlim : lim ≤ off + len) (tx e' : TypeId) (hk : P.underlying tx = some (.slice e')) (x : AV) (hx : RelV M β x v) (hs : srcRows st x = some rows2)
    (hrow : ∀ row, row ∈ rows2 → row.length = sz ∧ ∀ c, c ∈ row → oneD c = true) (hb : (len + rows2.length) * bytes ≤ 140737488355328) (hmax : len + rows2.length ≤ 140737488355328) (hpin : ¬ p r) :
    ∃ u' w' s', (Builtin.append_ #[T, tx] ty #[u, v]).run P w = .ok u' w' ∧ RelV M (setW β r s') (.vs r 0 (len + rows2.length)) u' ∧
      Rel n M (setW β r s') { env := renE (killF r) st.env, roots := (st.roots.map (renR (killF r))).set r (.arr sz ((rows.drop off).take len ++ rows2) (lim - off)) } a w' ∧
      Later p M β w M (setW β r s') w' := by
  subst hsz; subst hby
  have hh := hrel.holds
  have hrlt : r < st.roots.length := (List.getElem?_eq_some_iff.1 hr).1
  have hroot := hh.root r _ hr
  obtain ⟨news, hsrc, hnews⟩ := src_rel (P := P) hrel hk x v hx rows2 hs hrow
  have hnl := hsrc.newsLen
  have hgetA : ∀ (k : Nat) row, ((rows.drop off).take len ++ rows2)[k]? = some row → (k < len ∧ rows[off + k]? = some row) ∨ (len ≤ k ∧ rows2[k - len]? = some row) := by
    intro k row h
    have e1 : ((rows.drop off).take len).length = len := by simp; omega
    by_cases hk : k < len
    · rw [List.getElem?_append_left (by omega)] at h
      simp [hk] at h
      exact .inl ⟨hk, h⟩
    · rw [List.getElem?_append_right (by omega), e1] at h
      exact .inr ⟨by omega, h⟩
  have hrowsA : ∀ (k : Nat) row, (∀ (k : Nat) row, rows[k]? = some row → row.length = i.size) → ((rows.drop off).take len ++ rows2)[k]? = some row → row.length = i.size := by
    intro k row h0 h
    rcases hgetA k row h with ⟨_, h⟩ | ⟨_, h⟩
    · exact h0 _ row h
    · exact (hrow row (List.mem_of_getElem? h)).1
  have hlenA : ((rows.drop off).take len ++ rows2).length = len + rows2.length := by simp; omega
  -- growing: a new block
  have grow : ∀ (base : Option Addr) (sCap : Nat) (olds : List Value), u = .slice base len sCap → sCap < len + rows2.length → olds.length = len * i.size →
      (Builtin.firstCells i.size len (.slice base len sCap)).run P w.drew = .ok olds.toArray w.drew →
      (∀ (k : Nat) row, rows[k]? = some row → row.length = i.size) →
      (∀ (k : Nat) row (j : Nat) c x, k < len → rows[off + k]? = some row → row[j]? = some c → olds[k * i.size + j]? = some x → RelF M c x) →
      ∃ u' w' s', (Builtin.append_ #[T, tx] ty #[u, v]).run P w = .ok u' w' ∧ RelV M (setW β r s') (.vs r 0 (len + rows2.length)) u' ∧
        Rel n M (setW β r s') { env := renE (killF r) st.env, roots := (st.roots.map (renR (killF r))).set r (.arr i.size ((rows.drop off).take len ++ rows2) (lim - off)) } a w' ∧
        Later p M β w M (setW β r s') w' := by
    intro base sCap olds hu' hg hol hold hrows0 hR0
    subst hu'
    have hfit : Builtin.nextslicecap (len + rows2.length) sCap * i.bytes ≤ 281474976710656 := growslice_fits hg hb
    have hrun := run_append_grow_src (P := P) w T tx ty e i z hT hi hz base len sCap olds hold v rows2.length news hsrc hg (by omega) hfit
    generalize hcapg : grownCap w (len + rows2.length) sCap e = cap' at hrun
    have hge : len + rows2.length ≤ cap' := hcapg ▸ grownCap_ge w _ sCap e
    generalize hvals : (olds ++ news).toArray ++ Builtin.zeroCells z.cells (cap' - (len + rows2.length)) = vals at hrun
    have hvs : vals.size = cap' * i.size := by
      rw [← hvals]
      simp only [Array.size_append, List.size_toArray, List.length_append, hol, hnl, size_zeroCells, hzl, ← Nat.add_mul]
      congr 1; omega
    have he0 := Ext.alloc w.drew (.cells vals e)
    have he : Ext w (w.drew.alloc (.cells vals e)) := ⟨he0.size, he0.heap, rfl, rfl, rfl⟩
    have hnewb : (w.drew.alloc (.cells vals e)).heap[w.heap.size]? = some (.cells vals e (0, 0)) := by simp only [World.alloc, World.drew, Array.getElem?_push, if_true]
    have hheap : ∀ b, b < w.heap.size → (∀ l, β r = .at l → b ≠ l.b) → (w.drew.alloc (.cells vals e)).heap[b]? = w.heap[b]? := fun b hb _ => he.heap b hb
    refine ⟨.slice (some ⟨w.heap.size, 0, none⟩) (len + rows2.length) cap', _, .at ⟨w.heap.size, 0, i.size, cap'⟩, hrun, ?_, ?_, ?_⟩
    · have := RelV.vs (M := M) (β := setW β r (.at ⟨w.heap.size, 0, i.size, cap'⟩)) r 0 (len + rows2.length) ⟨w.heap.size, 0, i.size, cap'⟩ (by simp [setW]) (by simpa using hge)
      simpa using this
    · refine hrel.turn r _ (killF r) killF_ok (hh.turn r hrlt _ _ (killF r) killF_ok he.size hheap ?_ ?_ ?_)
      · intro l o y hl hy
        exact he.cell (hh.frozen l.b o y hy)
      · intro l' hl'
        cases hl'
        exact ⟨by simp, .inr (Nat.le_refl _)⟩
      · refine .arr w.heap.size 0 i.size cap' _ _ vals e hnewb (by rw [hlenA]; exact hge) (by omega) (fun k row hk => hrowsA k row hrows0 hk) (fun k _ => hh.no_mem (Nat.le_refl _) k) ?_
        intro k row j c y hk hj hy
        have hl := hrowsA k row hrows0 hk
        have hjl : j < i.size := by rw [← hl]; exact (List.getElem?_eq_some_iff.1 hj).1
        have hkl : k < len + rows2.length := by rw [← hlenA]; exact (List.getElem?_eq_some_iff.1 hk).1
        simp only [Nat.zero_add] at hy
        rw [← hvals] at hy
        have hin : k * i.size + j < (olds ++ news).length := by
          rw [List.length_append, hol, hnl, ← Nat.add_mul]
          have := Nat.mul_le_mul_right i.size (show k + 1 ≤ len + rows2.length from hkl)
          rw [Nat.succ_mul] at this
          omega
        rw [Array.getElem?_append_left (by simpa using hin)] at hy
        simp only [List.getElem?_toArray] at hy
        rcases hgetA k row hk with ⟨hkl, hk'⟩ | ⟨hkl, hk'⟩
        · have : k * i.size + j < olds.length := by
            rw [hol]
            have := Nat.mul_le_mul_right i.size (show k + 1 ≤ len from hkl)
            rw [Nat.succ_mul] at this
            omega
          rw [List.getElem?_append_left this] at hy
          exact hR0 k row j c y hkl hk' hj hy
        · have hle : len * i.size ≤ k * i.size := Nat.mul_le_mul_right _ hkl
          rw [List.getElem?_append_right (by omega), hol, show k * i.size + j - len * i.size = (k - len) * i.size + j from by rw [Nat.sub_mul]; omega] at hy
          obtain ⟨y', hy', hrf⟩ := hnews _ row j c hk' hj
          rw [hy] at hy'
          cases hy'
          exact hrf
    · exact Later.turn r _ he.size hheap (by intro l' hl'; cases hl'; exact .inr (Nat.le_refl _)) (fun h => absurd h hpin) ⟨rfl, rfl, rfl⟩
  have stay : ∀ (ad : Option Addr) (s' : Slot), u = .slice ad 0 0 → len = 0 → rows2.length = 0 → RelV M (setW β r s') (.vs r 0 0) (.slice ad 0 0) →
      RelR M (setW β r s') w s' (.arr i.size ((rows.drop off).take len ++ rows2) (lim - off)) → (∀ l', s' = .at l' → ∃ l, β r = .at l ∧ l.b = l'.b) →
      ∃ u' w' s', (Builtin.append_ #[T, tx] ty #[u, v]).run P w = .ok u' w' ∧ RelV M (setW β r s') (.vs r 0 (len + rows2.length)) u' ∧
        Rel n M (setW β r s') { env := renE (killF r) st.env, roots := (st.roots.map (renR (killF r))).set r (.arr i.size ((rows.drop off).take len ++ rows2) (lim - off)) } a w' ∧
        Later p M β w M (setW β r s') w' := by
    intro ad s' hu' hl0 hm0 hv hroot' hs'
    subst hu'
    have hnews0 : news = [] := List.eq_nil_of_length_eq_zero (by rw [hnl, hm0, Nat.zero_mul])
    refine ⟨.slice ad 0 0, w, s', ?_, by rw [hl0, hm0]; exact hv, ?_, ?_⟩
    · have hc := hsrc.cells
      have hl := hsrc.len w
      rw [hm0, hnews0] at hc
      rw [hm0] at hl
      cases ad with
      | none => simp [Builtin.append_, run_underlying hT, run_underlying hk, sizeOf, typeInfo, hi, hl, hc]
      | some ad => simp [Builtin.append_, run_underlying hT, run_underlying hk, sizeOf, typeInfo, hi, hl, hc, storeCells]
    · refine hrel.turn r _ (killF r) killF_ok (hh.turn r hrlt _ _ (killF r) killF_ok (Nat.le_refl _) (fun _ _ _ => rfl) (fun l o y _ hy => hh.frozen l.b o y hy) ?_ hroot')
      intro l' hl'
      obtain ⟨l, h1, h2⟩ := hs' l' hl'
      exact ⟨h2 ▸ hh.low r l h1, .inl ⟨l, h1, h2⟩⟩
    · exact Later.turn r _ (Nat.le_refl _) (fun _ _ _ => rfl) (fun l' hl' => .inl (hs' l' hl')) (fun h => absurd h hpin) ⟨rfl, rfl, rfl⟩
  cases hu with
  | vs _ _ _ l hl hcap0 =>
    rw [hl] at hroot
    cases hroot with
    | arr b o _ cap _ _ vals T' hw hcap hsize hrows hM hR =>
      simp only at hcap0
      have hcells : ∀ k, k < len * i.size → ∃ x, vals[o + off * i.size + k]? = some x := by
        intro k hk
        have h1 : (off + len) * i.size ≤ cap * i.size := Nat.mul_le_mul_right _ hcap0
        rw [Nat.add_mul] at h1
        have : o + off * i.size + k < vals.size := by omega
        exact ⟨vals[o + off * i.size + k], by simp [this]⟩
      by_cases hroom : len + rows2.length ≤ cap - off
      · have hfitc : o + off * i.size + len * i.size + news.length ≤ vals.size := by
          rw [hnl]
          have h1 : (off + (len + rows2.length)) * i.size ≤ cap * i.size := Nat.mul_le_mul_right _ (by omega)
          rw [Nat.add_mul, Nat.add_mul] at h1
          omega
        have hst := run_storeCells_at P b (o + off * i.size + len * i.size) T' news 0 vals w hw (by simpa using hfitc) hsrc.one
        simp only [Nat.add_zero, splice_toArray'] at hst
        generalize hnew : splice vals.toList (o + off * i.size + len * i.size) news = new at hst
        have hnl' : new.length = vals.size := by rw [← hnew, splice_length _ _ _ (by simpa using hfitc)]; simp
        have hget : ∀ k, new[k]? = if o + off * i.size + len * i.size ≤ k ∧ k < o + off * i.size + len * i.size + news.length then news[k - (o + off * i.size + len * i.size)]? else vals[k]? := by
          intro k
          rw [← hnew, splice_get _ _ _ (by simpa using hfitc)]
          simp
        have hnw := setRow_heap w b vals new.toArray T' (0, 0) hw
        have hsz' : w.heap.size ≤ (w.setRow b new.toArray).heap.size := by simp [World.setRow]
        have hheap : ∀ b', b' < w.heap.size → (∀ l, β r = .at l → b' ≠ l.b) → (w.setRow b new.toArray).heap[b']? = w.heap[b']? := fun b' _ hne => setRow_other w b b' _ (hne _ hl)
        refine ⟨.slice (some ⟨b, o + off * i.size, none⟩) (len + rows2.length) (cap - off), w.setRow b new.toArray, .at ⟨b, o + off * i.size, i.size, cap - off⟩, ?_, ?_, ?_, ?_⟩
        · simp [Builtin.append_, run_underlying hT, run_underlying hk, sizeOf, typeInfo, hi, hsrc.len, hroom, hsrc.cells, Addr.add_lit, hst]
        · have := RelV.vs (M := M) (β := setW β r (.at ⟨b, o + off * i.size, i.size, cap - off⟩)) r 0 (len + rows2.length) ⟨b, o + off * i.size, i.size, cap - off⟩ (by simp [setW]) (by simpa using hroom)
          simpa using this
        · refine hrel.turn r _ (killF r) killF_ok (hh.turn r hrlt _ _ (killF r) killF_ok hsz' hheap ?_ ?_ ?_)
          · intro l' q y hl' hy
            rw [hl] at hl'
            cases hl'
            have hq : q < o + lim * i.size := by
              rcases Nat.lt_or_ge q (o + lim * i.size) with h' | h'
              · exact h'
              · rw [hM q h'] at hy; cases hy
            have h1 : lim * i.size ≤ (off + len) * i.size := Nat.mul_le_mul_right _ hlim
            rw [Nat.add_mul] at h1
            have := hh.frozen b q y hy
            simp only [World.cell?, hw, hnw, Option.isSome_none, Bool.false_eq_true, if_false, List.getElem?_toArray] at this ⊢
            rw [hget, if_neg (by omega)]
            exact this
          · intro l' hl'
            cases hl'
            exact ⟨by simpa [World.setRow] using lt_of_heap hw, .inl ⟨_, hl, rfl⟩⟩
          · refine .arr b (o + off * i.size) i.size (cap - off) _ _ new.toArray T' hnw (by rw [hlenA]; exact hroom) ?_ (fun k row hk => hrowsA k row hrows hk) ?_ ?_
            · simp only [List.size_toArray, hnl']
              have h1 : off * i.size + (cap - off) * i.size = cap * i.size := by rw [← Nat.add_mul]; congr 1; omega
              omega
            · intro k hk
              refine hM k ?_
              have h1 : lim * i.size ≤ off * i.size + (lim - off) * i.size := by rw [← Nat.add_mul]; exact Nat.mul_le_mul_right _ (by omega)
              omega
            · intro k row j c y hk hj hy
              have hlr := hrowsA k row hrows hk
              have hjl : j < i.size := by rw [← hlr]; exact (List.getElem?_eq_some_iff.1 hj).1
              simp only [List.getElem?_toArray] at hy
              rw [hget] at hy
              rcases hgetA k row hk with ⟨hkl, hk'⟩ | ⟨hkl, hk'⟩
              · have h1 := Nat.mul_le_mul_right i.size (show k + 1 ≤ len from hkl)
                rw [Nat.succ_mul] at h1
                rw [if_neg (by omega), show o + off * i.size + k * i.size + j = o + (off + k) * i.size + j from by rw [Nat.add_mul]; omega] at hy
                exact hR _ row j c y hk' hj hy
              · have h1 : len * i.size ≤ k * i.size := Nat.mul_le_mul_right _ hkl
                have h2 : k - len < rows2.length := (List.getElem?_eq_some_iff.1 hk').1
                have h3 := Nat.mul_le_mul_right i.size (show k + 1 ≤ len + rows2.length from by omega)
                rw [Nat.succ_mul, Nat.add_mul] at h3
                rw [if_pos (by rw [hnl]; omega), show o + off * i.size + k * i.size + j - (o + off * i.size + len * i.size) = (k - len) * i.size + j from by rw [Nat.sub_mul]; omega] at hy
                obtain ⟨y', hy', hrf⟩ := hnews _ row j c hk' hj
                rw [hy] at hy'
                cases hy'
                exact hrf
        · exact Later.turn r _ hsz' hheap (by intro l' hl'; cases hl'; exact .inl ⟨_, hl, rfl⟩) (fun h => absurd h hpin) ⟨rfl, rfl, rfl⟩
      · refine grow (some ⟨b, o + off * i.size, none⟩) (cap - off) ((List.range (len * i.size)).map fun k => vals.getD (o + off * i.size + k) undef) rfl (by omega) (by simp) ?_ hrows ?_
        · refine run_firstCells_some w.drew i.size len _ len (cap - off) _ (by simp) ?_
          intro k y hy
          simp only [List.getElem?_map, Option.map_eq_some_iff] at hy
          obtain ⟨t, ht, rfl⟩ := hy
          obtain ⟨htl, ht⟩ := List.getElem?_eq_some_iff.1 ht
          simp at htl ht
          subst ht
          obtain ⟨x, hx⟩ := hcells k htl
          rw [Addr.add_lit, World.cell?_drew]
          simp only [World.cell?, hw, Option.isSome_none, Bool.false_eq_true, if_false, hx]
          simp [Array.getD_eq_getD_getElem?, hx]
        · intro k row j c y hkl hk' hj hy
          have hlr := hrows _ row hk'
          have hjl : j < i.size := by rw [← hlr]; exact (List.getElem?_eq_some_iff.1 hj).1
          simp only [List.getElem?_map, Option.map_eq_some_iff] at hy
          obtain ⟨t, ht, rfl⟩ := hy
          obtain ⟨htl, ht⟩ := List.getElem?_eq_some_iff.1 ht
          simp at htl ht
          subst ht
          obtain ⟨x, hx⟩ := hcells _ htl
          rw [show o + off * i.size + (k * i.size + j) = o + (off + k) * i.size + j from by rw [Nat.add_mul]; omega] at hx ⊢
          refine hR _ row j c _ hk' hj ?_
          simp [Array.getD_eq_getD_getElem?, hx]
  | vsE _ _ ad l hl ho =>
    rw [hl] at hroot
    cases hroot with
    | arr b o _ cap _ _ vals T' hw hcap hsize hrows hM hR =>
      simp only at ho
      by_cases hm0 : rows2.length = 0
      · refine stay ad (.at ⟨b, o + off * i.size, i.size, 0⟩) rfl rfl hm0 (.vsE r 0 ad ⟨b, o + off * i.size, i.size, 0⟩ (by simp [setW]) rfl) ?_ (by intro l' hl'; cases hl'; exact ⟨_, hl, rfl⟩)
        have : rows2 = [] := List.eq_nil_of_length_eq_zero hm0
        subst this
        simp only [List.take_zero, List.append_nil]
        refine .arr b _ i.size 0 _ [] vals T' hw (by simp) (by rw [ho]; omega) (by simp) ?_ (by simp)
        intro k hk
        refine hM k ?_
        have h1 : lim * i.size ≤ off * i.size + (lim - off) * i.size := by rw [← Nat.add_mul]; exact Nat.mul_le_mul_right _ (by omega)
        omega
      · refine grow ad 0 [] rfl (by omega) (by simp) ?_ hrows (by omega)
        cases ad with
        | none => exact run_firstCells_none w.drew i.size 0 0 0
        | some ad => exact run_firstCells_some w.drew i.size 0 ad 0 0 [] (by simp) (by simp)
  | vsV _ ad hl =>
    rw [hl] at hroot
    cases hroot with
    | virt _ _ =>
      by_cases hm0 : rows2.length = 0
      · refine stay ad .virt rfl rfl hm0 (.vsV r ad (by simp [setW])) ?_ (by intro l' hl'; cases hl')
        have : rows2 = [] := List.eq_nil_of_length_eq_zero hm0
        subst this
        simp only [List.drop_nil, List.take_nil, List.append_nil]
        exact .virt _ _
      · refine grow ad 0 [] rfl (by omega) (by simp) ?_ (by simp) (by omega)
        cases ad with
        | none => exact run_firstCells_none w.drew i.size 0 0 0
        | some ad => exact run_firstCells_some w.drew i.size 0 ad 0 0 [] (by simp) (by simp)

end Go.Al
