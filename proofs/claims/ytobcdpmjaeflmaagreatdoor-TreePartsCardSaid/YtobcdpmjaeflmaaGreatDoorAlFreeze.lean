/- Al: what is never written again from here on; rows built; slices made. -/
import Derived.Test.YtobcdpmjaeflmaaGreatDoorAlBuild
set_option linter.unusedVariables false
set_option linter.unusedSimpArgs false
namespace Go.Al
variable {P : Program} {n : Nat} {p : Nat → Prop} {st : St} {dst : Option Tmp} {ty : TypeId} {pos : String} {after : Array Edge} {gu : Option (Nat × Bool)}

mutual
/-- A value as data that is never written again, and the roots of which more is frozen then. -/
def asD : AV → List Root → Option (D × List Root)
  | .d x, R => some (x, R)
  | .vs r off len, R => match R[r]? with
    | some (.arr sz rows lim) => if off + len ≤ rows.length then some (.sl ((rows.drop off).take len), R.set r (.arr sz rows (max lim (off + len)))) else none
    | _ => none
  | .agg cs, R => (asDL cs R).map fun x => (.agg x.1, x.2)
  | _, _ => none
def asDL : List AV → List Root → Option (List D × List Root)
  | [], R => some ([], R)
  | c :: cs, R => (asD c R).bind fun x => (asDL cs x.2).map fun y => (x.1 :: y.1, y.2)
end

/-- More is frozen, in blocks of the roots alone. -/
structure More (M : Mem) (β : Where) (R : List Root) (M' : Mem) (R' : List Root) (w : World) : Prop where
  le : M.le M'
  same : ∀ b, (∀ r l, β r = .at l → l.b ≠ b) → ∀ o, M' b o = M b o
  holds : Holds M' β R' w
  len : R'.length = R.length

theorem More.refl {M : Mem} {β : Where} {R : List Root} {w : World} (h : Holds M β R w) : More M β R M R w := ⟨fun _ _ _ h => h, fun _ _ _ => rfl, h, rfl⟩
theorem More.trans {M M1 M2 : Mem} {β : Where} {R R1 R2 : List Root} {w : World} (h : More M β R M1 R1 w) (h' : More M1 β R1 M2 R2 w) : More M β R M2 R2 w :=
  ⟨fun b o x hx => h'.le b o x (h.le b o x hx), fun b hb o => (h'.same b hb o).trans (h.same b hb o), h'.holds, h'.len.trans h.len⟩
theorem More.later {M M' : Mem} {β : Where} {R R' : List Root} {w : World} (h : More M β R M' R' w) : Later p M β w M' β w :=
  ⟨h.le, Nat.le_refl _, fun b _ hr => ⟨rfl, h.same b hr⟩, fun r l hl => .inl ⟨r, l, hl, rfl⟩, fun _ _ _ => rfl, rfl, rfl, rfl⟩
theorem More.rel {M M' : Mem} {β : Where} {R' : List Root} {a : Act} {w : World} (hr : Rel n M β st a w) (h : More M β st.roots M' R' w) : Rel n M' β { st with roots := R' } a w :=
  ⟨hr.size, hr.defers, fun t => (hr.env t).mono h.le (fun _ _ => rfl), h.holds⟩

def Mem.with (M : Mem) (b lo hi : Nat) (f : Nat → Option Value) : Mem := fun b' o => if b' = b ∧ lo ≤ o ∧ o < hi then f o else M b' o

theorem freeze_one {M : Mem} {β : Where} {R : List Root} {w : World} (h : Holds M β R w) {r sz lim k : Nat} {rows : List (List D)} {l : Loc} (hr : R[r]? = some (.arr sz rows lim)) (hl : β r = .at l)
    (hk : k ≤ rows.length) : ∃ M', More M β R M' (R.set r (.arr sz rows (max lim k))) w ∧
      ∀ (i : Nat) row (j : Nat) c, rows[i]? = some row → row[j]? = some c → i < k → row.length = sz ∧ ∃ x, M' l.b (l.o + i * sz + j) = some x ∧ RelF M c x := by
  have hroot := h.root r _ hr
  rw [hl] at hroot
  cases hroot with
  | arr b o _ cap _ _ vals T hw hcap hsize hrow hM hR =>
    have hcell : ∀ q, w.cell? ⟨b, q, none⟩ = vals[q]? := by
      intro q
      simp [World.cell?, hw]
    have hle : M.le (M.with b o (o + k * sz) (vals[·]?)) := by
      intro b' q x hx
      unfold Mem.with
      split
      · rename_i hc
        have := h.frozen b' q x hx
        rw [hc.1, hcell] at this
        exact this
      · exact hx
    have hother : ∀ b', b' ≠ b → ∀ q, M.with b o (o + k * sz) (vals[·]?) b' q = M b' q := by
      intro b' hb q
      simp [Mem.with, hb]
    have hfro : ∀ b' q x, M.with b o (o + k * sz) (vals[·]?) b' q = some x → w.cell? ⟨b', q, none⟩ = some x := by
      intro b' q x hx
      unfold Mem.with at hx
      split at hx
      · rename_i hc
        rw [hc.1, hcell]; exact hx
      · exact h.frozen b' q x hx
    refine ⟨M.with b o (o + k * sz) (vals[·]?), ⟨hle, fun b' hb' q => hother b' (fun e => hb' r _ hl e.symm) q, ⟨hfro, ?_, h.inj, h.low, fun q hq => by simpa using h.scope q hq, h.glob⟩, by simp⟩, ?_⟩
    · intro q root hq
      by_cases e : q = r
      · subst e
        have hlt : q < R.length := (List.getElem?_eq_some_iff.1 hr).1
        simp [hlt] at hq
        subst hq
        rw [hl]
        refine .arr b o sz cap _ rows vals T hw hcap hsize hrow ?_ (fun i row j c x h1 h2 h3 => (hR i row j c x h1 h2 h3).mono hle)
        intro q hq
        have e1 : lim * sz ≤ max lim k * sz := Nat.mul_le_mul_right _ (Nat.le_max_left _ _)
        have e2 : k * sz ≤ max lim k * sz := Nat.mul_le_mul_right _ (Nat.le_max_right _ _)
        unfold Mem.with
        rw [if_neg (by omega)]
        exact hM q (by omega)
      · rw [List.getElem?_set_ne (Ne.symm e)] at hq
        have hq' := h.root q root hq
        generalize hs : β q = s at hq'
        cases hq' with
        | dead => exact .dead _
        | virt sz lim => exact .virt sz lim
        | box b' cs vals' T' hw' hlen' hM' hR' =>
          have hbb : b' ≠ b := fun e' => e (h.inj q r _ _ hs hl e')
          exact .box b' cs vals' T' hw' hlen' (fun o => by rw [hother b' hbb]; exact hM' o) (fun i c x h1 h2 => (hR' i c x h1 h2).mono hle (fun _ _ => rfl))
        | arr b' o' sz' cap' lim' rows' vals' T' hw' hcap' hsize' hrow' hM' hR' =>
          have hbb : b' ≠ b := fun e' => e (h.inj q r _ _ hs hl e')
          exact .arr b' o' sz' cap' lim' rows' vals' T' hw' hcap' hsize' hrow' (fun k hk => by rw [hother b' hbb]; exact hM' k hk) (fun i row j c x h1 h2 h3 => (hR' i row j c x h1 h2 h3).mono hle)
        | map b' mk' es' arr' clock' hw' hlen' hM' hR' =>
          have hbb : b' ≠ b := fun e' => e (h.inj q r _ _ hs hl e')
          exact .map b' mk' es' arr' clock' hw' hlen' (fun o => by rw [hother b' hbb]; exact hM' o) (fun i e x h1 h2 => ⟨(hR' i e x h1 h2).1, (hR' i e x h1 h2).2.1, (hR' i e x h1 h2).2.2.mono hle⟩)
    · intro i row j c h1 h2 hi
      have e1 := hrow i row h1
      have hj : j < sz := by rw [← e1]; exact (List.getElem?_eq_some_iff.1 h2).1
      have e2 : (i + 1) * sz ≤ k * sz := Nat.mul_le_mul_right _ hi
      rw [Nat.succ_mul] at e2
      have e3 : k * sz ≤ cap * sz := Nat.mul_le_mul_right _ (by omega)
      have hlt : o + i * sz + j < vals.size := by omega
      refine ⟨e1, vals[o + i * sz + j], ?_, hR i row j c _ h1 h2 (by simp [hlt])⟩
      simp only [Mem.with]
      rw [if_pos ⟨trivial, by omega, by omega⟩]
      simp [hlt]

mutual
theorem asD_rel : ∀ (a : AV) (R : List Root) (x : D) (R' : List Root), asD a R = some (x, R') → ∀ (M : Mem) (β : Where) (w : World), Holds M β R w →
    ∃ M', More M β R M' R' w ∧ ∀ v, RelV M β a v → RelF M' x v
  | .d y, R, x, R', h, M, β, w, hh => by
    simp only [asD, Option.some.injEq, Prod.mk.injEq] at h
    obtain ⟨rfl, rfl⟩ := h
    exact ⟨M, More.refl hh, fun v hv => by cases hv; assumption⟩
  | .vs r off len, R, x, R', h, M, β, w, hh => by
    simp only [asD] at h
    split at h <;> try (simp at h; done)
    rename_i sz rows lim hr
    split at h <;> simp only [Option.some.injEq, Prod.mk.injEq, reduceCtorEq] at h
    rename_i hle
    obtain ⟨rfl, rfl⟩ := h
    have hroot := hh.root r _ hr
    generalize hs : β r = s at hroot
    cases hroot with
    | virt _ _ =>
      have hset : R.set r (.arr sz [] (max lim (off + len))) = R.set r (.arr sz [] (max lim (off + len))) := rfl
      refine ⟨M, ⟨fun _ _ _ h => h, fun _ _ _ => rfl, ⟨hh.frozen, ?_, hh.inj, hh.low, fun q hq => by simpa using hh.scope q hq, hh.glob⟩, by simp⟩, ?_⟩
      · intro q root hq
        by_cases e : q = r
        · subst e
          have hlt : q < R.length := (List.getElem?_eq_some_iff.1 hr).1
          simp [hlt] at hq
          subst hq
          rw [hs]; exact .virt _ _
        · rw [List.getElem?_set_ne (Ne.symm e)] at hq
          exact hh.root q root hq
      · intro v hv
        simp at hle
        obtain ⟨rfl, rfl⟩ := hle
        cases hv with
        | vs _ _ _ l hb => rw [hs] at hb; cases hb
        | vsE _ _ a l hb => rw [hs] at hb; cases hb
        | vsV _ a hb => exact .sl [] a 0 0 0 0 (fun _ _ => undef) rfl (Nat.le_refl _) (by simp) (by simp) (by simp)
    | arr b o _ cap _ _ vals T hw hcap hsize hrow hM hR =>
      obtain ⟨M', hmore, hcells⟩ := freeze_one hh hr hs hle
      refine ⟨M', hmore, ?_⟩
      intro v hv
      have hget : ∀ (i : Nat) row, ((rows.drop off).take len)[i]? = some row → i < len ∧ rows[off + i]? = some row := by
        intro i row h1
        have hi : i < len := by
          have := (List.getElem?_eq_some_iff.1 h1).1
          simp at this; omega
        simp [hi] at h1
        exact ⟨hi, h1⟩
      cases hv with
      | vs _ _ _ l hb hl =>
        rw [hs] at hb
        cases hb
        simp only at hl
        let f : Nat → Nat → Value := fun i j => (M' b (o + off * sz + i * sz + j)).getD undef
        refine .sl _ _ len _ b (o + off * sz) f (by simp; omega) (by simp; omega) (fun _ => rfl) ?_ ?_
        · intro i row j c h1 h2
          obtain ⟨hi, h1'⟩ := hget i row h1
          obtain ⟨e1, y, hy, hyf⟩ := hcells (off + i) row j c h1' h2 (by omega)
          have e2 : o + off * sz + i * sz + j = o + (off + i) * sz + j := by rw [Nat.add_mul]; omega
          simp only [f]
          rw [e1, e2, hy]; rfl
        · intro i row j c h1 h2
          obtain ⟨hi, h1'⟩ := hget i row h1
          obtain ⟨e1, y, hy, hyf⟩ := hcells (off + i) row j c h1' h2 (by omega)
          have e2 : o + off * sz + i * sz + j = o + (off + i) * sz + j := by rw [Nat.add_mul]; omega
          simp only [f]
          rw [e2, hy]
          exact hyf.mono hmore.le
      | vsE _ _ a l hb ho =>
        simp only [List.take_zero]
        exact .sl [] a 0 0 0 0 (fun _ _ => undef) rfl (Nat.le_refl _) (by simp) (by simp) (by simp)
      | vsV _ a hb => rw [hs] at hb; cases hb
  | .agg cs, R, x, R', h, M, β, w, hh => by
    simp only [asD, Option.map_eq_some_iff, Prod.mk.injEq] at h
    obtain ⟨⟨ds, R1⟩, h1, rfl, rfl⟩ := h
    obtain ⟨M', hm, hl, hv⟩ := asDL_rel cs R ds R1 h1 M β w hh
    refine ⟨M', hm, ?_⟩
    intro v hv'
    cases hv' with
    | agg _ vs hlen hR =>
      refine .agg ds vs (hl.symm.trans hlen) ?_
      intro i c x h1 h2
      have hi : i < cs.length := by rw [hl]; exact (List.getElem?_eq_some_iff.1 h1).1
      exact hv i _ c x (List.getElem?_eq_getElem hi) h1 (hR i _ x (List.getElem?_eq_getElem hi) h2)
  | .ptr .., _, _, _, h, _, _, _, _ => by simp [asD] at h
  | .fptr .., _, _, _, h, _, _, _, _ => by simp [asD] at h
  | .tup _, _, _, _, h, _, _, _, _ => by simp [asD] at h
  | .fn .., _, _, _, h, _, _, _, _ => by simp [asD] at h
  | .gd .., _, _, _, h, _, _, _, _ => by simp [asD] at h
  | .mp .., _, _, _, h, _, _, _, _ => by simp [asD] at h
theorem asDL_rel : ∀ (cs : List AV) (R : List Root) (ds : List D) (R' : List Root), asDL cs R = some (ds, R') → ∀ (M : Mem) (β : Where) (w : World), Holds M β R w →
    ∃ M', More M β R M' R' w ∧ cs.length = ds.length ∧ ∀ (i : Nat) c d v, cs[i]? = some c → ds[i]? = some d → RelV M β c v → RelF M' d v
  | [], R, ds, R', h, M, β, w, hh => by
    simp only [asDL, Option.some.injEq, Prod.mk.injEq] at h
    obtain ⟨rfl, rfl⟩ := h
    exact ⟨M, More.refl hh, rfl, by simp⟩
  | c :: cs, R, ds, R', h, M, β, w, hh => by
    simp only [asDL, Option.bind_eq_some_iff, Option.map_eq_some_iff, Prod.mk.injEq] at h
    obtain ⟨⟨x, R1⟩, h1, ⟨ys, R2⟩, h2, rfl, rfl⟩ := h
    obtain ⟨M1, hm1, hv1⟩ := asD_rel c R x R1 h1 M β w hh
    obtain ⟨M2, hm2, hl, hv2⟩ := asDL_rel cs R1 ys R2 h2 M1 β w hm1.holds
    refine ⟨M2, hm1.trans hm2, by simp [hl], ?_⟩
    intro i c' d v hc hd hv
    cases i with
    | zero =>
      simp at hc hd
      subst hc; subst hd
      exact (hv1 v hv).mono hm2.le
    | succ i =>
      simp at hc hd
      exact hv2 i c' d v hc hd (hv.mono hm1.le (fun _ _ => rfl))
end

end Go.Al
