/- Al: len, parts of texts and slices, parts of structs, structs built, function values. -/
import Derived.Test.YtobcdpmjaeflmaaGreatDoorAlLook
import Derived.Laws.Build
set_option linter.unusedVariables false
set_option linter.unusedSimpArgs false
namespace Go.Al
variable {P : Program} {n : Nat} {p : Nat → Prop} {st : St} {K : AV → Prop} {dst : Option Tmp} {ty : TypeId} {pos : String} {after : Array Edge} {gu : Option (Nat × Bool)}

def lenV : AV → Option Nat
  | .d (.sl rows) => some rows.length
  | .vs _ _ len => some len
  | .d (.con (.slice _ len _)) => some len
  | .d (.con (.string s)) => some s.size
  | _ => none

def lenOk (P : Program) (T : TypeId) : Bool := match P.underlying T with
  | some (.slice _) => true
  | some .string => true
  | _ => false

theorem OpP.len {T : TypeId} {x : Operand} {m : Nat} (hT : lenOk P T = true) (hl : lenV (ev st x) = some m)
    (ht : ∀ s, ev st x = .d (.con (.string s)) → P.underlying T = some .string) (ht' : (∀ s, ev st x ≠ .d (.con (.string s))) → ∃ e, P.underlying T = some (.slice e))
    (h : K (.d (.con (.int .i64 m)))) :
    OpP P n ⟨dst, .call ⟨.builtin .len, #[x], #[T]⟩, ty, pos, after, gu⟩ st K := by
  intro M β a w hrel
  have h1 := ev_rel hrel x
  refine ⟨_, _, h, .d _ _ (.con _), .of fun w' _ => ?_⟩
  have fin : ∀ (ad : Option Addr) cap, a.eval x = .slice ad m cap → (∀ s, ev st x ≠ .d (.con (.string s))) →
      (execOp a.eval ⟨dst, .call ⟨.builtin .len, #[x], #[T]⟩, ty, pos, after, gu⟩).run P w' = .ok (.value (.int .i64 m)) w' := by
    intro ad cap hu hn
    obtain ⟨e, he⟩ := ht' hn
    simp [execOp, resolve, invoke, builtin, hu, Builtin.len_, run_underlying he, goInt]
  generalize hu : a.eval x = u at h1
  generalize hv : ev st x = v at *
  cases h1 with
  | d y _ h1 =>
    cases h1 with
    | any => simp [lenV] at hl
    | cell => simp [lenV] at hl
    | con =>
      cases u <;> simp only [lenV] at hl <;> try (simp at hl; done)
      · simp only [Option.some.injEq] at hl
        subst hl
        simp [execOp, resolve, invoke, builtin, hu, Builtin.len_, run_underlying (ht _ rfl), goInt]
      · simp only [Option.some.injEq] at hl
        subst hl
        exact fin _ _ hu (by simp)
    | sl rows ad len cap b o f hlen =>
      simp only [lenV, Option.some.injEq] at hl
      subst hl; subst hlen
      exact fin _ _ hu (by simp)
    | agg => simp [lenV] at hl
  | vs r off len l =>
    simp only [lenV, Option.some.injEq] at hl
    subst hl
    exact fin _ _ hu (by simp)
  | vsE r off ad =>
    simp only [lenV, Option.some.injEq] at hl
    subst hl
    exact fin _ _ hu (by simp)
  | vsV r ad =>
    simp only [lenV, Option.some.injEq] at hl
    subst hl
    exact fin _ _ hu (by simp)
  | _ => simp [lenV] at hl

/-- A bound of a slice expression, as an operand says it. -/
def bnd (st : St) (d : Nat) : Option Operand → Option Int
  | none => some d
  | some x => match ev st x with
    | .d (.con (.int _ m)) => some m
    | _ => none

theorem bnd_val {M : Mem} {β : Where} {a : Act} {w : World} (hr : Rel n M β st a w) {d : Nat} {x : Operand} {m : Int} (h : bnd st d (some x) = some m) : ∃ k, a.eval x = .int k m := by
  have h1 := ev_rel hr x
  simp only [bnd] at h
  split at h <;> simp at h
  rename_i k m' he
  subst h
  rw [he] at h1
  exact ⟨k, h1.con_eq⟩

theorem run_bounds {M : Mem} {β : Where} {a : Act} {w : World} (hr : Rel n M β st a w) (isSlice : Bool) (len cap : Nat) (lo hi : Option Operand) (l h : Int)
    (hl : bnd st 0 lo = some l) (hh : bnd st len hi = some h) (h0 : 0 ≤ l) (h1 : l ≤ h) (h2 : h ≤ cap) (w' : World) :
    (Instr.sliceBounds isSlice len cap (lo.map a.eval) (hi.map a.eval) none).run P w' = .ok (l.toNat, h.toNat, cap) w' := by
  have e2 : h.toNat ≤ cap := by omega
  have e3 : (l : Int) ≤ (h.toNat : Int) := by omega
  have e0 : 0 ≤ h := by omega
  cases hi with
  | none =>
    simp only [bnd, Option.some.injEq] at hh
    subst hh
    cases lo with
    | none =>
      simp only [bnd, Option.some.injEq] at hl
      subst hl
      simp [Instr.sliceBounds]
    | some x =>
      obtain ⟨k, hk⟩ := bnd_val hr hl
      simp only [Instr.sliceBounds, Option.map_some, Option.map_none, hk, Sem.run_bind, Sem.run_pure, Result.andThen_ok, Option.isSome_none, Bool.false_eq_true, if_false]
      rw [run_sliceBound w' k l len _ h0 (by omega)]
      simp
  | some y =>
    obtain ⟨k', hk'⟩ := bnd_val hr hh
    cases lo with
    | none =>
      simp only [bnd, Option.some.injEq] at hl
      subst hl
      simp only [Instr.sliceBounds, Option.map_some, Option.map_none, hk', Sem.run_bind, Sem.run_pure, Result.andThen_ok]
      rw [run_sliceBound w' k' h cap _ e0 (by omega)]
      simp
    | some x =>
      obtain ⟨k, hk⟩ := bnd_val hr hl
      simp only [Instr.sliceBounds, Option.map_some, Option.map_none, hk, hk', Sem.run_bind, Sem.run_pure, Result.andThen_ok, Option.isSome_none, Bool.false_eq_true, if_false]
      rw [run_sliceBound w' k' h cap _ e0 (by omega)]
      simp only [Result.andThen_ok]
      rw [run_sliceBound w' k l _ _ h0 (by omega)]
      simp

/-- A part of a text. -/
theorem OpP.slice_str {T : TypeId} {x : Operand} {lo hi : Option Operand} (hT : P.underlying T = some .string) (s : ByteArray) (l h : Int)
    (hx : ev st x = .d (.con (.string s))) (hl : bnd st 0 lo = some l) (hh : bnd st s.size hi = some h) (hb : 0 ≤ l ∧ l ≤ h ∧ h ≤ s.size)
    (hk : K (.d (.con (.string (s.extract l.toNat h.toNat))))) : OpP P n ⟨dst, .slice T x lo hi none, ty, pos, after, gu⟩ st K := by
  intro M β a w hrel
  have h1 := ev_rel hrel x
  rw [hx] at h1
  refine ⟨_, _, hk, .d _ _ (.con _), .of fun w' _ => ?_⟩
  have := run_bounds (P := P) hrel false s.size s.size lo hi l h hl hh hb.1 hb.2.1 hb.2.2 w'
  simp [execOp, h1.con_eq, Instr.sliceAt, Instr.slice, run_underlying hT, this]

theorem run_slice_parts {T e s : Nat} (hT : P.underlying T = some (.slice e)) (hs : szOf P e = some s) {M : Mem} {β : Where} {a : Act} {w : World} (hr : Rel n M β st a w)
    (lo hi : Option Operand) (l h : Int) (ad : Option Addr) (len cap : Nat) (hl : bnd st 0 lo = some l) (hh : bnd st len hi = some h) (h0 : 0 ≤ l) (h1 : l ≤ h) (h2 : h ≤ cap) (w' : World) :
    (Instr.sliceAt T (.slice ad len cap) (lo.map a.eval) (hi.map a.eval) none).run P w' =
      .ok (.slice (if cap = l.toNat then ad else ad.map (·.add (l.toNat * s))) (h.toNat - l.toNat) (cap - l.toNat)) w' := by
  have := run_bounds (P := P) hr true len cap lo hi l h hl hh h0 h1 h2 w'
  simp [Instr.sliceAt, Instr.slice, run_underlying hT, this, run_sizeOf hs]

/-- A part of a slice that is never written again. -/
theorem OpP.slice_sl {T e s : Nat} {x : Operand} {lo hi : Option Operand} (hT : P.underlying T = some (.slice e)) (hs : szOf P e = some s) (rows : List (List D)) (l h : Int)
    (hx : ∀ M β v, RelV M β (ev st x) v → RelV M β (.d (.sl rows)) v) (hl : bnd st 0 lo = some l) (hh : bnd st rows.length hi = some h) (hb : 0 ≤ l ∧ l ≤ h ∧ h ≤ rows.length)
    (hrow : ∀ row, row ∈ rows → row.length = s) (hk : K (.d (.sl ((rows.drop l.toNat).take (h.toNat - l.toNat))))) :
    OpP P n ⟨dst, .slice T x lo hi none, ty, pos, after, gu⟩ st K := by
  intro M β a w hrel
  have h1 := hx _ _ _ (ev_rel hrel x)
  generalize hu : a.eval x = u at h1
  cases h1 with
  | d _ _ h1 =>
    cases h1 with
    | sl _ ad len cap b o f hlen hcap had hM hR =>
      subst hlen
      have hrun := run_slice_parts (P := P) hT hs hrel lo hi l h ad rows.length cap hl hh hb.1 hb.2.1 (by omega)
      refine ⟨.slice (if cap = l.toNat then ad else ad.map (·.add (l.toNat * s))) (h.toNat - l.toNat) (cap - l.toNat), _, hk, .d _ _ (.sl _ _ _ _ b (o + l.toNat * s) (fun i j => f (l.toNat + i) j) ?_ ?_ ?_ ?_ ?_), .of fun w' _ => ?_⟩
      · simp; omega
      · omega
      · intro hne
        have hlt : l.toNat < h.toNat := by
          rcases Nat.lt_or_ge l.toNat h.toNat with h' | h'
          · exact h'
          · exact absurd (by rw [Nat.sub_eq_zero_of_le h']; simp) hne
        rw [if_neg (by omega), had (by intro e0; subst e0; simp at hb; omega)]
        simp [Addr.add_lit]
      · intro i row j c h2 h3
        have hi : i < h.toNat - l.toNat := by
          have := (List.getElem?_eq_some_iff.1 h2).1
          simp at this; omega
        simp [hi] at h2
        have hlen2 := hrow row (List.mem_of_getElem? h2)
        have := hM (l.toNat + i) row j c h2 h3
        rw [← this, hlen2]
        congr 1
        rw [Nat.add_mul]; omega
      · intro i row j c h2 h3
        have hi : i < h.toNat - l.toNat := by
          have := (List.getElem?_eq_some_iff.1 h2).1
          simp at this; omega
        simp [hi] at h2
        exact hR (l.toNat + i) row j c h2 h3
      · simp only [execOp, hu, Option.map_none, Sem.run_bind, hrun]
        rfl

/-- A part of an array of the call's own. -/
theorem OpP.slice_vs {T e s : Nat} {x : Operand} {lo hi : Option Operand} (hT : P.underlying T = some (.slice e)) (hs : szOf P e = some s) (r off len lim : Nat) (rows : List (List D)) (l h : Int)
    (hx : ev st x = .vs r off len) (hr : st.roots[r]? = some (.arr s rows lim)) (hl : bnd st 0 lo = some l) (hh : bnd st len hi = some h) (hb : 0 ≤ l ∧ l ≤ h ∧ h ≤ len)
    (hk : K (.vs r (off + l.toNat) (h.toNat - l.toNat))) : OpP P n ⟨dst, .slice T x lo hi none, ty, pos, after, gu⟩ st K := by
  intro M β a w hrel
  have h1 := ev_rel hrel x
  rw [hx] at h1
  generalize hu : a.eval x = u at h1
  cases h1 with
  | vs _ _ _ loc hloc hcap =>
    have hroot := hrel.holds.root r _ hr
    rw [hloc] at hroot
    cases hroot with
    | arr b o _ cap _ _ vals T' hw hcap2 hsize hrows hM hR =>
      have hrun := run_slice_parts (P := P) hT hs hrel lo hi l h (some ⟨b, o + off * s, none⟩) len (cap - off) hl hh hb.1 hb.2.1 (by simp at hcap; omega)
      simp only at hcap
      have hy : ∀ v, v = Value.slice (if cap - off = l.toNat then some ⟨b, o + off * s, none⟩ else some ⟨b, o + (off + l.toNat) * s, none⟩) (h.toNat - l.toNat) (cap - (off + l.toNat)) →
          RelV M β (.vs r (off + l.toNat) (h.toNat - l.toNat)) v := by
        intro v hv
        subst hv
        by_cases hc : cap - off = l.toNat
        · rw [if_pos hc]
          have e1 : h.toNat - l.toNat = 0 := by omega
          have e2 : cap - (off + l.toNat) = 0 := by omega
          rw [e1, e2]
          exact .vsE r _ _ _ hloc (by simp; omega)
        · rw [if_neg hc]
          exact .vs r _ _ _ hloc (by simp; omega)
      refine ⟨_, _, hk, hy _ rfl, .of fun w' _ => ?_⟩
      simp only [execOp, hu, Option.map_none, Sem.run_bind, hrun, Option.map_some, Addr.add_lit]
      rw [show cap - (off + l.toNat) = cap - off - l.toNat from by omega, show o + (off + l.toNat) * s = o + off * s + l.toNat * s from by rw [Nat.add_mul]; omega]
      rfl
  | vsE _ _ ad loc hloc ho =>
    have hrun := run_slice_parts (P := P) hT hs hrel lo hi l h ad 0 0 hl hh hb.1 hb.2.1 (by omega)
    have e1 : l.toNat = 0 := by omega
    have e2 : h.toNat = 0 := by omega
    rw [e1, e2] at hk
    refine ⟨_, _, hk, .vsE r off ad loc hloc ho, .of fun w' _ => ?_⟩
    simp only [execOp, hu, Option.map_none, Sem.run_bind, hrun, e1, e2]
    rfl
  | vsV _ ad hloc =>
    have hrun := run_slice_parts (P := P) hT hs hrel lo hi l h ad 0 0 hl hh hb.1 hb.2.1 (by omega)
    have e1 : l.toNat = 0 := by omega
    have e2 : h.toNat = 0 := by omega
    rw [e1, e2] at hk
    refine ⟨_, _, hk, .vsV r ad hloc, .of fun w' _ => ?_⟩
    simp only [execOp, hu, Option.map_none, Sem.run_bind, hrun, e1, e2]
    rfl

end Go.Al
