/- Al: operations that look at memory. -/
import Derived.Test.YtobcdpmjaeflmaaGreatDoorAlPure
set_option linter.unusedVariables false
set_option linter.unusedSimpArgs false
namespace Go.Al
variable {P : Program} {n : Nat} {p : Nat → Prop} {st : St} {K : AV → Prop} {dst : Option Tmp} {ty : TypeId} {pos : String} {after : Array Edge} {gu : Option (Nat × Bool)}

theorem run_loadCellsFrom {w : World} (b o : Nat) (f : Nat → Value) : ∀ (s i : Nat) (acc : Array Value), (∀ j, j < s → w.cell? ⟨b, o + (i + j), none⟩ = some (f (i + j))) →
    (loadCellsFrom ⟨b, o, none⟩ i s acc).run P w = .ok (acc ++ ((List.range' i s).map f).toArray) w
  | 0, i, acc, _ => by simp [loadCellsFrom]
  | s + 1, i, acc, h => by
    have h0 := h 0 (by omega)
    simp only [Nat.add_zero] at h0
    simp only [loadCellsFrom, Sem.run_bind, run_load, Addr.add_lit, h0, Result.andThen_ok]
    rw [run_loadCellsFrom b o f s (i + 1) _ (fun j hj => by have := h (j + 1) (by omega); rw [show i + (j + 1) = i + 1 + j from by omega] at this; exact this)]
    simp [List.range'_succ]

theorem run_loadCells {w : World} (b o : Nat) (f : Nat → Value) (s : Nat) (h : ∀ j, j < s → w.cell? ⟨b, o + j, none⟩ = some (f j)) :
    (loadCells ⟨b, o, none⟩ s).run P w = .ok ((List.range s).map f).toArray w := by
  have := run_loadCellsFrom (P := P) b o f s 0 #[] (by simpa using h)
  simpa [loadCells, List.range_eq_range'] using this

/-- What is read from cells. -/
def partA (agg : Bool) (s : Nat) (cs : List AV) (off : Nat) : Option AV :=
  bif agg then (if off + s ≤ cs.length then some (.agg ((cs.drop off).take s)) else none) else cs[off]?

theorem part_rel {M : Mem} {β : Where} {agg : Bool} {s : Nat} {cs : List AV} {off : Nat} {x : AV} (h : partA agg s cs off = some x) (b o : Nat) (f : Nat → Value)
    {T : TypeId} (hT : (P.underlying T).isSome = true) (hs : szOf P T = some s) (ha : aggOf P T = agg)
    (hR : ∀ (j : Nat) c, cs[j]? = some c → RelV M β c (f j)) :
    ∃ v, RelV M β x v ∧ ∀ w, (∀ (j : Nat) c, cs[j]? = some c → w.cell? ⟨b, o + j, none⟩ = some (f j)) → (loadVar T ⟨b, o + off, none⟩).run P w = .ok v w := by
  unfold partA at h
  cases agg with
  | true =>
    simp only [cond_true] at h
    split at h <;> simp at h
    rename_i hle
    subst h
    refine ⟨.agg ((List.range s).map fun j => f (off + j)).toArray, .agg _ _ (by simp; omega) ?_, ?_⟩
    · intro i c x h1 h2
      have hi : i < s := by
        have := (List.getElem?_eq_some_iff.1 h1).1
        simp at this; omega
      simp [hi] at h1
      simp [hi] at h2
      subst h2
      exact hR (off + i) c h1
    · intro w hw
      have hc : ∀ j, j < s → w.cell? ⟨b, (o + off) + j, none⟩ = some (f (off + j)) := by
        intro j hj
        have : off + j < cs.length := by omega
        rw [Nat.add_assoc]
        exact hw (off + j) _ (List.getElem?_eq_getElem this)
      simp only [loadVar, Sem.run_bind, run_isAgg hT, ha, Result.andThen_ok, if_true, run_sizeOf hs, run_loadCells b (o + off) _ s hc]
      rfl
  | false =>
    simp only [cond_false] at h
    refine ⟨f off, hR off x h, ?_⟩
    intro w hw
    simp only [loadVar, Sem.run_bind, run_isAgg hT, ha, Result.andThen_ok, Bool.false_eq_true, if_false, run_load, hw off x h]

/-- A load. -/
theorem OpP.load {T : TypeId} {x : Operand} {s : Nat} {agg : Bool} (hT : (P.underlying T).isSome = true) (hs : szOf P T = some s) (ha : aggOf P T = agg) (y : AV)
    (hv : (∃ row off, ev st x = .fptr row off ∧ partA agg s (row.map .d) off = some y) ∨
      (∃ r off cs, ev st x = .ptr r 0 off ∧ st.roots[r]? = some (.box cs) ∧ partA agg s cs off = some y) ∨
      (∃ r i off sz rows lim row, ev st x = .ptr r i off ∧ st.roots[r]? = some (.arr sz rows lim) ∧ rows[i]? = some row ∧ partA agg s (row.map .d) off = some y))
    (h : K y) : OpP P n ⟨dst, .load T x, ty, pos, after, gu⟩ st K := by
  intro M β a w hrel
  have h1 := ev_rel hrel x
  have fin : ∀ (b o off : Nat) (v : Value), a.eval x = .pointer (some ⟨b, o + off, none⟩) → RelV M β y v → (∀ w', Ext w w' → (loadVar T ⟨b, o + off, none⟩).run P w' = .ok v w') →
      ∃ v x_1, K x_1 ∧ RelV M β x_1 v ∧ Yields P ⟨dst, .load T x, ty, pos, after, gu⟩ a w v := by
    intro b o off v hx hv hrun
    refine ⟨v, y, h, hv, .of fun w' hw' => ?_⟩
    simp [execOp, Instr.loadAt, Instr.sureAddr, hx, hrun w' hw']
  rcases hv with ⟨row, off, hx, hp⟩ | ⟨r, off, cs, hx, hroot, hp⟩ | ⟨r, i, off, sz, rows, lim, row, hx, hroot, hrow, hp⟩
  · rw [hx] at h1
    generalize hu : a.eval x = u at h1
    cases h1 with
    | fptr _ _ b o f hM hR =>
      obtain ⟨v, hv, hl⟩ := part_rel (P := P) (M := M) (β := β) hp b o f hT hs ha (by
        intro j c hj
        simp only [List.getElem?_map, Option.map_eq_some_iff] at hj
        obtain ⟨d, hd, rfl⟩ := hj
        exact .d _ _ (hR j d hd))
      refine fin b o off v hu hv fun w' hw' => hl w' ?_
      intro j c hj
      simp only [List.getElem?_map, Option.map_eq_some_iff] at hj
      obtain ⟨d, hd, rfl⟩ := hj
      exact hw'.cell (hrel.holds.frozen _ _ _ (hM j d hd))
  · rw [hx] at h1
    generalize hu : a.eval x = u at h1
    cases h1 with
    | ptr _ _ _ l hb =>
      have hr := hrel.holds.root r _ hroot
      rw [hb] at hr
      cases hr with
      | box b _ vals T' hw hlen hM hR =>
        have hf : ∀ (j : Nat) c, cs[j]? = some c → vals[j]? = some (vals.getD j undef) := by
          intro j c hj
          have := (List.getElem?_eq_some_iff.1 hj).1
          rw [hlen] at this
          simp [Array.getD, this]
        obtain ⟨v, hv, hl⟩ := part_rel (P := P) (M := M) (β := β) hp b 0 (fun j => vals.getD j undef) hT hs ha (by
          intro j c hj
          exact hR j c _ hj (hf j c hj))
        refine fin b 0 off v ?_ hv fun w' hw' => hl w' ?_
        · simpa using hu
        · intro j c hj
          refine hw'.cell ?_
          simp only [World.cell?, hw, Option.isSome_none, Bool.false_eq_true, if_false, Nat.zero_add]
          exact hf j c hj
  · rw [hx] at h1
    generalize hu : a.eval x = u at h1
    cases h1 with
    | ptr _ _ _ l hb =>
      have hr := hrel.holds.root r _ hroot
      rw [hb] at hr
      cases hr with
      | arr b o _ cap _ _ vals T' hw hcap hsize hrows hM hR =>
        have hi : i < rows.length := (List.getElem?_eq_some_iff.1 hrow).1
        have hlen := hrows i row hrow
        have hf : ∀ (j : Nat) c, row[j]? = some c → vals[o + i * sz + j]? = some (vals.getD (o + i * sz + j) undef) := by
          intro j c hj
          have h2 := (List.getElem?_eq_some_iff.1 hj).1
          have h3 : (i + 1) * sz ≤ cap * sz := Nat.mul_le_mul_right _ (by omega)
          rw [Nat.succ_mul] at h3
          have : o + i * sz + j < vals.size := by omega
          simp [Array.getD, this]
        obtain ⟨v, hv, hl⟩ := part_rel (P := P) (M := M) (β := β) hp b (o + i * sz) (fun j => vals.getD (o + i * sz + j) undef) hT hs ha (by
          intro j c hj
          simp only [List.getElem?_map, Option.map_eq_some_iff] at hj
          obtain ⟨d, hd, rfl⟩ := hj
          exact .d _ _ (hR i row j d _ hrow hd (hf j d hd)))
        refine fin b (o + i * sz) off v hu hv fun w' hw' => hl w' ?_
        intro j c hj
        simp only [List.getElem?_map, Option.map_eq_some_iff] at hj
        obtain ⟨d, hd, rfl⟩ := hj
        refine hw'.cell ?_
        simp only [World.cell?, hw, Option.isSome_none, Bool.false_eq_true, if_false]
        exact hf j d hd

theorem OpP.fieldAddr {T f o : Nat} {x : Operand} (hf : fldOf P T f = some o) (y : AV)
    (hv : (∃ row off, ev st x = .fptr row off ∧ y = .fptr row (off + o)) ∨ (∃ r i off, ev st x = .ptr r i off ∧ y = .ptr r i (off + o))) (h : K y) :
    OpP P n ⟨dst, .fieldAddr T x f, ty, pos, after, gu⟩ st K := by
  intro M β a w hrel
  have h1 := ev_rel hrel x
  unfold fldOf at hf
  split at hf <;> try (simp at hf; done)
  rename_i fs hfs
  simp only [Option.bind_eq_some_iff] at hf
  obtain ⟨fl, hfl, hf⟩ := hf
  split at hf <;> try (simp at hf; done)
  rename_i m hsz
  simp only [Option.some.injEq] at hf
  subst hf
  have hrun : ∀ (w' : World) (b k : Nat), (Instr.fieldAt T (.pointer (some ⟨b, k, none⟩)) f).run P w' = .ok (.pointer (some ⟨b, k + fl.offset, none⟩)) w' := by
    intro w' b k
    simp [Instr.fieldAt, run_underlying hfs, hfl, Instr.sureAddr, fieldPlace, run_sizeOf hsz, Addr.add_lit]
  rcases hv with ⟨row, off, hx, rfl⟩ | ⟨r, i, off, hx, rfl⟩
  · rw [hx] at h1
    generalize hu : a.eval x = u at h1
    cases h1 with
    | fptr _ _ b o f' hM hR =>
      refine ⟨_, _, h, .fptr row (off + fl.offset) b o f' hM hR, .of fun w' _ => ?_⟩
      simp [execOp, hu, hrun, Nat.add_assoc]
  · rw [hx] at h1
    generalize hu : a.eval x = u at h1
    cases h1 with
    | ptr _ _ _ l hb =>
      refine ⟨_, _, h, .ptr r i (off + fl.offset) l hb, .of fun w' _ => ?_⟩
      simp [execOp, hu, hrun, Nat.add_assoc]

/-! ### Slices -/

theorem run_indexAt {T e s : Nat} (hT : P.underlying T = some (.slice e)) (hs : szOf P e = some s) (w : World) (a : Addr) (len cap : Nat) (k : IntKind) (m : Int) (h0 : 0 ≤ m) (h1 : m < len) :
    (Instr.indexAt T (.slice (some a) len cap) (.int k m)).run P w = .ok (.pointer (some (a.add (m.toNat * s)))) w := by
  simp [Instr.indexAt, asIntOf, run_underlying hT, run_sizeOf hs, h0, h1]

/-- The address of an element of a slice. -/
theorem OpP.indexAddr_sl {T e s : Nat} {x i : Operand} (hT : P.underlying T = some (.slice e)) (hs : szOf P e = some s) (rows : List (List D)) (k : IntKind) (m : Int)
    (hx : ev st x = .d (.sl rows)) (hi : ev st i = .d (.con (.int k m))) (hb : 0 ≤ m ∧ m < rows.length)
    (h : ∀ row, rows[m.toNat]? = some row → row.length = s ∧ K (.fptr row 0)) : OpP P n ⟨dst, .indexAddr T x i, ty, pos, after, gu⟩ st K := by
  intro M β a w hrel
  have h1 := ev_rel hrel x
  have h2 := ev_rel hrel i
  rw [hx] at h1
  rw [hi] at h2
  have h2 := h2.con_eq
  generalize hu : a.eval x = u at h1
  obtain ⟨row, hrow⟩ : ∃ row, rows[m.toNat]? = some row := ⟨_, List.getElem?_eq_getElem (by omega)⟩
  obtain ⟨hlen, hk⟩ := h row hrow
  cases h1 with
  | d _ _ h1 =>
    cases h1 with
    | sl _ ad len cap b o f hl hcap had hM hR =>
      have hne : rows ≠ [] := fun e => by rw [e] at hrow; simp at hrow
      refine ⟨.pointer (some ⟨b, o + m.toNat * s + 0, none⟩), _, hk, .fptr row 0 b (o + m.toNat * s) (f m.toNat) ?_ ?_, .of fun w' _ => ?_⟩
      · intro j c hj
        rw [← hlen]; exact hM _ row j c hrow hj
      · intro j c hj
        exact hR _ row j c hrow hj
      · simp [execOp, hu, h2, had hne, run_indexAt hT hs w' _ len cap k m hb.1 (by omega), Addr.add_lit]

theorem OpP.indexAddr_vs {T e s : Nat} {x i : Operand} (hT : P.underlying T = some (.slice e)) (hs : szOf P e = some s) (r off len lim : Nat) (rows : List (List D)) (k : IntKind) (m : Int)
    (hx : ev st x = .vs r off len) (hr : st.roots[r]? = some (.arr s rows lim)) (hi : ev st i = .d (.con (.int k m))) (hb : 0 ≤ m ∧ m < len)
    (h : K (.ptr r (off + m.toNat) 0)) : OpP P n ⟨dst, .indexAddr T x i, ty, pos, after, gu⟩ st K := by
  intro M β a w hrel
  have h1 := ev_rel hrel x
  have h2 := ev_rel hrel i
  rw [hx] at h1
  rw [hi] at h2
  have h2 := h2.con_eq
  generalize hu : a.eval x = u at h1
  cases h1 with
  | vs _ _ _ l hl hcap =>
    have hroot := hrel.holds.root r _ hr
    rw [hl] at hroot
    cases hroot with
    | arr b o _ cap _ _ vals T' hw hcap2 hsize hrows hM hR =>
      refine ⟨_, _, h, .ptr r (off + m.toNat) 0 _ hl, .of fun w' _ => ?_⟩
      simp [execOp, hu, h2, run_indexAt hT hs w' _ len _ k m hb.1 hb.2, Addr.add_lit, Nat.add_mul, Nat.add_assoc]
  | vsE => omega
  | vsV => omega

def byteAt (s : ByteArray) (i : Nat) : Nat := (s.data.toList.getD i 0).toNat

theorem OpP.index_str {T : Nat} {x i : Operand} (hT : P.underlying T = some .string) (s : ByteArray) (k : IntKind) (m : Int)
    (hx : ev st x = .d (.con (.string s))) (hi : ev st i = .d (.con (.int k m))) (hb : 0 ≤ m ∧ m < s.size)
    (h : K (.d (.con (.int .u8 (byteAt s m.toNat))))) : OpP P n ⟨dst, .index T x i, ty, pos, after, gu⟩ st K := by
  intro M β a w hrel
  have h1 := ev_rel hrel x
  have h2 := ev_rel hrel i
  rw [hx] at h1
  rw [hi] at h2
  refine ⟨_, _, h, .d _ _ (.con _), .of fun w' _ => ?_⟩
  have hm : m.toNat < s.size := by omega
  have hm' : m.toNat < s.data.size := hm
  have e1 : s[m.toNat]? = some (s.data.toList.getD m.toNat 0) := by
    rw [getElem?_pos s m.toNat hm]
    simp only [List.getD, Array.getElem?_toList, Array.getElem?_eq_getElem hm', Option.getD_some]
    rfl
  simp [execOp, h1.con_eq, h2.con_eq, Instr.index, asIntOf, run_underlying hT, hb.1, e1, byteAt]

theorem OpP.extract {x : Operand} {i : Nat} (vs : List AV) (y : AV) (hx : ev st x = .tup vs) (hi : vs[i]? = some y) (h : K y) :
    OpP P n ⟨dst, .extract x i, ty, pos, after, gu⟩ st K := by
  intro M β a w hrel
  have h1 := ev_rel hrel x
  rw [hx] at h1
  generalize hu : a.eval x = u at h1
  cases h1 with
  | tup _ us hlen hR =>
    have hi' : i < us.size := by have := (List.getElem?_eq_some_iff.1 hi).1; omega
    refine ⟨us[i], y, h, hR i y _ hi (by simp [hi']), .of fun w' _ => ?_⟩
    simp [execOp, hu, Instr.extract, hi']

end Go.Al
