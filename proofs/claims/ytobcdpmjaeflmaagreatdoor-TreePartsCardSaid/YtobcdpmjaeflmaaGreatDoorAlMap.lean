/- Al: maps of the call's own. -/
import Derived.Test.YtobcdpmjaeflmaaGreatDoorAlWrite2
import Derived.MapKept
import Derived.Carry
set_option linter.unusedVariables false
set_option linter.unusedSimpArgs false
namespace Go.Al
open Go.MapKept
variable {P : Program} {n : Nat} {p : Nat → Prop} {st : St} {dst : Option Tmp} {ty : TypeId} {pos : String} {after : Array Edge} {gu : Option (Nat × Bool)}

/-- Are two keys the same? -/
def keyEq (a b : Value) : Bool := match a, b with
  | .string x, .string y => bytesEq x y
  | .int _ x, .int _ y => decide (x = y)
  | .bool x, .bool y => x == y
  | _, _ => false
def mfind : List (Value × D) → Value → Option D
  | [], _ => none
  | (k', d) :: es, k => cond (keyEq k k') (some d) (mfind es k)
def mset : List (Value × D) → Value → D → List (Value × D)
  | [], k, d => [(k, d)]
  | (k', d') :: es, k, d => cond (keyEq k k') ((k', d) :: es) ((k', d') :: mset es k d)

theorem bytesEq_iff {a b : ByteArray} : bytesEq a b = true ↔ a = b := by
  unfold bytesEq
  constructor
  · intro h
    apply WideShapes.bytes_inj
    simpa [ByteArray.toList_eq] using h
  · rintro rfl; simp
theorem keyEq_same {mk : MK} {a b : Value} (ha : kokB mk a = true) (hb : kokB mk b = true) : Instr.sameNow (kdesc mk) a b = some (keyEq a b) ∧ (keyEq a b = true → a = b) := by
  cases mk <;> cases a <;> simp [kokB] at ha <;> cases b <;> simp [kokB] at hb
  · rename_i x y
    refine ⟨?_, fun h => by rw [bytesEq_iff.1 h]⟩
    simp only [kdesc, Instr.sameNow, keyEq]
    congr 1
    rw [Bool.eq_iff_iff, bytes_beq, bytesEq_iff]
  · subst ha; subst hb
    refine ⟨by simp [kdesc, Instr.sameNow, keyEq, Bool.beq_eq_decide_eq], fun h => by simp [keyEq] at h; rw [h]⟩
  · refine ⟨rfl, fun h => by simp [keyEq] at h; rw [h]⟩
theorem kok_isKey {mk : MK} {a : Value} (h : kokB mk a = true) : IsKey (kdesc mk) a := by
  cases mk <;> cases a <;> simp_all [kokB, kdesc, IsKey]

theorem findNow_rel {M : Mem} {mk : MK} {k : Value} (hk : kokB mk k = true) : ∀ (es : List (Value × D)) (l : List MapEntry) (i : Nat), es.length = l.length →
    (∀ (i : Nat) e x, es[i]? = some e → l[i]? = some x → x.key = e.1 ∧ kokB mk e.1 = true ∧ RelF M e.2 x.val) →
    (mfind es k = none ∧ Instr.findNow (kdesc mk) k l i = some none ∧ ∀ d, mset es k d = es ++ [(k, d)]) ∨
    (∃ j d e, mfind es k = some d ∧ Instr.findNow (kdesc mk) k l i = some (some (i + j, e.val)) ∧ l[j]? = some e ∧ e.key = k ∧ RelF M d e.val ∧ ∀ d', mset es k d' = es.set j (k, d'))
  | [], [], i, _, _ => .inl ⟨rfl, rfl, fun _ => rfl⟩
  | [], _ :: _, _, h, _ => by simp at h
  | _ :: _, [], _, h, _ => by simp at h
  | (k', d) :: es, x :: l, i, hlen, hR => by
    obtain ⟨h1, h2, h3⟩ := hR 0 _ _ rfl rfl
    dsimp only at h1 h2 h3
    obtain ⟨e1, e2⟩ := keyEq_same hk h2
    rw [← h1] at e1
    simp only [mfind, mset, Instr.findNow, e1]
    rw [h1]
    cases hb : keyEq k k' with
    | true =>
      have e3 := e2 hb
      subst e3
      exact .inr ⟨0, d, x, rfl, rfl, rfl, h1, h3, fun _ => rfl⟩
    | false =>
      simp only [cond_false]
      rcases findNow_rel hk es l (i + 1) (by simpa using hlen) (fun i e x h1 h2 => hR (i + 1) e x (by simpa using h1) (by simpa using h2)) with ⟨a1, a2, a3⟩ | ⟨j, d1, e, a1, a2, a3, a4, a5, a6⟩
      · exact .inl ⟨a1, a2, fun d => by rw [a3]; rfl⟩
      · exact .inr ⟨j + 1, d1, e, a1, by rw [a2]; congr 3; omega, by simpa using a3, a4, a5, fun d => by rw [a6]; rfl⟩

/-- A map that is made. -/
theorem OpE.makeMap {T : TypeId} {K : AV → St → Prop} (mk : MK) (h : K (.mp st.roots.length) { st with roots := st.roots ++ [.map mk []] }) : OpE P n p ⟨dst, .makeMap T none, ty, pos, after, gu⟩ st K := by
  refine .of_left fun M β a w hr => ?_
  have he := Ext.alloc w (.map #[] 0)
  have hsame := addW_same hr.holds (.at ⟨w.heap.size, 0, 1, 1⟩)
  have hrel : Rel n M (addW β st.roots.length (.at ⟨w.heap.size, 0, 1, 1⟩)) { st with roots := st.roots ++ [.map mk []] } a (w.alloc (.map #[] 0)) := by
    refine ⟨hr.size, hr.defers, fun t => (hr.env t).mono (fun _ _ _ h => h) hsame, ?_⟩
    refine hr.holds.add he _ _ (by intro l hl; cases hl; simp) ?_
    exact .map w.heap.size mk [] #[] 0 (by simp only [World.alloc, Array.getElem?_push, if_true]) rfl (fun o => hr.holds.no_mem (Nat.le_refl _) o) (by intro i e x h; simp at h)
  refine .val (v := .map (some w.heap.size)) (w' := w.alloc (.map #[] 0)) ?_ h (.mp _ ⟨w.heap.size, 0, 1, 1⟩ (by simp [addW])) hrel (Later.add hr.holds he _ (by intro l hl; cases hl; simp) (fun _ _ _ h => h) (fun _ _ _ => rfl))
  simp [execOp, RowKit.run_makeMap]

/-- What a map's type is. -/
def mapOf (P : Program) (T : Nat) (mk : MK) (e : Nat) : Prop := ∃ kt, P.underlying T = some (.map kt e) ∧ P.underlying kt = some (kdesc mk)

/-- What a look at a map gives. -/
def foundA (ok : Bool) (z : Value) : Option D → AV
  | some d => cond ok (.tup [.d d, .d (.con (.bool true))]) (.d d)
  | none => cond ok (.tup [.d (.con z), .d (.con (.bool false))]) (.d (.con z))
theorem found_rel {M : Mem} {β : Where} {ok : Bool} {X : AV} {v : Value} {t : Bool} (hX : RelV M β X v) : RelV M β (cond ok (.tup [X, .d (.con (.bool t))]) X) (if ok then .tuple #[v, .bool t] else v) := by
  cases ok
  · exact hX
  · refine .tup _ _ rfl ?_
    intro i c y h1 h2
    match i with
    | 0 => simp at h1 h2; subst h1; subst h2; exact hX
    | 1 => simp at h1 h2; subst h1; subst h2; exact .d _ _ (.con _)
    | i + 2 => simp at h1
theorem OpP.lookup {T e : TypeId} {x k : Operand} {ok : Bool} {K : AV → Prop} (r : Nat) (mk : MK) (es : List (Value × D)) (kv z : Value) (hT : mapOf P T mk e) (hz : zeroOf P e = some z)
    (hx : ev st x = .mp r) (hr : st.roots[r]? = some (.map mk es)) (hk : ev st k = .d (.con kv)) (hkk : kokB mk kv = true)
    (h : K (foundA ok z (mfind es kv))) : OpP P n ⟨dst, .lookup T x k ok, ty, pos, after, gu⟩ st K := by
  intro M β a w hrel
  have hrx := ev_rel hrel x
  have hrk := ev_rel hrel k
  rw [hx] at hrx
  rw [hk] at hrk
  obtain ⟨kt, hT1, hT2⟩ := hT
  generalize hu : a.eval x = u at hrx
  cases hrx with
  | mp _ l hl =>
    have hroot := hrel.holds.root r _ hr
    rw [hl] at hroot
    cases hroot with
    | map b _ _ arr clock hw hlen hM hR =>
      have hkey := kok_isKey hkk
      dsimp only at hu
      have hw' : ∀ w', Ext w w' → w'.heap[b]? = some (.map arr clock) := fun w' he => (he.heap b (lt_of_heap hw)).trans hw
      rcases findNow_rel (M := M) hkk es arr.toList 0 (by simpa using hlen) (fun i e x h1 h2 => hR i e x h1 (by simpa using h2)) with ⟨h1, h2, _⟩ | ⟨j, d, e0, h1, h2, h3, h4, h5, _⟩
      · rw [h1] at h
        refine ⟨if ok then .tuple #[z, .bool false] else z, _, h, ?_, .of fun w' he => ?_⟩
        · exact found_rel (.d _ _ (.con z))
        · simp only [execOp, hu, hrk.con_eq, Instr.lookup, Sem.run_bind, run_underlying hT1, Result.andThen_ok, MapKept.run_getObj_map (hw' w' he), Sem.run_pure, MapKept.run_checkKey hT2 hkey, MapKept.run_findKey hT2 h2, run_zeroValue hz]
      · rw [h1] at h
        refine ⟨if ok then .tuple #[e0.val, .bool true] else e0.val, _, h, ?_, .of fun w' he => ?_⟩
        · exact found_rel (.d _ _ h5)
        · simp only [execOp, hu, hrk.con_eq, Instr.lookup, Sem.run_bind, run_underlying hT1, Result.andThen_ok, MapKept.run_getObj_map (hw' w' he), Sem.run_pure, MapKept.run_checkKey hT2 hkey, MapKept.run_findKey hT2 h2]

theorem keep_same {v : Value} {mk : MK} (hk : kokB mk v = true) (w : World) : (Instr.keyThatStays v v).run P w = .ok v w := by
  unfold Instr.keyThatStays
  have : Instr.sameBits 10000 v v = true := by
    cases mk <;> cases v <;> simp [kokB] at hk <;> simp [Instr.sameBits, bytes_beq]
  simp [this]

/-- What a map's block is set to. -/
theorem mapSet {M : Mem} {β : Where} {w : World} {a : Act} {r : Nat} {b : Nat} {mk : MK} {es es' : List (Value × D)} {arr arr' : Array MapEntry} {c c' : Nat} (hrel : Rel n M β st a w) (hr : st.roots[r]? = some (.map mk es)) (hl : β r = .at ⟨b, 0, 1, 1⟩)
    (hw : w.heap[b]? = some (.map arr c)) (hM : ∀ o, M b o = none) (hlen : es'.length = arr'.size) (hR : ∀ (i : Nat) e x, es'[i]? = some e → arr'[i]? = some x → x.key = e.1 ∧ kokB mk e.1 = true ∧ RelF M e.2 x.val) :
    Rel n M β { st with roots := st.roots.set r (.map mk es') } a { w with heap := w.heap.setIfInBounds b (.map arr' c') } ∧ Later p M β w M β { w with heap := w.heap.setIfInBounds b (.map arr' c') } := by
  have hh := hrel.holds
  have hrlt : r < st.roots.length := (List.getElem?_eq_some_iff.1 hr).1
  have hsame : setW β r (.at ⟨b, 0, 1, 1⟩) = β := by
    funext q
    unfold setW
    split
    · rename_i e; rw [e, hl]
    · rfl
  have hf : ∀ q q', some q = some q' → q' = q ∧ (q = r → Slot.at ⟨b, 0, 1, 1⟩ = β r) := fun q q' e => ⟨by cases e; rfl, fun _ => hl.symm⟩
  have hsz : w.heap.size ≤ ({ w with heap := w.heap.setIfInBounds b (.map arr' c') } : World).heap.size := by simp
  have hheap : ∀ b', b' < w.heap.size → (∀ l, β r = .at l → b' ≠ l.b) → ({ w with heap := w.heap.setIfInBounds b (.map arr' c') } : World).heap[b']? = w.heap[b']? := fun b' _ hne => (heap_set hw).2 b' (hne _ hl)
  have hb : b < w.heap.size := lt_of_heap hw
  have hturn := hh.turn (w' := { w with heap := w.heap.setIfInBounds b (.map arr' c') }) r hrlt (.at ⟨b, 0, 1, 1⟩) (.map mk es') some hf hsz hheap
    (by intro l' o y hl' hy; rw [hl] at hl'; cases hl'; rw [hM o] at hy; cases hy)
    (by intro l' hl'; cases hl'; exact ⟨by simpa using hb, .inl ⟨_, hl, rfl⟩⟩)
    (by
      rw [hsame]
      exact .map b mk es' arr' c' (heap_set hw).1 hlen hM hR)
  have hmap : st.roots.map (renR some) = st.roots := by
    rw [List.map_congr_left (fun x _ => renR_some x), List.map_id']
  rw [hmap] at hturn
  have hrel' := hrel.turn r _ some hf hturn
  rw [renE_some, hsame] at hrel'
  have hlater : Later p M β w M (setW β r (.at ⟨b, 0, 1, 1⟩)) { w with heap := w.heap.setIfInBounds b (.map arr' c') } :=
    Later.turn r _ hsz hheap (by intro l' hl'; cases hl'; exact .inl ⟨_, hl, rfl⟩) (fun _ => hl.symm) ⟨rfl, rfl, rfl⟩
  rw [hsame] at hlater
  exact ⟨hrel', hlater⟩

theorem run_update {M : Mem} {β : Where} {w : World} {a : Act} {T e : TypeId} (r : Nat) (mk : MK) (es : List (Value × D)) (kv : Value) (d : D) (hT : mapOf P T mk e) (hrel : Rel n M β st a w)
    (hr : st.roots[r]? = some (.map mk es)) (l : Loc) (hl : β r = .at l) (hkk : kokB mk kv = true) (v : Value) (hv : RelF M d v) : ∃ w', (Instr.mapUpdate T (.map (some l.b)) kv v).run P w = .ok () w' ∧
      Rel n M β { st with roots := st.roots.set r (.map mk (mset es kv d)) } a w' ∧ Later p M β w M β w' := by
  obtain ⟨kt, hT1, hT2⟩ := hT
  have hroot := hrel.holds.root r _ hr
  rw [hl] at hroot
  cases hroot with
  | map b _ _ arr clock hw hlen hM hR =>
    have hkey := kok_isKey hkk
    dsimp only
    rcases findNow_rel (M := M) hkk es arr.toList 0 (by simpa using hlen) (fun i e x h1 h2 => hR i e x h1 (by simpa using h2)) with ⟨h1, h2, h3⟩ | ⟨j, d0, e0, h1, h2, h3, h4, h5, h6⟩
    · refine ⟨_, ?_, mapSet (p := p) (arr' := arr.push ⟨kv, v, clock⟩) (c' := clock + 1) (es' := mset es kv d) hrel hr hl hw hM (by rw [h3]; simp [hlen]) ?_⟩
      · simp only [Instr.mapUpdate, Sem.run_bind, run_underlying hT1, Result.andThen_ok, MapKept.run_getObj_map hw, MapKept.run_checkKey hT2 hkey, MapKept.run_findKey hT2 h2, MapKept.run_setObj_map _ hw]
      · intro i e x g1 g2
        rw [h3] at g1
        rw [Array.getElem?_push] at g2
        by_cases hi : i = arr.size
        · subst hi
          rw [if_pos rfl] at g2
          cases g2
          rw [List.getElem?_append_right (by omega)] at g1
          simp [hlen] at g1
          subst g1
          exact ⟨rfl, hkk, hv⟩
        · rw [if_neg hi] at g2
          have : i < es.length := by
            have := (Array.getElem?_eq_some_iff.1 g2).1
            omega
          rw [List.getElem?_append_left this] at g1
          exact hR i e x g1 g2
    · have hj : arr[j]? = some e0 := by simpa using h3
      refine ⟨_, ?_, mapSet (p := p) (arr' := arr.modify j fun e => { e with key := kv, val := v }) (c' := clock) (es' := mset es kv d) hrel hr hl hw hM (by rw [h6]; simp [hlen]) ?_⟩
      · simp only [Nat.zero_add] at h2
        simp only [Instr.mapUpdate, Sem.run_bind, run_underlying hT1, Result.andThen_ok, MapKept.run_getObj_map hw, MapKept.run_checkKey hT2 hkey, MapKept.run_findKey hT2 h2, hj, Option.map_some, Option.getD_some, h4, keep_same hkk, MapKept.run_setObj_map _ hw]
      · intro i e x g1 g2
        rw [h6] at g1
        rw [Array.getElem?_modify] at g2
        by_cases hi : j = i
        · subst hi
          rw [if_pos rfl, hj] at g2
          simp only [Option.map_some, Option.some.injEq] at g2
          subst g2
          have hjl : j < es.length := by
            have := (Array.getElem?_eq_some_iff.1 hj).1
            omega
          rw [List.getElem?_set_self hjl] at g1
          cases g1
          exact ⟨rfl, hkk, hv⟩
        · rw [if_neg hi] at g2
          rw [List.getElem?_set_ne hi] at g1
          exact hR i e x g1 g2

theorem OpE.mapUpdate {T e : TypeId} {x k v : Operand} {K : AV → St → Prop} (r : Nat) (mk : MK) (es : List (Value × D)) (kv : Value) (d : D) (R' : List Root) (hT : mapOf P T mk e)
    (hx : ev st x = .mp r) (hk : ev st k = .d (.con kv)) (hkk : kokB mk kv = true) (hv : asD (ev st v) st.roots = some (d, R')) (hr : R'[r]? = some (.map mk es))
    (h : K (.d .any) { st with roots := R'.set r (.map mk (mset es kv d)) }) : OpE P n p ⟨dst, .mapUpdate T x k v, ty, pos, after, gu⟩ st K ∧ OpE P n p ⟨dst, .insert T x k v, ty, pos, after, gu⟩ st K := by
  have go : ∀ M β a w, Rel n M β st a w → ∃ M' w', (Instr.mapUpdate T (a.eval x) (a.eval k) (a.eval v)).run P w = .ok () w' ∧ Rel n M' β { st with roots := R'.set r (.map mk (mset es kv d)) } a w' ∧ Later p M β w M' β w' := by
    intro M β a w hrel
    have hrx := ev_rel hrel x
    have hrk := ev_rel hrel k
    rw [hx] at hrx
    rw [hk] at hrk
    obtain ⟨M1, hmore, hv1⟩ := asD_rel _ _ _ _ hv M β w hrel.holds
    have hrel1 : Rel n M1 β { st with roots := R' } a w := ⟨hrel.size, hrel.defers, fun t => (hrel.env t).mono hmore.le (fun _ _ => rfl), hmore.holds⟩
    generalize hu : a.eval x = u at hrx
    cases hrx with
    | mp _ l hl =>
      obtain ⟨w', h1, h2, h3⟩ := run_update (p := p) r mk es kv d hT hrel1 hr l hl hkk (a.eval v) (hv1 _ (ev_rel hrel v))
      rw [hrk.con_eq]
      exact ⟨M1, w', h1, h2, hmore.later.trans h3⟩
  constructor
  · refine .of_left fun M β a w hrel => ?_
    obtain ⟨M', w', h1, h2, h3⟩ := go M β a w hrel
    exact .skip (w' := w') (by simp only [execOp, Sem.run_bind, h1, Result.andThen_ok, Sem.run_pure]) h (.d _ _ (.any _)) h2 h3
  · refine .of_left fun M β a w hrel => ?_
    obtain ⟨M', w', h1, h2, h3⟩ := go M β a w hrel
    exact .skip (w' := w') (by simp only [execOp, Sem.run_bind, h1, Result.andThen_ok, Sem.run_pure]) h (.d _ _ (.any _)) h2 h3

/-- What must hold ahead of a look at a map. -/
def lookW (P : Program) (st : St) (T : Nat) (x k : AV) (ok : Bool) (K : AV → Prop) : Prop := match x, k with
  | .mp r, .d (.con kv) => match st.roots[r]? with
    | some (.map mk es) => kokB mk kv = true ∧ ∃ e z, mapOf P T mk e ∧ zeroOf P e = some z ∧ K (foundA ok z (mfind es kv))
    | _ => False
  | _, _ => False
theorem lookW_sound {T : TypeId} {x k : Operand} {ok : Bool} {K : AV → Prop} (h : lookW P st T (ev st x) (ev st k) ok K) : OpP P n ⟨dst, .lookup T x k ok, ty, pos, after, gu⟩ st K := by
  unfold lookW at h
  split at h <;> try (exact h.elim)
  rename_i r kv hx hk
  split at h <;> try (exact h.elim)
  rename_i mk es hr
  obtain ⟨h1, e, z, h2, h3, h4⟩ := h
  exact .lookup r mk es kv z h2 h3 hx hr hk h1 h4
/-- What must hold ahead of a map's being written. -/
def updW (P : Program) (st : St) (T : Nat) (x k v : AV) (K : AV → St → Prop) : Prop := match x, k with
  | .mp r, .d (.con kv) => ∃ d, asD v st.roots = some d ∧ (match d.2[r]? with
    | some (.map mk es) => kokB mk kv = true ∧ (∃ e, mapOf P T mk e) ∧ K (.d .any) { st with roots := d.2.set r (.map mk (mset es kv d.1)) }
    | _ => False)
  | _, _ => False
theorem updW_sound {T : TypeId} {x k v : Operand} {K : AV → St → Prop} (h : updW P st T (ev st x) (ev st k) (ev st v) K) : OpE P n p ⟨dst, .mapUpdate T x k v, ty, pos, after, gu⟩ st K ∧ OpE P n p ⟨dst, .insert T x k v, ty, pos, after, gu⟩ st K := by
  unfold updW at h
  split at h <;> try (exact ⟨h.elim, h.elim⟩)
  rename_i r kv hx hk
  obtain ⟨⟨d, R'⟩, hd, h⟩ := h
  split at h <;> try (exact ⟨h.elim, h.elim⟩)
  rename_i mk es hr
  obtain ⟨h1, ⟨e, h2⟩, h3⟩ := h
  exact OpE.mapUpdate r mk es kv d R' h2 hx hk h1 hd hr h3
end Go.Al
