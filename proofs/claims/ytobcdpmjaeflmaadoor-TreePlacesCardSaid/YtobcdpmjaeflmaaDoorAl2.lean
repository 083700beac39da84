/- Al: operations that write; calls; the precondition worked out. -/
import Derived.Test.YtobcdpmjaeflmaaDoorAl1
import Derived.Laws.CopyRow
import Derived.Deep.AppendSrc
import Derived.MapKept
import Derived.Carry
set_option linter.unusedVariables false
set_option linter.unusedSimpArgs false
namespace Go.Al
variable {P : Program} {n : Nat} {p : Nat → Prop} {st : St} {dst : Option Tmp} {ty : TypeId} {pos : String} {after : Array Edge} {gu : Option (Nat × Bool)}

mutual
theorem ren_some : ∀ a : AV, ren some a = a
  | .d _ => rfl
  | .vs .. => rfl
  | .ptr .. => rfl
  | .fptr .. => rfl
  | .agg cs => by simp only [ren, renL_some cs]
  | .tup cs => by simp only [ren, renL_some cs]
  | .fn _ cs => by simp only [ren, renL_some cs]
  | .gd _ x => by simp only [ren, ren_some x]
  | .mp r => by simp only [ren]
theorem renL_some : ∀ l : List AV, renL some l = l
  | [] => rfl
  | c :: cs => by simp only [renL, ren_some c, renL_some cs]
end

theorem renR_some (R : Root) : renR some R = R := by cases R <;> simp [renR, renL_some]

def renE (f : Nat → Option Nat) : List (Nat × AV) → List (Nat × AV)
  | [] => []
  | (k, v) :: e => (k, ren f v) :: renE f e

theorem renE_some : ∀ e, renE some e = e
  | [] => rfl
  | (k, v) :: e => by simp [renE, ren_some, renE_some e]

theorem look_renE (f : Nat → Option Nat) (t : Nat) : ∀ e, look (renE f e) t = ren f (look e t)
  | [] => rfl
  | (k, v) :: e => by
    simp only [renE, look]
    split
    · rfl
    · exact look_renE f t e

theorem splice_toArray' (cur : Array Value) (o : Nat) (vs : List Value) : (cur.toList.take o ++ vs ++ cur.toList.drop (o + vs.length)).toArray = (splice cur.toList o vs).toArray := rfl

theorem RelR.ren {M : Mem} {β β' : Where} {w : World} {f : Nat → Option Nat} (hf : ∀ r r', f r = some r' → β' r' = β r) {s : Slot} {root : Root} (h : RelR M β w s root) : RelR M β' w s (renR f root) := by
  cases h with
  | dead => exact .dead _
  | virt sz lim => exact .virt sz lim
  | box b cs vals T hw hlen hM hR =>
    simp only [renR]
    have e1 : (renL f cs).length = cs.length := by rw [renL_eq]; simp
    rw [← e1]
    refine .box b (renL f cs) vals T hw (by rw [e1]; exact hlen) hM ?_
    intro i c x h1 h2
    rw [renL_eq] at h1
    simp only [List.getElem?_map, Option.map_eq_some_iff] at h1
    obtain ⟨c0, h1, rfl⟩ := h1
    exact (hR i c0 x h1 h2).ren hf
  | arr b o sz cap lim rows vals T hw hcap hsize hrow hM hR => exact .arr b o sz cap lim rows vals T hw hcap hsize hrow hM hR
  | map b mk es arr clock hw hlen hM hR => exact .map b mk es arr clock hw hlen hM hR

/-- Where the roots lie when one has moved. -/
def setW (β : Where) (r : Nat) (s : Slot) : Where := fun q => if q = r then s else β q

/-- One root turns, the others stay. -/
theorem Holds.turn {M : Mem} {β : Where} {R : List Root} {w w' : World} (h : Holds M β R w) (r : Nat) (hr : r < R.length) (s' : Slot) (root' : Root) (f : Nat → Option Nat)
    (hf : ∀ q q', f q = some q' → q' = q ∧ (q = r → s' = β r)) (hsize : w.heap.size ≤ w'.heap.size)
    (hheap : ∀ b, b < w.heap.size → (∀ l, β r = .at l → b ≠ l.b) → w'.heap[b]? = w.heap[b]?)
    (hfro : ∀ l o x, β r = .at l → M l.b o = some x → w'.cell? ⟨l.b, o, none⟩ = some x)
    (hs : ∀ l', s' = .at l' → l'.b < w'.heap.size ∧ ((∃ l, β r = .at l ∧ l.b = l'.b) ∨ w.heap.size ≤ l'.b))
    (hroot : RelR M (setW β r s') w' s' root') : Holds M (setW β r s') ((R.map (renR f)).set r root') w' := by
  have hfβ : ∀ q q', f q = some q' → setW β r s' q' = β q := by
    intro q q' hq
    obtain ⟨rfl, h2⟩ := hf q q' hq
    unfold setW
    split
    · rename_i e; subst e; exact h2 rfl
    · rfl
  refine ⟨?_, ?_, ?_, ?_, ?_, h.glob.step hsize (fun b hb hn => hheap b hb fun l hl e => hn r l hl e.symm) (fun q l' hl' => by
    simp only [setW] at hl'
    split at hl'
    · rcases (hs l' hl').2 with ⟨l, hl, e⟩ | h0
      · exact .inl ⟨r, l, hl, e⟩
      · exact .inr h0
    · exact .inl ⟨q, l', hl', rfl⟩)⟩
  · intro b o x hx
    have hc := h.frozen b o x hx
    by_cases e : ∃ l, β r = .at l ∧ b = l.b
    · obtain ⟨l, hl, rfl⟩ := e
      exact hfro l o x hl hx
    · have hb := World.block_lt_of_cell? w _ hc
      unfold World.cell? at *
      rw [hheap b hb (fun l hl e' => e ⟨l, hl, e'⟩)]
      exact hc
  · intro q rt hq
    by_cases e : q = r
    · subst e
      have : q < (R.map (renR f)).length := by simpa using hr
      rw [List.getElem?_set_self this] at hq
      cases hq
      simpa [setW] using hroot
    · rw [List.getElem?_set_ne (Ne.symm e)] at hq
      simp only [List.getElem?_map, Option.map_eq_some_iff] at hq
      obtain ⟨rt0, hrt0, rfl⟩ := hq
      have h1 : RelR M (setW β r s') w (β q) (renR f rt0) := (h.root q rt0 hrt0).ren hfβ
      simp only [setW, if_neg e]
      have hne : ∀ l0, β q = .at l0 → w'.heap[l0.b]? = w.heap[l0.b]? := fun l0 hl0 =>
        hheap l0.b (h.low q l0 hl0) (fun l hl e' => e (h.inj q r l0 l hl0 hl e'))
      generalize hs0 : β q = s0 at h1
      generalize renR f rt0 = rt1 at h1
      cases h1 with
      | dead => exact .dead _
      | virt sz lim => exact .virt sz lim
      | box b cs vals T hw hlen hM hR => exact .box b cs vals T ((hne _ hs0).trans hw) hlen hM hR
      | arr b o sz cap lim rows vals T hw hcap hsize hrow hM hR => exact .arr b o sz cap lim rows vals T ((hne _ hs0).trans hw) hcap hsize hrow hM hR
      | map b mk es arr clock hw hlen hM hR => exact .map b mk es arr clock ((hne _ hs0).trans hw) hlen hM hR
  · intro q q' l1 l2 h1 h2 hb
    have key : ∀ q l1 l2, q ≠ r → β q = .at l1 → s' = .at l2 → l1.b ≠ l2.b := by
      intro q l1 l2 hq h1 h2 hb
      rcases (hs l2 h2).2 with ⟨l, hl, e⟩ | e
      · exact hq (h.inj q r l1 l h1 hl (hb.trans e.symm))
      · have := h.low q l1 h1; omega
    simp only [setW] at h1 h2
    split at h1 <;> split at h2
    · omega
    · exact absurd hb.symm (key q' l2 l1 (by assumption) h2 h1)
    · exact absurd hb (key q l1 l2 (by assumption) h1 h2)
    · exact h.inj q q' l1 l2 h1 h2 hb
  · intro q l1 h1
    simp only [setW] at h1
    split at h1
    · exact (hs l1 h1).1
    · exact Nat.lt_of_lt_of_le (h.low q l1 h1) hsize
  · intro q hq
    simp only [List.length_set, List.length_map]
    simp only [setW] at hq
    split at hq
    · omega
    · exact h.scope q hq

theorem Rel.turn {M : Mem} {β : Where} {w w' : World} {a : Act} (h : Rel n M β st a w) (r : Nat) (s' : Slot) (f : Nat → Option Nat)
    (hf : ∀ q q', f q = some q' → q' = q ∧ (q = r → s' = β r)) {R' : List Root} (hh : Holds M (setW β r s') R' w') :
    Rel n M (setW β r s') { env := renE f st.env, roots := R' } a w' := by
  refine ⟨h.size, h.defers, fun t => ?_, hh⟩
  simp only [look_renE]
  refine (h.env t).ren ?_
  intro q q' hq
  obtain ⟨rfl, h2⟩ := hf q q' hq
  unfold setW
  split
  · rename_i e; subst e; exact h2 rfl
  · rfl

theorem Later.turn {M : Mem} {β : Where} {w w' : World} (r : Nat) (s' : Slot) (hsize : w.heap.size ≤ w'.heap.size)
    (hheap : ∀ b, b < w.heap.size → (∀ l, β r = .at l → b ≠ l.b) → w'.heap[b]? = w.heap[b]?)
    (hs : ∀ l', s' = .at l' → (∃ l, β r = .at l ∧ l.b = l'.b) ∨ w.heap.size ≤ l'.b) (hpin : p r → s' = β r) (hst : w'.os = w.os ∧ w'.tape = w.tape ∧ w'.output = w.output) : Later p M β w M (setW β r s') w' := by
  refine ⟨fun _ _ _ h => h, hsize, fun b hb hr => ⟨hheap b hb (fun l hl e => hr r l hl e.symm), fun _ => rfl⟩, ?_, ?_, hst⟩
  · intro q l hl
    simp only [setW] at hl
    split at hl
    · rcases hs l hl with ⟨l0, h0, e⟩ | e
      · exact .inl ⟨r, l0, h0, e⟩
      · exact .inr e
    · exact .inl ⟨q, l, hl, rfl⟩
  · intro q hq _
    simp only [setW]
    split
    · rename_i e; subst e; exact hpin hq
    · rfl

/-! ### Stores -/

def oneA : AV → Bool
  | .d (.con v) => v.oneCell'
  | .d .cell => true
  | .d (.sl _) => true
  | .vs .. => true
  | .ptr .. => true
  | .fptr .. => true
  | .fn .. => true
  | .mp .. => true
  | _ => false

theorem oneA_rel {M : Mem} {β : Where} {a : AV} {v : Value} (h : RelV M β a v) (h1 : oneA a = true) : v.oneCell' = true := by
  cases h with
  | d x _ hf => cases hf <;> simp_all [oneA, Value.oneCell']
  | _ => simp_all [oneA, Value.oneCell']

/-- A store into a box. -/
theorem OpE.store_box {T : TypeId} {x v : Operand} {K : AV → St → Prop} (r off : Nat) (cs ns : List AV) (hx : ev st x = .ptr r 0 off) (hr : st.roots[r]? = some (.box cs))
    (hv : cellsA (ev st v) = some ns) (hs : szOf P T = some ns.length) (h1 : ∀ c, c ∈ ns → oneA c = true) (hle : off + ns.length ≤ cs.length)
    (h : K (.d .any) { st with roots := st.roots.set r (.box (splice cs off ns)) }) : OpE P n p ⟨dst, .store T x v, ty, pos, after, gu⟩ st K := by
  refine .of_left fun M β a w hrel => ?_
  have hh := hrel.holds
  have hrx := ev_rel hrel x
  have hrv := ev_rel hrel v
  rw [hx] at hrx
  generalize hu : a.eval x = u at hrx
  cases hrx with
  | ptr _ _ _ l hl =>
    have hroot := hh.root r _ hr
    rw [hl] at hroot
    have hrlt : r < st.roots.length := (List.getElem?_eq_some_iff.1 hr).1
    cases hroot with
    | box b _ vals T' hw hlen hM hR =>
      obtain ⟨e1, e2⟩ := cellsA_rel hrv hv
      have hone : ∀ y ∈ (a.eval v).cells.toList, y.oneCell' = true := by
        intro y hy
        obtain ⟨i, hi⟩ := List.mem_iff_getElem?.1 hy
        have hi' : i < ns.length := by
          rw [e1]; simpa using (List.getElem?_eq_some_iff.1 hi).1
        exact oneA_rel (e2 i ns[i] y (List.getElem?_eq_getElem hi') (by simpa using hi)) (h1 _ (List.getElem_mem hi'))
      have hlv : (a.eval v).cells.toList.length = ns.length := by simp [e1]
      have hrun := run_storeCells_at P b off T' (a.eval v).cells.toList 0 vals w hw (by simp only [Nat.add_zero, hlv]; omega) hone
      simp only [Nat.add_zero, splice_toArray'] at hrun
      generalize hnew : splice vals.toList off (a.eval v).cells.toList = new at hrun
      have hnl : new.length = vals.size := by rw [← hnew, splice_length _ _ _ (by rw [hlv]; simp; omega)]; simp
      have hget : ∀ k, new[k]? = if off ≤ k ∧ k < off + ns.length then (a.eval v).cells[k - off]? else vals[k]? := by
        intro k
        rw [← hnew, splice_get _ _ _ (by rw [hlv]; simp; omega), hlv]
        simp
      have hsame : setW β r (.at ⟨b, 0, cs.length, 1⟩) = β := by
        funext q
        unfold setW
        split
        · rename_i e; rw [e, hl]
        · rfl
      have hf : ∀ q q', some q = some q' → q' = q ∧ (q = r → Slot.at ⟨b, 0, cs.length, 1⟩ = β r) := fun q q' e => ⟨by cases e; rfl, fun _ => hl.symm⟩
      have hsz : w.heap.size ≤ (w.setRow b new.toArray).heap.size := by simp [World.setRow]
      have hheap : ∀ b', b' < w.heap.size → (∀ l, β r = .at l → b' ≠ l.b) → (w.setRow b new.toArray).heap[b']? = w.heap[b']? := fun b' _ hne => setRow_other w b b' _ (hne _ hl)
      have hb : b < w.heap.size := lt_of_heap hw
      have hturn := hh.turn (w' := w.setRow b new.toArray) r hrlt (.at ⟨b, 0, cs.length, 1⟩) (.box (splice cs off ns)) some hf hsz hheap
        (by intro l' o y hl' hy; rw [hl] at hl'; cases hl'; rw [hM o] at hy; cases hy)
        (by intro l' hl'; cases hl'; exact ⟨by simpa [World.setRow] using hb, .inl ⟨_, hl, rfl⟩⟩)
        (by
          have e3 : (splice cs off ns).length = cs.length := splice_length _ _ _ hle
          rw [hsame, ← e3]
          refine .box b _ new.toArray T' (setRow_heap w b vals _ T' (0, 0) hw) (by rw [e3]; simp [hnl]; exact hlen) hM ?_
          intro i c y hc hy
          rw [splice_get _ _ _ hle] at hc
          simp only [List.getElem?_toArray] at hy
          rw [hget] at hy
          by_cases hk : off ≤ i ∧ i < off + ns.length
          · rw [if_pos hk] at hc hy
            exact e2 _ c y hc hy
          · rw [if_neg hk] at hc hy
            exact hR i c y hc hy)
      have hmap : st.roots.map (renR some) = st.roots := by
        rw [List.map_congr_left (fun x _ => renR_some x), List.map_id']
      rw [hmap] at hturn
      have hrel' := hrel.turn r _ some hf hturn
      rw [renE_some] at hrel'
      have hlater : Later p M β w M (setW β r (.at ⟨b, 0, cs.length, 1⟩)) (w.setRow b new.toArray) :=
        Later.turn r _ hsz hheap (by intro l' hl'; cases hl'; exact .inl ⟨_, hl, rfl⟩) (fun _ => hl.symm) ⟨rfl, rfl, rfl⟩
      refine .skip (w' := w.setRow b new.toArray) ?_ h (.d _ _ (.any _)) hrel' hlater
      have hsz' : ¬ ((a.eval v).cells.size ≠ ns.length) := by simp [e1]
      simp only [execOp, Instr.storeAt, hu, Instr.sureAddr, Sem.run_bind, Sem.run_pure, Result.andThen_ok, storeVar, run_sizeOf hs, hsz', if_false, Nat.zero_mul, Nat.zero_add, hrun]

end Go.Al

namespace Go.Al
variable {P : Program} {n : Nat} {p : Nat → Prop} {st : St} {dst : Option Tmp} {ty : TypeId} {pos : String} {after : Array Edge} {gu : Option (Nat × Bool)}

def oneD : D → Bool
  | .con v => v.oneCell'
  | .cell => true
  | .sl _ => true
  | _ => false

theorem oneD_rel {M : Mem} {a : D} {v : Value} (h : RelF M a v) (h1 : oneD a = true) : v.oneCell' = true := by
  cases h <;> simp_all [oneD, Value.oneCell']

/-- A store into an array of the call's own. -/
theorem OpE.store_arr {T : TypeId} {x v : Operand} {K : AV → St → Prop} (r i off sz lim : Nat) (rows : List (List D)) (row ds : List D) (d : D) (R' : List Root) (hx : ev st x = .ptr r i off)
    (hv : asD (ev st v) st.roots = some (d, R')) (hr : R'[r]? = some (.arr sz rows lim)) (hrow : rows[i]? = some row)
    (hd : dcells d = some ds) (hs : szOf P T = some ds.length) (h1 : ∀ c, c ∈ ds → oneD c = true) (hle : off + ds.length ≤ row.length) (hlim : lim ≤ i)
    (h : K (.d .any) { st with roots := R'.set r (.arr sz (rows.set i (splice row off ds)) lim) }) : OpE P n p ⟨dst, .store T x v, ty, pos, after, gu⟩ st K := by
  refine .of_left fun M0 β a w hrel0 => ?_
  obtain ⟨M, hmore, hdv⟩ := asD_rel _ _ _ _ hv M0 β w hrel0.holds
  have hrel := More.rel hrel0 hmore
  have hh := hrel.holds
  have hrx := ev_rel hrel0 x
  have hrv := hdv _ (ev_rel hrel0 v)
  rw [hx] at hrx
  generalize hu : a.eval x = u at hrx
  cases hrx with
  | ptr _ _ _ l hl =>
    have hroot := hh.root r _ hr
    rw [hl] at hroot
    have hrlt : r < R'.length := (List.getElem?_eq_some_iff.1 hr).1
    cases hroot with
    | arr b o _ cap _ _ vals T' hw hcap hsize hrows hM hR =>
      obtain ⟨e1, e2⟩ := dcells_rel hrv hd
      have hone : ∀ y ∈ (a.eval v).cells.toList, y.oneCell' = true := by
        intro y hy
        obtain ⟨k, hk⟩ := List.mem_iff_getElem?.1 hy
        have hk' : k < ds.length := by
          rw [e1]; simpa using (List.getElem?_eq_some_iff.1 hk).1
        exact oneD_rel (e2 k ds[k] y (List.getElem?_eq_getElem hk') (by simpa using hk)) (h1 _ (List.getElem_mem hk'))
      have hlv : (a.eval v).cells.toList.length = ds.length := by simp [e1]
      have hi : i < rows.length := (List.getElem?_eq_some_iff.1 hrow).1
      have hrl := hrows i row hrow
      have hm : (i + 1) * sz ≤ cap * sz := Nat.mul_le_mul_right _ (by omega)
      rw [Nat.succ_mul] at hm
      have hrun := run_storeCells_at P b (o + i * sz + off) T' (a.eval v).cells.toList 0 vals w hw (by simp only [Nat.add_zero, hlv]; omega) hone
      simp only [Nat.add_zero, splice_toArray'] at hrun
      generalize hnew : splice vals.toList (o + i * sz + off) (a.eval v).cells.toList = new at hrun
      have hfit : o + i * sz + off + (a.eval v).cells.toList.length ≤ vals.toList.length := by rw [hlv]; simp; omega
      have hnl : new.length = vals.size := by rw [← hnew, splice_length _ _ _ hfit]; simp
      have hget : ∀ k, new[k]? = if o + i * sz + off ≤ k ∧ k < o + i * sz + off + ds.length then (a.eval v).cells[k - (o + i * sz + off)]? else vals[k]? := by
        intro k
        rw [← hnew, splice_get _ _ _ hfit, hlv]
        simp
      have hsame : setW β r (.at ⟨b, o, sz, cap⟩) = β := by
        funext q
        unfold setW
        split
        · rename_i e; rw [e, hl]
        · rfl
      have hf : ∀ q q', some q = some q' → q' = q ∧ (q = r → Slot.at ⟨b, o, sz, cap⟩ = β r) := fun q q' e => ⟨by cases e; rfl, fun _ => hl.symm⟩
      have hsz : w.heap.size ≤ (w.setRow b new.toArray).heap.size := by simp [World.setRow]
      have hheap : ∀ b', b' < w.heap.size → (∀ l, β r = .at l → b' ≠ l.b) → (w.setRow b new.toArray).heap[b']? = w.heap[b']? := fun b' _ hne => setRow_other w b b' _ (hne _ hl)
      have hb : b < w.heap.size := lt_of_heap hw
      have hnw := setRow_heap w b vals new.toArray T' (0, 0) hw
      have hlimle : lim * sz ≤ i * sz := Nat.mul_le_mul_right _ hlim
      have hturn := hh.turn (w' := w.setRow b new.toArray) r hrlt (.at ⟨b, o, sz, cap⟩) (.arr sz (rows.set i (splice row off ds)) lim) some hf hsz hheap
        (by
          intro l' q y hl' hy
          rw [hl] at hl'
          cases hl'
          have hq : q < o + lim * sz := by
            rcases Nat.lt_or_ge q (o + lim * sz) with h' | h'
            · exact h'
            · rw [hM q h'] at hy; cases hy
          have := hh.frozen b q y hy
          simp only [World.cell?, hw, hnw, Option.isSome_none, Bool.false_eq_true, if_false, List.getElem?_toArray] at this ⊢
          rw [hget, if_neg (by omega)]
          exact this)
        (by intro l' hl'; cases hl'; exact ⟨by simpa [World.setRow] using hb, .inl ⟨_, hl, rfl⟩⟩)
        (by
          rw [hsame]
          refine .arr b o sz cap lim _ new.toArray T' hnw (by simpa using hcap) (by simp [hnl]; exact hsize) ?_ hM ?_
          · intro k rw' hk
            by_cases e : k = i
            · subst e
              rw [List.getElem?_set_self (by omega)] at hk
              cases hk
              rw [splice_length _ _ _ hle]; exact hrl
            · rw [List.getElem?_set_ne (Ne.symm e)] at hk
              exact hrows k rw' hk
          · intro k rw' j c y hk hj hy
            simp only [List.getElem?_toArray] at hy
            rw [hget] at hy
            by_cases e : k = i
            · subst e
              rw [List.getElem?_set_self (by omega)] at hk
              cases hk
              rw [splice_get _ _ _ hle] at hj
              by_cases hc : off ≤ j ∧ j < off + ds.length
              · rw [if_pos hc] at hj
                rw [if_pos (by omega), show o + k * sz + j - (o + k * sz + off) = j - off from by omega] at hy
                exact e2 _ c y hj hy
              · rw [if_neg hc] at hj
                rw [if_neg (by omega)] at hy
                exact hR k row j c y hrow hj hy
            · rw [List.getElem?_set_ne (Ne.symm e)] at hk
              have hkl := hrows k rw' hk
              have hjl : j < sz := by rw [← hkl]; exact (List.getElem?_eq_some_iff.1 hj).1
              rw [if_neg] at hy
              · exact hR k rw' j c y hk hj hy
              · intro hc
                rcases Nat.lt_or_ge k i with h' | h'
                · have := Nat.mul_le_mul_right sz (show k + 1 ≤ i from h')
                  rw [Nat.succ_mul] at this
                  omega
                · have := Nat.mul_le_mul_right sz (show i + 1 ≤ k from by omega)
                  rw [Nat.succ_mul] at this
                  omega)
      have hmap : R'.map (renR some) = R' := by
        rw [List.map_congr_left (fun x _ => renR_some x), List.map_id']
      rw [hmap] at hturn
      have hrel' := hrel.turn r _ some hf hturn
      rw [renE_some] at hrel'
      have hlater : Later p M β w M (setW β r (.at ⟨b, o, sz, cap⟩)) (w.setRow b new.toArray) :=
        Later.turn r _ hsz hheap (by intro l' hl'; cases hl'; exact .inl ⟨_, hl, rfl⟩) (fun _ => hl.symm) ⟨rfl, rfl, rfl⟩
      refine .skip (w' := w.setRow b new.toArray) ?_ h (.d _ _ (.any _)) hrel' (hmore.later.trans hlater)
      have hsz' : ¬ ((a.eval v).cells.size ≠ ds.length) := by simp [e1]
      simp only [execOp, Instr.storeAt, hu, Instr.sureAddr, Sem.run_bind, Sem.run_pure, Result.andThen_ok, storeVar, run_sizeOf hs, hsz', if_false, hrun]

/-- A slice made. -/
theorem OpE.makeSlice {T e sz bytes : Nat} {x y : Operand} {K : AV → St → Prop} (hT : P.underlying T = some (.slice e)) (z : Value) (i : TypeInfo) (hi : P.info? e = some i) (hz : i.zero = some z)
    (hsz : i.size = sz) (hby : i.bytes = bytes) (zr : List D) (hzr : dcells (.con z) = some zr) (hzl : zr.length = sz) (hpos : 0 < sz) (k k' : IntKind) (m m' : Int)
    (hx : ev st x = .d (.con (.int k m))) (hy : ev st y = .d (.con (.int k' m'))) (h0 : 0 ≤ m) (hm : m ≤ m') (hb : bytes * m'.toNat ≤ 140737488355328) (hmax : m'.toNat ≤ 140737488355328)
    (h : K (.vs st.roots.length 0 m.toNat) { st with roots := st.roots ++ [.arr sz (List.replicate m.toNat zr) 0] }) : OpE P n p ⟨dst, .makeSlice T x y, ty, pos, after, gu⟩ st K := by
  subst hsz; subst hby
  refine .of_left fun M β a w hr => ?_
  have h1 := ev_rel hr x
  have h2 := ev_rel hr y
  rw [hx] at h1
  rw [hy] at h2
  have h1 := h1.con_eq
  have h2 := h2.con_eq
  have hbi : (i.bytes : Int) * m' ≤ 281474976710656 := by
    have e1 : ((i.bytes * m'.toNat : Nat) : Int) ≤ 140737488355328 := by omega
    rw [Int.natCast_mul, Int.toNat_of_nonneg (by omega)] at e1
    omega
  have hrun := run_make (P := P) w T e i z hT hi hz k k' m m' h0 hm hbi (by omega)
  have he := Ext.alloc w (.cells (madeCells z.cells (m'.toNat * i.size)) e)
  obtain ⟨e1, e2⟩ := dcells_rel (M := M) (.con z) hzr
  have hsame := addW_same hr.holds (.at ⟨w.heap.size, 0, i.size, m'.toNat⟩)
  refine .val (v := .slice (some ⟨w.heap.size, 0, none⟩) m.toNat m'.toNat) (w' := w.alloc (.cells (madeCells z.cells (m'.toNat * i.size)) e)) (M' := M)
    (β' := addW β st.roots.length (.at ⟨w.heap.size, 0, i.size, m'.toNat⟩)) ?_ h ?_ ⟨hr.size, hr.defers, fun t => (hr.env t).mono (fun _ _ _ h => h) hsame, ?_⟩ ?_
  · simp only [execOp, h1, h2, Sem.run_bind, hrun]
    rfl
  · have := RelV.vs (M := M) (β := addW β st.roots.length (.at ⟨w.heap.size, 0, i.size, m'.toNat⟩)) st.roots.length 0 m.toNat ⟨w.heap.size, 0, i.size, m'.toNat⟩ (by simp [addW]) (by simp; omega)
    simpa using this
  · refine hr.holds.add he _ _ (by intro l hl; cases hl; simp) ?_
    refine .arr w.heap.size 0 i.size m'.toNat 0 _ (madeCells z.cells (m'.toNat * i.size)) e (by simp only [World.alloc, Array.getElem?_push, if_true]) (by simp; omega) (by simp [size_madeCells]) ?_ ?_ ?_
    · intro q row hq
      have := List.getElem?_eq_some_iff.1 hq
      obtain ⟨_, hq⟩ := this
      simp at hq
      subst hq
      exact hzl
    · intro q _
      exact hr.holds.no_mem (Nat.le_refl _) q
    · intro q row j c v hq hj hv
      obtain ⟨hql, hq⟩ := List.getElem?_eq_some_iff.1 hq
      simp at hq
      subst hq
      have hjl : j < zr.length := (List.getElem?_eq_some_iff.1 hj).1
      simp only [Nat.zero_add] at hv
      refine e2 j c v hj ?_
      have hmod : (q * i.size + j) % z.cells.size = j := by
        rw [← e1, hzl, Nat.mul_comm, Nat.mul_add_mod, Nat.mod_eq_of_lt (by omega)]
      unfold madeCells at hv
      simp only [Array.getElem?_map, Option.map_eq_some_iff] at hv
      obtain ⟨t, ht, hv⟩ := hv
      have ht' : t = q * i.size + j := by
        obtain ⟨_, ht⟩ := Array.getElem?_eq_some_iff.1 ht
        simpa using ht.symm
      subst ht'
      rw [hmod] at hv
      rw [← hv]
      have : j < z.cells.size := by omega
      simp [getElem!_pos, this]
  · exact Later.add hr.holds he _ (by intro l hl; cases hl; simp) (fun _ _ _ h => h) (fun _ _ _ => rfl)

end Go.Al

namespace Go.Al
open Go.MapKept
variable {P : Program} {n : Nat} {p : Nat → Prop} {st : St} {dst : Option Tmp} {ty : TypeId} {pos : String} {after : Array Edge} {gu : Option (Nat × Bool)}

/-- Are two keys the same? -/
def keyEq (a b : Value) : Bool := match a, b with
  | .string x, .string y => bytesEq x y
  | .int _ x, .int _ y => decide (x = y)
  | .bool x, .bool y => x == y
  | _, _ => false
def mfind : List (Value × D) → Value → Option D
  | [], _ => none
  | (k', d) :: es, k => cond (keyEq k k') (some d) (mfind es k)
def mset : List (Value × D) → Value → D → List (Value × D)
  | [], k, d => [(k, d)]
  | (k', d') :: es, k, d => cond (keyEq k k') ((k', d) :: es) ((k', d') :: mset es k d)

theorem bytesEq_iff {a b : ByteArray} : bytesEq a b = true ↔ a = b := by
  unfold bytesEq
  constructor
  · intro h
    apply WideShapes.bytes_inj
    simpa [ByteArray.toList_eq] using h
  · rintro rfl; simp
theorem keyEq_same {mk : MK} {a b : Value} (ha : kokB mk a = true) (hb : kokB mk b = true) : Instr.sameNow (kdesc mk) a b = some (keyEq a b) ∧ (keyEq a b = true → a = b) := by
  cases mk <;> cases a <;> simp [kokB] at ha <;> cases b <;> simp [kokB] at hb
  · rename_i x y
    refine ⟨?_, fun h => by rw [bytesEq_iff.1 h]⟩
    simp only [kdesc, Instr.sameNow, keyEq]
    congr 1
    rw [Bool.eq_iff_iff, bytes_beq, bytesEq_iff]
  · subst ha; subst hb
    refine ⟨by simp [kdesc, Instr.sameNow, keyEq, Bool.beq_eq_decide_eq], fun h => by simp [keyEq] at h; rw [h]⟩
  · refine ⟨rfl, fun h => by simp [keyEq] at h; rw [h]⟩
theorem kok_isKey {mk : MK} {a : Value} (h : kokB mk a = true) : IsKey (kdesc mk) a := by
  cases mk <;> cases a <;> simp_all [kokB, kdesc, IsKey]

theorem findNow_rel {M : Mem} {mk : MK} {k : Value} (hk : kokB mk k = true) : ∀ (es : List (Value × D)) (l : List MapEntry) (i : Nat), es.length = l.length →
    (∀ (i : Nat) e x, es[i]? = some e → l[i]? = some x → x.key = e.1 ∧ kokB mk e.1 = true ∧ RelF M e.2 x.val) →
    (mfind es k = none ∧ Instr.findNow (kdesc mk) k l i = some none ∧ ∀ d, mset es k d = es ++ [(k, d)]) ∨
    (∃ j d e, mfind es k = some d ∧ Instr.findNow (kdesc mk) k l i = some (some (i + j, e.val)) ∧ l[j]? = some e ∧ e.key = k ∧ RelF M d e.val ∧ ∀ d', mset es k d' = es.set j (k, d'))
  | [], [], i, _, _ => .inl ⟨rfl, rfl, fun _ => rfl⟩
  | [], _ :: _, _, h, _ => by simp at h
  | _ :: _, [], _, h, _ => by simp at h
  | (k', d) :: es, x :: l, i, hlen, hR => by
    obtain ⟨h1, h2, h3⟩ := hR 0 _ _ rfl rfl
    dsimp only at h1 h2 h3
    obtain ⟨e1, e2⟩ := keyEq_same hk h2
    rw [← h1] at e1
    simp only [mfind, mset, Instr.findNow, e1]
    rw [h1]
    cases hb : keyEq k k' with
    | true =>
      have e3 := e2 hb
      subst e3
      exact .inr ⟨0, d, x, rfl, rfl, rfl, h1, h3, fun _ => rfl⟩
    | false =>
      simp only [cond_false]
      rcases findNow_rel hk es l (i + 1) (by simpa using hlen) (fun i e x h1 h2 => hR (i + 1) e x (by simpa using h1) (by simpa using h2)) with ⟨a1, a2, a3⟩ | ⟨j, d1, e, a1, a2, a3, a4, a5, a6⟩
      · exact .inl ⟨a1, a2, fun d => by rw [a3]; rfl⟩
      · exact .inr ⟨j + 1, d1, e, a1, by rw [a2]; congr 3; omega, by simpa using a3, a4, a5, fun d => by rw [a6]; rfl⟩

/-- A map that is made. -/
theorem OpE.makeMap {T : TypeId} {K : AV → St → Prop} (mk : MK) (h : K (.mp st.roots.length) { st with roots := st.roots ++ [.map mk []] }) : OpE P n p ⟨dst, .makeMap T none, ty, pos, after, gu⟩ st K := by
  refine .of_left fun M β a w hr => ?_
  have he := Ext.alloc w (.map #[] 0)
  have hsame := addW_same hr.holds (.at ⟨w.heap.size, 0, 1, 1⟩)
  have hrel : Rel n M (addW β st.roots.length (.at ⟨w.heap.size, 0, 1, 1⟩)) { st with roots := st.roots ++ [.map mk []] } a (w.alloc (.map #[] 0)) := by
    refine ⟨hr.size, hr.defers, fun t => (hr.env t).mono (fun _ _ _ h => h) hsame, ?_⟩
    refine hr.holds.add he _ _ (by intro l hl; cases hl; simp) ?_
    exact .map w.heap.size mk [] #[] 0 (by simp only [World.alloc, Array.getElem?_push, if_true]) rfl (fun o => hr.holds.no_mem (Nat.le_refl _) o) (by intro i e x h; simp at h)
  refine .val (v := .map (some w.heap.size)) (w' := w.alloc (.map #[] 0)) ?_ h (.mp _ ⟨w.heap.size, 0, 1, 1⟩ (by simp [addW])) hrel (Later.add hr.holds he _ (by intro l hl; cases hl; simp) (fun _ _ _ h => h) (fun _ _ _ => rfl))
  simp [execOp, RowKit.run_makeMap]

/-- What a map's type is. -/
def mapOf (P : Program) (T : Nat) (mk : MK) (e : Nat) : Prop := ∃ kt, P.underlying T = some (.map kt e) ∧ P.underlying kt = some (kdesc mk)

/-- What a look at a map gives. -/
def foundA (ok : Bool) (z : Value) : Option D → AV
  | some d => cond ok (.tup [.d d, .d (.con (.bool true))]) (.d d)
  | none => cond ok (.tup [.d (.con z), .d (.con (.bool false))]) (.d (.con z))
theorem found_rel {M : Mem} {β : Where} {ok : Bool} {X : AV} {v : Value} {t : Bool} (hX : RelV M β X v) : RelV M β (cond ok (.tup [X, .d (.con (.bool t))]) X) (if ok then .tuple #[v, .bool t] else v) := by
  cases ok
  · exact hX
  · refine .tup _ _ rfl ?_
    intro i c y h1 h2
    match i with
    | 0 => simp at h1 h2; subst h1; subst h2; exact hX
    | 1 => simp at h1 h2; subst h1; subst h2; exact .d _ _ (.con _)
    | i + 2 => simp at h1
theorem OpP.lookup {T e : TypeId} {x k : Operand} {ok : Bool} {K : AV → Prop} (r : Nat) (mk : MK) (es : List (Value × D)) (kv z : Value) (hT : mapOf P T mk e) (hz : zeroOf P e = some z)
    (hx : ev st x = .mp r) (hr : st.roots[r]? = some (.map mk es)) (hk : ev st k = .d (.con kv)) (hkk : kokB mk kv = true)
    (h : K (foundA ok z (mfind es kv))) : OpP P n ⟨dst, .lookup T x k ok, ty, pos, after, gu⟩ st K := by
  intro M β a w hrel
  have hrx := ev_rel hrel x
  have hrk := ev_rel hrel k
  rw [hx] at hrx
  rw [hk] at hrk
  obtain ⟨kt, hT1, hT2⟩ := hT
  generalize hu : a.eval x = u at hrx
  cases hrx with
  | mp _ l hl =>
    have hroot := hrel.holds.root r _ hr
    rw [hl] at hroot
    cases hroot with
    | map b _ _ arr clock hw hlen hM hR =>
      have hkey := kok_isKey hkk
      dsimp only at hu
      have hw' : ∀ w', Ext w w' → w'.heap[b]? = some (.map arr clock) := fun w' he => (he.heap b (lt_of_heap hw)).trans hw
      rcases findNow_rel (M := M) hkk es arr.toList 0 (by simpa using hlen) (fun i e x h1 h2 => hR i e x h1 (by simpa using h2)) with ⟨h1, h2, _⟩ | ⟨j, d, e0, h1, h2, h3, h4, h5, _⟩
      · rw [h1] at h
        refine ⟨if ok then .tuple #[z, .bool false] else z, _, h, ?_, .of fun w' he => ?_⟩
        · exact found_rel (.d _ _ (.con z))
        · simp only [execOp, hu, hrk.con_eq, Instr.lookup, Sem.run_bind, run_underlying hT1, Result.andThen_ok, MapKept.run_getObj_map (hw' w' he), Sem.run_pure, MapKept.run_checkKey hT2 hkey, MapKept.run_findKey hT2 h2, run_zeroValue hz]
      · rw [h1] at h
        refine ⟨if ok then .tuple #[e0.val, .bool true] else e0.val, _, h, ?_, .of fun w' he => ?_⟩
        · exact found_rel (.d _ _ h5)
        · simp only [execOp, hu, hrk.con_eq, Instr.lookup, Sem.run_bind, run_underlying hT1, Result.andThen_ok, MapKept.run_getObj_map (hw' w' he), Sem.run_pure, MapKept.run_checkKey hT2 hkey, MapKept.run_findKey hT2 h2]

theorem keep_same {v : Value} {mk : MK} (hk : kokB mk v = true) (w : World) : (Instr.keyThatStays v v).run P w = .ok v w := by
  unfold Instr.keyThatStays
  have : Instr.sameBits 10000 v v = true := by
    cases mk <;> cases v <;> simp [kokB] at hk <;> simp [Instr.sameBits, bytes_beq]
  simp [this]

/-- What a map's block is set to. -/
theorem mapSet {M : Mem} {β : Where} {w : World} {a : Act} {r : Nat} {b : Nat} {mk : MK} {es es' : List (Value × D)} {arr arr' : Array MapEntry} {c c' : Nat} (hrel : Rel n M β st a w) (hr : st.roots[r]? = some (.map mk es)) (hl : β r = .at ⟨b, 0, 1, 1⟩)
    (hw : w.heap[b]? = some (.map arr c)) (hM : ∀ o, M b o = none) (hlen : es'.length = arr'.size) (hR : ∀ (i : Nat) e x, es'[i]? = some e → arr'[i]? = some x → x.key = e.1 ∧ kokB mk e.1 = true ∧ RelF M e.2 x.val) :
    Rel n M β { st with roots := st.roots.set r (.map mk es') } a { w with heap := w.heap.setIfInBounds b (.map arr' c') } ∧ Later p M β w M β { w with heap := w.heap.setIfInBounds b (.map arr' c') } := by
  have hh := hrel.holds
  have hrlt : r < st.roots.length := (List.getElem?_eq_some_iff.1 hr).1
  have hsame : setW β r (.at ⟨b, 0, 1, 1⟩) = β := by
    funext q
    unfold setW
    split
    · rename_i e; rw [e, hl]
    · rfl
  have hf : ∀ q q', some q = some q' → q' = q ∧ (q = r → Slot.at ⟨b, 0, 1, 1⟩ = β r) := fun q q' e => ⟨by cases e; rfl, fun _ => hl.symm⟩
  have hsz : w.heap.size ≤ ({ w with heap := w.heap.setIfInBounds b (.map arr' c') } : World).heap.size := by simp
  have hheap : ∀ b', b' < w.heap.size → (∀ l, β r = .at l → b' ≠ l.b) → ({ w with heap := w.heap.setIfInBounds b (.map arr' c') } : World).heap[b']? = w.heap[b']? := fun b' _ hne => (heap_set hw).2 b' (hne _ hl)
  have hb : b < w.heap.size := lt_of_heap hw
  have hturn := hh.turn (w' := { w with heap := w.heap.setIfInBounds b (.map arr' c') }) r hrlt (.at ⟨b, 0, 1, 1⟩) (.map mk es') some hf hsz hheap
    (by intro l' o y hl' hy; rw [hl] at hl'; cases hl'; rw [hM o] at hy; cases hy)
    (by intro l' hl'; cases hl'; exact ⟨by simpa using hb, .inl ⟨_, hl, rfl⟩⟩)
    (by
      rw [hsame]
      exact .map b mk es' arr' c' (heap_set hw).1 hlen hM hR)
  have hmap : st.roots.map (renR some) = st.roots := by
    rw [List.map_congr_left (fun x _ => renR_some x), List.map_id']
  rw [hmap] at hturn
  have hrel' := hrel.turn r _ some hf hturn
  rw [renE_some, hsame] at hrel'
  have hlater : Later p M β w M (setW β r (.at ⟨b, 0, 1, 1⟩)) { w with heap := w.heap.setIfInBounds b (.map arr' c') } :=
    Later.turn r _ hsz hheap (by intro l' hl'; cases hl'; exact .inl ⟨_, hl, rfl⟩) (fun _ => hl.symm) ⟨rfl, rfl, rfl⟩
  rw [hsame] at hlater
  exact ⟨hrel', hlater⟩

theorem run_update {M : Mem} {β : Where} {w : World} {a : Act} {T e : TypeId} (r : Nat) (mk : MK) (es : List (Value × D)) (kv : Value) (d : D) (hT : mapOf P T mk e) (hrel : Rel n M β st a w)
    (hr : st.roots[r]? = some (.map mk es)) (l : Loc) (hl : β r = .at l) (hkk : kokB mk kv = true) (v : Value) (hv : RelF M d v) : ∃ w', (Instr.mapUpdate T (.map (some l.b)) kv v).run P w = .ok () w' ∧
      Rel n M β { st with roots := st.roots.set r (.map mk (mset es kv d)) } a w' ∧ Later p M β w M β w' := by
  obtain ⟨kt, hT1, hT2⟩ := hT
  have hroot := hrel.holds.root r _ hr
  rw [hl] at hroot
  cases hroot with
  | map b _ _ arr clock hw hlen hM hR =>
    have hkey := kok_isKey hkk
    dsimp only
    rcases findNow_rel (M := M) hkk es arr.toList 0 (by simpa using hlen) (fun i e x h1 h2 => hR i e x h1 (by simpa using h2)) with ⟨h1, h2, h3⟩ | ⟨j, d0, e0, h1, h2, h3, h4, h5, h6⟩
    · refine ⟨_, ?_, mapSet (p := p) (arr' := arr.push ⟨kv, v, clock⟩) (c' := clock + 1) (es' := mset es kv d) hrel hr hl hw hM (by rw [h3]; simp [hlen]) ?_⟩
      · simp only [Instr.mapUpdate, Sem.run_bind, run_underlying hT1, Result.andThen_ok, MapKept.run_getObj_map hw, MapKept.run_checkKey hT2 hkey, MapKept.run_findKey hT2 h2, MapKept.run_setObj_map _ hw]
      · intro i e x g1 g2
        rw [h3] at g1
        rw [Array.getElem?_push] at g2
        by_cases hi : i = arr.size
        · subst hi
          rw [if_pos rfl] at g2
          cases g2
          rw [List.getElem?_append_right (by omega)] at g1
          simp [hlen] at g1
          subst g1
          exact ⟨rfl, hkk, hv⟩
        · rw [if_neg hi] at g2
          have : i < es.length := by
            have := (Array.getElem?_eq_some_iff.1 g2).1
            omega
          rw [List.getElem?_append_left this] at g1
          exact hR i e x g1 g2
    · have hj : arr[j]? = some e0 := by simpa using h3
      refine ⟨_, ?_, mapSet (p := p) (arr' := arr.modify j fun e => { e with key := kv, val := v }) (c' := clock) (es' := mset es kv d) hrel hr hl hw hM (by rw [h6]; simp [hlen]) ?_⟩
      · simp only [Nat.zero_add] at h2
        simp only [Instr.mapUpdate, Sem.run_bind, run_underlying hT1, Result.andThen_ok, MapKept.run_getObj_map hw, MapKept.run_checkKey hT2 hkey, MapKept.run_findKey hT2 h2, hj, Option.map_some, Option.getD_some, h4, keep_same hkk, MapKept.run_setObj_map _ hw]
      · intro i e x g1 g2
        rw [h6] at g1
        rw [Array.getElem?_modify] at g2
        by_cases hi : j = i
        · subst hi
          rw [if_pos rfl, hj] at g2
          simp only [Option.map_some, Option.some.injEq] at g2
          subst g2
          have hjl : j < es.length := by
            have := (Array.getElem?_eq_some_iff.1 hj).1
            omega
          rw [List.getElem?_set_self hjl] at g1
          cases g1
          exact ⟨rfl, hkk, hv⟩
        · rw [if_neg hi] at g2
          rw [List.getElem?_set_ne hi] at g1
          exact hR i e x g1 g2

theorem OpE.mapUpdate {T e : TypeId} {x k v : Operand} {K : AV → St → Prop} (r : Nat) (mk : MK) (es : List (Value × D)) (kv : Value) (d : D) (R' : List Root) (hT : mapOf P T mk e)
    (hx : ev st x = .mp r) (hk : ev st k = .d (.con kv)) (hkk : kokB mk kv = true) (hv : asD (ev st v) st.roots = some (d, R')) (hr : R'[r]? = some (.map mk es))
    (h : K (.d .any) { st with roots := R'.set r (.map mk (mset es kv d)) }) : OpE P n p ⟨dst, .mapUpdate T x k v, ty, pos, after, gu⟩ st K ∧ OpE P n p ⟨dst, .insert T x k v, ty, pos, after, gu⟩ st K := by
  have go : ∀ M β a w, Rel n M β st a w → ∃ M' w', (Instr.mapUpdate T (a.eval x) (a.eval k) (a.eval v)).run P w = .ok () w' ∧ Rel n M' β { st with roots := R'.set r (.map mk (mset es kv d)) } a w' ∧ Later p M β w M' β w' := by
    intro M β a w hrel
    have hrx := ev_rel hrel x
    have hrk := ev_rel hrel k
    rw [hx] at hrx
    rw [hk] at hrk
    obtain ⟨M1, hmore, hv1⟩ := asD_rel _ _ _ _ hv M β w hrel.holds
    have hrel1 : Rel n M1 β { st with roots := R' } a w := ⟨hrel.size, hrel.defers, fun t => (hrel.env t).mono hmore.le (fun _ _ => rfl), hmore.holds⟩
    generalize hu : a.eval x = u at hrx
    cases hrx with
    | mp _ l hl =>
      obtain ⟨w', h1, h2, h3⟩ := run_update (p := p) r mk es kv d hT hrel1 hr l hl hkk (a.eval v) (hv1 _ (ev_rel hrel v))
      rw [hrk.con_eq]
      exact ⟨M1, w', h1, h2, hmore.later.trans h3⟩
  constructor
  · refine .of_left fun M β a w hrel => ?_
    obtain ⟨M', w', h1, h2, h3⟩ := go M β a w hrel
    exact .skip (w' := w') (by simp only [execOp, Sem.run_bind, h1, Result.andThen_ok, Sem.run_pure]) h (.d _ _ (.any _)) h2 h3
  · refine .of_left fun M β a w hrel => ?_
    obtain ⟨M', w', h1, h2, h3⟩ := go M β a w hrel
    exact .skip (w' := w') (by simp only [execOp, Sem.run_bind, h1, Result.andThen_ok, Sem.run_pure]) h (.d _ _ (.any _)) h2 h3

/-- What must hold ahead of a look at a map. -/
def lookW (P : Program) (st : St) (T : Nat) (x k : AV) (ok : Bool) (K : AV → Prop) : Prop := match x, k with
  | .mp r, .d (.con kv) => match st.roots[r]? with
    | some (.map mk es) => kokB mk kv = true ∧ ∃ e z, mapOf P T mk e ∧ zeroOf P e = some z ∧ K (foundA ok z (mfind es kv))
    | _ => False
  | _, _ => False
theorem lookW_sound {T : TypeId} {x k : Operand} {ok : Bool} {K : AV → Prop} (h : lookW P st T (ev st x) (ev st k) ok K) : OpP P n ⟨dst, .lookup T x k ok, ty, pos, after, gu⟩ st K := by
  unfold lookW at h
  split at h <;> try (exact h.elim)
  rename_i r kv hx hk
  split at h <;> try (exact h.elim)
  rename_i mk es hr
  obtain ⟨h1, e, z, h2, h3, h4⟩ := h
  exact .lookup r mk es kv z h2 h3 hx hr hk h1 h4
/-- What must hold ahead of a map's being written. -/
def updW (P : Program) (st : St) (T : Nat) (x k v : AV) (K : AV → St → Prop) : Prop := match x, k with
  | .mp r, .d (.con kv) => ∃ d, asD v st.roots = some d ∧ (match d.2[r]? with
    | some (.map mk es) => kokB mk kv = true ∧ (∃ e, mapOf P T mk e) ∧ K (.d .any) { st with roots := d.2.set r (.map mk (mset es kv d.1)) }
    | _ => False)
  | _, _ => False
theorem updW_sound {T : TypeId} {x k v : Operand} {K : AV → St → Prop} (h : updW P st T (ev st x) (ev st k) (ev st v) K) : OpE P n p ⟨dst, .mapUpdate T x k v, ty, pos, after, gu⟩ st K ∧ OpE P n p ⟨dst, .insert T x k v, ty, pos, after, gu⟩ st K := by
  unfold updW at h
  split at h <;> try (exact ⟨h.elim, h.elim⟩)
  rename_i r kv hx hk
  obtain ⟨⟨d, R'⟩, hd, h⟩ := h
  split at h <;> try (exact ⟨h.elim, h.elim⟩)
  rename_i mk es hr
  obtain ⟨h1, ⟨e, h2⟩, h3⟩ := h
  exact OpE.mapUpdate r mk es kv d R' h2 hx hk h1 hd hr h3
end Go.Al

namespace Go.Al
variable {P : Program} {n : Nat} {p : Nat → Prop} {st : St} {dst : Option Tmp} {ty : TypeId} {pos : String} {after : Array Edge} {gu : Option (Nat × Bool)}

/-- The rows that a source of an append says. -/
def srcRows (st : St) : AV → Option (List (List D))
  | .d (.sl rows) => some rows
  | .d (.con (.slice none 0 0)) => some []
  | .vs r off len => match st.roots[r]? with
    | some (.arr _ rows _) => if off + len ≤ rows.length then some ((rows.drop off).take len) else none
    | _ => none
  | _ => none

theorem src_of {M : Mem} {w : World} {sz : Nat} {tx e' : TypeId} (hk : P.underlying tx = some (.slice e')) (rows : List (List D)) (hrow : ∀ row, row ∈ rows → row.length = sz ∧ ∀ c, c ∈ row → oneD c = true)
    (ad : Option Addr) (cap b o : Nat) (g : Nat → Nat → Value) (had : rows ≠ [] → ad = some ⟨b, o, none⟩)
    (hcell : ∀ (i : Nat) row (j : Nat) c, rows[i]? = some row → row[j]? = some c → w.cell? ⟨b, o + i * sz + j, none⟩ = some (g i j) ∧ RelF M c (g i j)) :
    ∃ news, Src P sz tx (.slice ad rows.length cap) rows.length news w ∧ ∀ (i : Nat) row (j : Nat) c, rows[i]? = some row → row[j]? = some c → ∃ x, news[i * sz + j]? = some x ∧ RelF M c x := by
  by_cases hne : rows = []
  · subst hne
    refine ⟨[], ?_, by simp⟩
    cases ad with
    | none => exact Src.ofNil w hk cap
    | some a => exact Src.ofSlice w hk a 0 cap [] (by simp) (by simp) (by simp)
  · have had := had hne
    subst had
    have hget : ∀ t, t < rows.length * sz → ∃ row c, rows[t / sz]? = some row ∧ row[t % sz]? = some c ∧ row ∈ rows ∧ c ∈ row := by
      intro t ht
      have hsz : 0 < sz := by
        rcases Nat.eq_zero_or_pos sz with h | h
        · subst h; simp at ht
        · exact h
      have h1 : t / sz < rows.length := (Nat.div_lt_iff_lt_mul hsz).2 ht
      have h2 : t % sz < sz := Nat.mod_lt _ hsz
      have h3 := (hrow _ (List.getElem_mem h1)).1
      refine ⟨rows[t / sz], (rows[t / sz])[t % sz]'(by omega), List.getElem?_eq_getElem h1, List.getElem?_eq_getElem (by omega), List.getElem_mem h1, List.getElem_mem _⟩
    have hdm : ∀ t, t / sz * sz + t % sz = t := fun t => by rw [Nat.mul_comm]; exact Nat.div_add_mod t sz
    refine ⟨(List.range (rows.length * sz)).map fun t => g (t / sz) (t % sz), ?_, ?_⟩
    · refine Src.ofSlice w hk ⟨b, o, none⟩ rows.length cap _ (by simp) ?_ ?_
      · intro t u hu
        simp only [List.getElem?_map, Option.map_eq_some_iff] at hu
        obtain ⟨t', ht', rfl⟩ := hu
        obtain ⟨htl, ht'⟩ := List.getElem?_eq_some_iff.1 ht'
        simp at htl ht'
        subst ht'
        obtain ⟨row, c, h1, h2, _, _⟩ := hget t htl
        rw [Addr.add_lit, ← (hcell _ row _ c h1 h2).1, Nat.add_assoc, hdm]
      · intro u hu
        simp only [List.mem_map, List.mem_range] at hu
        obtain ⟨t, ht, rfl⟩ := hu
        obtain ⟨row, c, h1, h2, h3, h4⟩ := hget t ht
        exact oneD_rel (hcell _ row _ c h1 h2).2 ((hrow row h3).2 c h4)
    · intro i row j c h1 h2
      have hi : i < rows.length := (List.getElem?_eq_some_iff.1 h1).1
      have hl := (hrow row (List.mem_of_getElem? h1)).1
      have hj : j < sz := by rw [← hl]; exact (List.getElem?_eq_some_iff.1 h2).1
      have hlt : i * sz + j < rows.length * sz := by
        have := Nat.mul_le_mul_right sz (show i + 1 ≤ rows.length from hi)
        rw [Nat.succ_mul] at this
        omega
      refine ⟨g i j, ?_, (hcell i row j c h1 h2).2⟩
      simp only [List.getElem?_map]
      rw [List.getElem?_eq_getElem (by simpa using hlt)]
      have e1 : (i * sz + j) / sz = i := by
        rw [Nat.mul_comm, Nat.mul_add_div (by omega), Nat.div_eq_of_lt hj]; rfl
      have e2 : (i * sz + j) % sz = j := by
        rw [Nat.mul_comm, Nat.mul_add_mod, Nat.mod_eq_of_lt hj]
      simp [e1, e2]

theorem src_rel {M : Mem} {β : Where} {a : Act} {w : World} (hr : Rel n M β st a w) {sz : Nat} {tx e' : TypeId} (hk : P.underlying tx = some (.slice e')) (x : AV) (v : Value) (hx : RelV M β x v) (rows : List (List D))
    (hs : srcRows st x = some rows) (hrow : ∀ row, row ∈ rows → row.length = sz ∧ ∀ c, c ∈ row → oneD c = true) :
    ∃ news, Src P sz tx v rows.length news w ∧ ∀ (i : Nat) row (j : Nat) c, rows[i]? = some row → row[j]? = some c → ∃ x, news[i * sz + j]? = some x ∧ RelF M c x := by
  cases hx with
  | d y _ hy =>
    cases hy with
    | any => simp [srcRows] at hs
    | cell => simp [srcRows] at hs
    | agg => simp [srcRows] at hs
    | con =>
      unfold srcRows at hs
      split at hs
      · rename_i h; cases h
      · rename_i h; cases h
        simp only [Option.some.injEq] at hs
        subst hs
        exact ⟨[], Src.ofNil w hk 0, by simp⟩
      · rename_i h; cases h
      · cases hs
    | sl rows' ad len cap b o f hlen hcap had hM hR =>
      simp only [srcRows, Option.some.injEq] at hs
      subst hs; subst hlen
      refine src_of hk _ hrow ad cap b o f had ?_
      intro i row j c h1 h2
      have := hM i row j c h1 h2
      rw [(hrow row (List.mem_of_getElem? h1)).1] at this
      exact ⟨hr.holds.frozen _ _ _ this, hR i row j c h1 h2⟩
  | vs r off len l hb hl =>
    simp only [srcRows] at hs
    split at hs <;> try (simp at hs; done)
    rename_i s0 rows0 lim0 hroot
    split at hs <;> simp only [Option.some.injEq, reduceCtorEq] at hs
    rename_i hle
    have hrr := hr.holds.root r _ hroot
    rw [hb] at hrr
    cases hrr with
    | arr b o _ cap _ _ vals T' hw hcap hsize hrows hM hR =>
      have hget : ∀ (i : Nat) row, rows[i]? = some row → i < len ∧ rows0[off + i]? = some row := by
        intro i row h1
        subst hs
        have hi : i < len := by
          have := (List.getElem?_eq_some_iff.1 h1).1
          simp at this; omega
        simp [hi] at h1
        exact ⟨hi, h1⟩
      have hlen : rows.length = len := by subst hs; simp; omega
      rw [← hlen]
      refine src_of hk rows hrow (some ⟨b, o + off * s0, none⟩) _ b (o + off * s0) (fun i j => vals.getD (o + (off + i) * s0 + j) undef) (fun _ => rfl) ?_
      intro i row j c h1 h2
      obtain ⟨hi, h1'⟩ := hget i row h1
      have e1 := hrows _ row h1'
      have e2 := (hrow row (List.mem_of_getElem? h1)).1
      have hj : j < s0 := by rw [← e1]; exact (List.getElem?_eq_some_iff.1 h2).1
      have hm : (off + i + 1) * s0 ≤ cap * s0 := Nat.mul_le_mul_right _ (by simp only at hl; omega)
      rw [Nat.succ_mul] at hm
      have hlt : o + (off + i) * s0 + j < vals.size := by omega
      have hv : vals[o + (off + i) * s0 + j]? = some (vals.getD (o + (off + i) * s0 + j) undef) := by simp [Array.getD, hlt]
      refine ⟨?_, hR (off + i) row j c _ h1' h2 hv⟩
      rw [← e2, e1, show o + off * s0 + i * s0 + j = o + (off + i) * s0 + j from by rw [Nat.add_mul]; omega]
      simp only [World.cell?, hw, Option.isSome_none, Bool.false_eq_true, if_false]
      exact hv
  | vsE r off ad l hb ho =>
    simp only [srcRows] at hs
    split at hs <;> try (simp at hs; done)
    split at hs <;> simp only [Option.some.injEq, reduceCtorEq] at hs
    simp at hs
    subst hs
    exact src_of hk [] (by simp) ad 0 0 0 (fun _ _ => undef) (by simp) (by simp)
  | vsV r ad hb =>
    simp only [srcRows] at hs
    split at hs <;> try (simp at hs; done)
    split at hs <;> simp only [Option.some.injEq, reduceCtorEq] at hs
    simp at hs
    subst hs
    exact src_of hk [] (by simp) ad 0 0 0 (fun _ _ => undef) (by simp) (by simp)
  | _ => simp [srcRows] at hs

def killF (r : Nat) : Nat → Option Nat := fun q => if q = r then none else some q

theorem killF_ok {β : Where} {r : Nat} {s : Slot} : ∀ q q', killF r q = some q' → q' = q ∧ (q = r → s = β r) := by
  intro q q' h
  unfold killF at h
  split at h
  · cases h
  · cases h; rename_i e; exact ⟨rfl, fun e' => absurd e' e⟩

/-- What append leaves, of an array of the call's own. -/
theorem append_core {M : Mem} {β : Where} {a : Act} {w : World} (hrel : Rel n M β st a w) {T e sz bytes : Nat} (hT : P.underlying T = some (.slice e)) (i : TypeInfo) (hi : P.info? e = some i) (z : Value) (hz : i.zero = some z)
    (hsz : i.size = sz) (hby : i.bytes = bytes) (hzl : z.cells.size = sz) (u v : Value) (r off len lim : Nat) (rows rows2 : List (List D)) (hu : RelV M β (.vs r off len) u) (hr : st.roots[r]? = some (.arr sz rows lim))
    (hoff : off + len ≤ rows.length) (hlim : lim ≤ off + len) (tx e' : TypeId) (hk : P.underlying tx = some (.slice e')) (x : AV) (hx : RelV M β x v) (hs : srcRows st x = some rows2)
    (hrow : ∀ row, row ∈ rows2 → row.length = sz ∧ ∀ c, c ∈ row → oneD c = true) (hb : (len + rows2.length) * bytes ≤ 140737488355328) (hmax : len + rows2.length ≤ 140737488355328) (hpin : ¬ p r) :
    ∃ u' w' s', (Builtin.append_ #[T, tx] ty #[u, v]).run P w = .ok u' w' ∧ RelV M (setW β r s') (.vs r 0 (len + rows2.length)) u' ∧
      Rel n M (setW β r s') { env := renE (killF r) st.env, roots := (st.roots.map (renR (killF r))).set r (.arr sz ((rows.drop off).take len ++ rows2) (lim - off)) } a w' ∧
      Later p M β w M (setW β r s') w' := by
  subst hsz; subst hby
  have hh := hrel.holds
  have hrlt : r < st.roots.length := (List.getElem?_eq_some_iff.1 hr).1
  have hroot := hh.root r _ hr
  obtain ⟨news, hsrc, hnews⟩ := src_rel (P := P) hrel hk x v hx rows2 hs hrow
  have hnl := hsrc.newsLen
  have hgetA : ∀ (k : Nat) row, ((rows.drop off).take len ++ rows2)[k]? = some row → (k < len ∧ rows[off + k]? = some row) ∨ (len ≤ k ∧ rows2[k - len]? = some row) := by
    intro k row h
    have e1 : ((rows.drop off).take len).length = len := by simp; omega
    by_cases hk : k < len
    · rw [List.getElem?_append_left (by omega)] at h
      simp [hk] at h
      exact .inl ⟨hk, h⟩
    · rw [List.getElem?_append_right (by omega), e1] at h
      exact .inr ⟨by omega, h⟩
  have hrowsA : ∀ (k : Nat) row, (∀ (k : Nat) row, rows[k]? = some row → row.length = i.size) → ((rows.drop off).take len ++ rows2)[k]? = some row → row.length = i.size := by
    intro k row h0 h
    rcases hgetA k row h with ⟨_, h⟩ | ⟨_, h⟩
    · exact h0 _ row h
    · exact (hrow row (List.mem_of_getElem? h)).1
  have hlenA : ((rows.drop off).take len ++ rows2).length = len + rows2.length := by simp; omega
  -- growing: a new block
  have grow : ∀ (base : Option Addr) (sCap : Nat) (olds : List Value), u = .slice base len sCap → sCap < len + rows2.length → olds.length = len * i.size →
      (Builtin.firstCells i.size len (.slice base len sCap)).run P w.drew = .ok olds.toArray w.drew →
      (∀ (k : Nat) row, rows[k]? = some row → row.length = i.size) →
      (∀ (k : Nat) row (j : Nat) c x, k < len → rows[off + k]? = some row → row[j]? = some c → olds[k * i.size + j]? = some x → RelF M c x) →
      ∃ u' w' s', (Builtin.append_ #[T, tx] ty #[u, v]).run P w = .ok u' w' ∧ RelV M (setW β r s') (.vs r 0 (len + rows2.length)) u' ∧
        Rel n M (setW β r s') { env := renE (killF r) st.env, roots := (st.roots.map (renR (killF r))).set r (.arr i.size ((rows.drop off).take len ++ rows2) (lim - off)) } a w' ∧
        Later p M β w M (setW β r s') w' := by
    intro base sCap olds hu' hg hol hold hrows0 hR0
    subst hu'
    have hfit : Builtin.nextslicecap (len + rows2.length) sCap * i.bytes ≤ 281474976710656 := growslice_fits hg hb
    have hrun := run_append_grow_src (P := P) w T tx ty e i z hT hi hz base len sCap olds hold v rows2.length news hsrc hg (by omega) hfit
    generalize hcapg : grownCap w (len + rows2.length) sCap e = cap' at hrun
    have hge : len + rows2.length ≤ cap' := hcapg ▸ grownCap_ge w _ sCap e
    generalize hvals : (olds ++ news).toArray ++ Builtin.zeroCells z.cells (cap' - (len + rows2.length)) = vals at hrun
    have hvs : vals.size = cap' * i.size := by
      rw [← hvals]
      simp only [Array.size_append, List.size_toArray, List.length_append, hol, hnl, size_zeroCells, hzl, ← Nat.add_mul]
      congr 1; omega
    have he0 := Ext.alloc w.drew (.cells vals e)
    have he : Ext w (w.drew.alloc (.cells vals e)) := ⟨he0.size, he0.heap, rfl, rfl, rfl⟩
    have hnewb : (w.drew.alloc (.cells vals e)).heap[w.heap.size]? = some (.cells vals e (0, 0)) := by simp only [World.alloc, World.drew, Array.getElem?_push, if_true]
    have hheap : ∀ b, b < w.heap.size → (∀ l, β r = .at l → b ≠ l.b) → (w.drew.alloc (.cells vals e)).heap[b]? = w.heap[b]? := fun b hb _ => he.heap b hb
    refine ⟨.slice (some ⟨w.heap.size, 0, none⟩) (len + rows2.length) cap', _, .at ⟨w.heap.size, 0, i.size, cap'⟩, hrun, ?_, ?_, ?_⟩
    · have := RelV.vs (M := M) (β := setW β r (.at ⟨w.heap.size, 0, i.size, cap'⟩)) r 0 (len + rows2.length) ⟨w.heap.size, 0, i.size, cap'⟩ (by simp [setW]) (by simpa using hge)
      simpa using this
    · refine hrel.turn r _ (killF r) killF_ok (hh.turn r hrlt _ _ (killF r) killF_ok he.size hheap ?_ ?_ ?_)
      · intro l o y hl hy
        exact he.cell (hh.frozen l.b o y hy)
      · intro l' hl'
        cases hl'
        exact ⟨by simp, .inr (Nat.le_refl _)⟩
      · refine .arr w.heap.size 0 i.size cap' _ _ vals e hnewb (by rw [hlenA]; exact hge) (by omega) (fun k row hk => hrowsA k row hrows0 hk) (fun k _ => hh.no_mem (Nat.le_refl _) k) ?_
        intro k row j c y hk hj hy
        have hl := hrowsA k row hrows0 hk
        have hjl : j < i.size := by rw [← hl]; exact (List.getElem?_eq_some_iff.1 hj).1
        have hkl : k < len + rows2.length := by rw [← hlenA]; exact (List.getElem?_eq_some_iff.1 hk).1
        simp only [Nat.zero_add] at hy
        rw [← hvals] at hy
        have hin : k * i.size + j < (olds ++ news).length := by
          rw [List.length_append, hol, hnl, ← Nat.add_mul]
          have := Nat.mul_le_mul_right i.size (show k + 1 ≤ len + rows2.length from hkl)
          rw [Nat.succ_mul] at this
          omega
        rw [Array.getElem?_append_left (by simpa using hin)] at hy
        simp only [List.getElem?_toArray] at hy
        rcases hgetA k row hk with ⟨hkl, hk'⟩ | ⟨hkl, hk'⟩
        · have : k * i.size + j < olds.length := by
            rw [hol]
            have := Nat.mul_le_mul_right i.size (show k + 1 ≤ len from hkl)
            rw [Nat.succ_mul] at this
            omega
          rw [List.getElem?_append_left this] at hy
          exact hR0 k row j c y hkl hk' hj hy
        · have hle : len * i.size ≤ k * i.size := Nat.mul_le_mul_right _ hkl
          rw [List.getElem?_append_right (by omega), hol, show k * i.size + j - len * i.size = (k - len) * i.size + j from by rw [Nat.sub_mul]; omega] at hy
          obtain ⟨y', hy', hrf⟩ := hnews _ row j c hk' hj
          rw [hy] at hy'
          cases hy'
          exact hrf
    · exact Later.turn r _ he.size hheap (by intro l' hl'; cases hl'; exact .inr (Nat.le_refl _)) (fun h => absurd h hpin) ⟨rfl, rfl, rfl⟩
  have stay : ∀ (ad : Option Addr) (s' : Slot), u = .slice ad 0 0 → len = 0 → rows2.length = 0 → RelV M (setW β r s') (.vs r 0 0) (.slice ad 0 0) →
      RelR M (setW β r s') w s' (.arr i.size ((rows.drop off).take len ++ rows2) (lim - off)) → (∀ l', s' = .at l' → ∃ l, β r = .at l ∧ l.b = l'.b) →
      ∃ u' w' s', (Builtin.append_ #[T, tx] ty #[u, v]).run P w = .ok u' w' ∧ RelV M (setW β r s') (.vs r 0 (len + rows2.length)) u' ∧
        Rel n M (setW β r s') { env := renE (killF r) st.env, roots := (st.roots.map (renR (killF r))).set r (.arr i.size ((rows.drop off).take len ++ rows2) (lim - off)) } a w' ∧
        Later p M β w M (setW β r s') w' := by
    intro ad s' hu' hl0 hm0 hv hroot' hs'
    subst hu'
    have hnews0 : news = [] := List.eq_nil_of_length_eq_zero (by rw [hnl, hm0, Nat.zero_mul])
    refine ⟨.slice ad 0 0, w, s', ?_, by rw [hl0, hm0]; exact hv, ?_, ?_⟩
    · have hc := hsrc.cells
      have hl := hsrc.len w
      rw [hm0, hnews0] at hc
      rw [hm0] at hl
      cases ad with
      | none => simp [Builtin.append_, run_underlying hT, run_underlying hk, sizeOf, typeInfo, hi, hl, hc]
      | some ad => simp [Builtin.append_, run_underlying hT, run_underlying hk, sizeOf, typeInfo, hi, hl, hc, storeCells]
    · refine hrel.turn r _ (killF r) killF_ok (hh.turn r hrlt _ _ (killF r) killF_ok (Nat.le_refl _) (fun _ _ _ => rfl) (fun l o y _ hy => hh.frozen l.b o y hy) ?_ hroot')
      intro l' hl'
      obtain ⟨l, h1, h2⟩ := hs' l' hl'
      exact ⟨h2 ▸ hh.low r l h1, .inl ⟨l, h1, h2⟩⟩
    · exact Later.turn r _ (Nat.le_refl _) (fun _ _ _ => rfl) (fun l' hl' => .inl (hs' l' hl')) (fun h => absurd h hpin) ⟨rfl, rfl, rfl⟩
  cases hu with
  | vs _ _ _ l hl hcap0 =>
    rw [hl] at hroot
    cases hroot with
    | arr b o _ cap _ _ vals T' hw hcap hsize hrows hM hR =>
      simp only at hcap0
      have hcells : ∀ k, k < len * i.size → ∃ x, vals[o + off * i.size + k]? = some x := by
        intro k hk
        have h1 : (off + len) * i.size ≤ cap * i.size := Nat.mul_le_mul_right _ hcap0
        rw [Nat.add_mul] at h1
        have : o + off * i.size + k < vals.size := by omega
        exact ⟨vals[o + off * i.size + k], by simp [this]⟩
      by_cases hroom : len + rows2.length ≤ cap - off
      · have hfitc : o + off * i.size + len * i.size + news.length ≤ vals.size := by
          rw [hnl]
          have h1 : (off + (len + rows2.length)) * i.size ≤ cap * i.size := Nat.mul_le_mul_right _ (by omega)
          rw [Nat.add_mul, Nat.add_mul] at h1
          omega
        have hst := run_storeCells_at P b (o + off * i.size + len * i.size) T' news 0 vals w hw (by simpa using hfitc) hsrc.one
        simp only [Nat.add_zero, splice_toArray'] at hst
        generalize hnew : splice vals.toList (o + off * i.size + len * i.size) news = new at hst
        have hnl' : new.length = vals.size := by rw [← hnew, splice_length _ _ _ (by simpa using hfitc)]; simp
        have hget : ∀ k, new[k]? = if o + off * i.size + len * i.size ≤ k ∧ k < o + off * i.size + len * i.size + news.length then news[k - (o + off * i.size + len * i.size)]? else vals[k]? := by
          intro k
          rw [← hnew, splice_get _ _ _ (by simpa using hfitc)]
          simp
        have hnw := setRow_heap w b vals new.toArray T' (0, 0) hw
        have hsz' : w.heap.size ≤ (w.setRow b new.toArray).heap.size := by simp [World.setRow]
        have hheap : ∀ b', b' < w.heap.size → (∀ l, β r = .at l → b' ≠ l.b) → (w.setRow b new.toArray).heap[b']? = w.heap[b']? := fun b' _ hne => setRow_other w b b' _ (hne _ hl)
        refine ⟨.slice (some ⟨b, o + off * i.size, none⟩) (len + rows2.length) (cap - off), w.setRow b new.toArray, .at ⟨b, o + off * i.size, i.size, cap - off⟩, ?_, ?_, ?_, ?_⟩
        · simp [Builtin.append_, run_underlying hT, run_underlying hk, sizeOf, typeInfo, hi, hsrc.len, hroom, hsrc.cells, Addr.add_lit, hst]
        · have := RelV.vs (M := M) (β := setW β r (.at ⟨b, o + off * i.size, i.size, cap - off⟩)) r 0 (len + rows2.length) ⟨b, o + off * i.size, i.size, cap - off⟩ (by simp [setW]) (by simpa using hroom)
          simpa using this
        · refine hrel.turn r _ (killF r) killF_ok (hh.turn r hrlt _ _ (killF r) killF_ok hsz' hheap ?_ ?_ ?_)
          · intro l' q y hl' hy
            rw [hl] at hl'
            cases hl'
            have hq : q < o + lim * i.size := by
              rcases Nat.lt_or_ge q (o + lim * i.size) with h' | h'
              · exact h'
              · rw [hM q h'] at hy; cases hy
            have h1 : lim * i.size ≤ (off + len) * i.size := Nat.mul_le_mul_right _ hlim
            rw [Nat.add_mul] at h1
            have := hh.frozen b q y hy
            simp only [World.cell?, hw, hnw, Option.isSome_none, Bool.false_eq_true, if_false, List.getElem?_toArray] at this ⊢
            rw [hget, if_neg (by omega)]
            exact this
          · intro l' hl'
            cases hl'
            exact ⟨by simpa [World.setRow] using lt_of_heap hw, .inl ⟨_, hl, rfl⟩⟩
          · refine .arr b (o + off * i.size) i.size (cap - off) _ _ new.toArray T' hnw (by rw [hlenA]; exact hroom) ?_ (fun k row hk => hrowsA k row hrows hk) ?_ ?_
            · simp only [List.size_toArray, hnl']
              have h1 : off * i.size + (cap - off) * i.size = cap * i.size := by rw [← Nat.add_mul]; congr 1; omega
              omega
            · intro k hk
              refine hM k ?_
              have h1 : lim * i.size ≤ off * i.size + (lim - off) * i.size := by rw [← Nat.add_mul]; exact Nat.mul_le_mul_right _ (by omega)
              omega
            · intro k row j c y hk hj hy
              have hlr := hrowsA k row hrows hk
              have hjl : j < i.size := by rw [← hlr]; exact (List.getElem?_eq_some_iff.1 hj).1
              simp only [List.getElem?_toArray] at hy
              rw [hget] at hy
              rcases hgetA k row hk with ⟨hkl, hk'⟩ | ⟨hkl, hk'⟩
              · have h1 := Nat.mul_le_mul_right i.size (show k + 1 ≤ len from hkl)
                rw [Nat.succ_mul] at h1
                rw [if_neg (by omega), show o + off * i.size + k * i.size + j = o + (off + k) * i.size + j from by rw [Nat.add_mul]; omega] at hy
                exact hR _ row j c y hk' hj hy
              · have h1 : len * i.size ≤ k * i.size := Nat.mul_le_mul_right _ hkl
                have h2 : k - len < rows2.length := (List.getElem?_eq_some_iff.1 hk').1
                have h3 := Nat.mul_le_mul_right i.size (show k + 1 ≤ len + rows2.length from by omega)
                rw [Nat.succ_mul, Nat.add_mul] at h3
                rw [if_pos (by rw [hnl]; omega), show o + off * i.size + k * i.size + j - (o + off * i.size + len * i.size) = (k - len) * i.size + j from by rw [Nat.sub_mul]; omega] at hy
                obtain ⟨y', hy', hrf⟩ := hnews _ row j c hk' hj
                rw [hy] at hy'
                cases hy'
                exact hrf
        · exact Later.turn r _ hsz' hheap (by intro l' hl'; cases hl'; exact .inl ⟨_, hl, rfl⟩) (fun h => absurd h hpin) ⟨rfl, rfl, rfl⟩
      · refine grow (some ⟨b, o + off * i.size, none⟩) (cap - off) ((List.range (len * i.size)).map fun k => vals.getD (o + off * i.size + k) undef) rfl (by omega) (by simp) ?_ hrows ?_
        · refine run_firstCells_some w.drew i.size len _ len (cap - off) _ (by simp) ?_
          intro k y hy
          simp only [List.getElem?_map, Option.map_eq_some_iff] at hy
          obtain ⟨t, ht, rfl⟩ := hy
          obtain ⟨htl, ht⟩ := List.getElem?_eq_some_iff.1 ht
          simp at htl ht
          subst ht
          obtain ⟨x, hx⟩ := hcells k htl
          rw [Addr.add_lit, World.cell?_drew]
          simp only [World.cell?, hw, Option.isSome_none, Bool.false_eq_true, if_false, hx]
          simp [Array.getD_eq_getD_getElem?, hx]
        · intro k row j c y hkl hk' hj hy
          have hlr := hrows _ row hk'
          have hjl : j < i.size := by rw [← hlr]; exact (List.getElem?_eq_some_iff.1 hj).1
          simp only [List.getElem?_map, Option.map_eq_some_iff] at hy
          obtain ⟨t, ht, rfl⟩ := hy
          obtain ⟨htl, ht⟩ := List.getElem?_eq_some_iff.1 ht
          simp at htl ht
          subst ht
          obtain ⟨x, hx⟩ := hcells _ htl
          rw [show o + off * i.size + (k * i.size + j) = o + (off + k) * i.size + j from by rw [Nat.add_mul]; omega] at hx ⊢
          refine hR _ row j c _ hk' hj ?_
          simp [Array.getD_eq_getD_getElem?, hx]
  | vsE _ _ ad l hl ho =>
    rw [hl] at hroot
    cases hroot with
    | arr b o _ cap _ _ vals T' hw hcap hsize hrows hM hR =>
      simp only at ho
      by_cases hm0 : rows2.length = 0
      · refine stay ad (.at ⟨b, o + off * i.size, i.size, 0⟩) rfl rfl hm0 (.vsE r 0 ad ⟨b, o + off * i.size, i.size, 0⟩ (by simp [setW]) rfl) ?_ (by intro l' hl'; cases hl'; exact ⟨_, hl, rfl⟩)
        have : rows2 = [] := List.eq_nil_of_length_eq_zero hm0
        subst this
        simp only [List.take_zero, List.append_nil]
        refine .arr b _ i.size 0 _ [] vals T' hw (by simp) (by rw [ho]; omega) (by simp) ?_ (by simp)
        intro k hk
        refine hM k ?_
        have h1 : lim * i.size ≤ off * i.size + (lim - off) * i.size := by rw [← Nat.add_mul]; exact Nat.mul_le_mul_right _ (by omega)
        omega
      · refine grow ad 0 [] rfl (by omega) (by simp) ?_ hrows (by omega)
        cases ad with
        | none => exact run_firstCells_none w.drew i.size 0 0 0
        | some ad => exact run_firstCells_some w.drew i.size 0 ad 0 0 [] (by simp) (by simp)
  | vsV _ ad hl =>
    rw [hl] at hroot
    cases hroot with
    | virt _ _ =>
      by_cases hm0 : rows2.length = 0
      · refine stay ad .virt rfl rfl hm0 (.vsV r ad (by simp [setW])) ?_ (by intro l' hl'; cases hl')
        have : rows2 = [] := List.eq_nil_of_length_eq_zero hm0
        subst this
        simp only [List.drop_nil, List.take_nil, List.append_nil]
        exact .virt _ _
      · refine grow ad 0 [] rfl (by omega) (by simp) ?_ (by simp) (by omega)
        cases ad with
        | none => exact run_firstCells_none w.drew i.size 0 0 0
        | some ad => exact run_firstCells_some w.drew i.size 0 ad 0 0 [] (by simp) (by simp)

end Go.Al

namespace Go.Al
variable {P : Program} {n : Nat} {p : Nat → Prop} {st : St} {dst : Option Tmp} {ty : TypeId} {pos : String} {after : Array Edge} {gu : Option (Nat × Bool)}

/-- The roots that stay where they are: the boxes. -/
def pinsOf (roots : List Root) (q : Nat) : Prop := ∃ cs, roots[q]? = some (.box cs)

/-- What a call leaves. -/
def Leaves (roots : List Root) (M : Mem) (β : Where) (w : World) (R : AV → List Root → Prop) (e : Ending) (w' : World) : Prop :=
  ∃ v x roots' M' β', e = .returned v ∧ R x roots' ∧ RelV M' β' x v ∧ Holds M' β' roots' w' ∧ Later (pinsOf roots) M β w M' β' w'

/-- A function's contract: from these arguments and roots: R of what it gives and of the roots then. -/
def SCall (P : Program) (f : FuncId) (args : List AV) (roots : List Root) (R : AV → List Root → Prop) : Prop :=
  ∀ M β vs w, RelC M β args vs → Holds M β roots w → Calls P f vs w (Leaves roots M β w R)

theorem SCall.mono {f : FuncId} {args : List AV} {roots : List Root} {R R' : AV → List Root → Prop} (h : SCall P f args roots R) (hr : ∀ x r, R x r → R' x r) : SCall P f args roots R' :=
  fun M β vs w hv hh => (h M β vs w hv hh).mono fun _ _ ⟨v, x, r', M', β', h1, h2, h3⟩ => ⟨v, x, r', M', β', h1, hr _ _ h2, h3⟩

/-! ### A function's body -/

def envOf : Nat → List AV → List (Nat × AV)
  | _, [] => []
  | k, a :: args => (k, a) :: envOf (k + 1) args

theorem look_envOf : ∀ (args : List AV) (k t : Nat), look (envOf k args) t = if k ≤ t then (args[t - k]?).getD (.d .any) else .d .any
  | [], k, t => by simp [envOf, look]
  | a :: args, k, t => by
    simp only [envOf, look]
    by_cases h : k = t
    · subst h; simp
    · rw [if_neg h, look_envOf args (k + 1) t]
      by_cases h' : k ≤ t
      · rw [if_pos (by omega), if_pos h', show t - k = (t - (k + 1)) + 1 from by omega, List.getElem?_cons_succ]
      · rw [if_neg (by omega), if_neg h']

def resA (P : Program) (st : St) : List ResultVar → Option (List AV)
  | [] => some []
  | .tmp t :: rest => (resA P st rest).map (look st.env t :: ·)
  | .cell a T :: rest => match look st.env a with
    | .ptr r 0 off => match st.roots[r]? with
      | some (.box cs) => (szOf P T).bind fun s => (partA (aggOf P T) s cs off).bind fun x => if (P.underlying T).isSome then (resA P st rest).map (x :: ·) else none
      | _ => none
    | _ => none

def oneOf : List AV → AV
  | [x] => x
  | xs => .tup xs

theorem resA_rel {M : Mem} {β : Where} {a : Act} {w : World} (hr : Rel n M β st a w) : ∀ (l : List ResultVar) (xs : List AV), resA P st l = some xs →
    ∃ vs : List Value, (l.mapM fun | .tmp t => pure (a.tmps.getD t undef) | .cell q t => do loadVar t (← asAddr (a.tmps.getD q undef)) : Sem (List Value)).run P w = .ok vs w ∧ RelC M β xs vs.toArray
  | [], xs, h => by
    simp only [resA, Option.some.injEq] at h
    subst h
    exact ⟨[], by simp, rfl, by simp⟩
  | .tmp t :: rest, xs, h => by
    simp only [resA, Option.map_eq_some_iff] at h
    obtain ⟨ys, hys, rfl⟩ := h
    obtain ⟨vs, hvs, hl, hR⟩ := resA_rel hr rest ys hys
    refine ⟨a.tmps.getD t undef :: vs, ?_, by simpa using hl, ?_⟩
    · rw [List.mapM_cons]
      simp only [Sem.run_bind, Sem.run_pure, Result.andThen_ok]
      rw [hvs]
      simp
    · intro i c x h1 h2
      cases i with
      | zero => simp at h1 h2; subst h1; subst h2; simpa using hr.env t
      | succ i => simp at h1 h2; exact hR i c x h1 (by simpa using h2)
  | .cell q T :: rest, xs, h => by
    simp only [resA] at h
    split at h <;> try (cases h; done)
    rename_i r off hq
    split at h <;> try (cases h; done)
    rename_i cs hroot
    simp only [Option.bind_eq_some_iff] at h
    obtain ⟨s, hs, x, hx, h⟩ := h
    split at h <;> try (cases h; done)
    rename_i hT
    simp only [Option.map_eq_some_iff] at h
    obtain ⟨ys, hys, rfl⟩ := h
    obtain ⟨vs, hvs, hl, hR⟩ := resA_rel hr rest ys hys
    have hrq := hr.env q
    rw [hq] at hrq
    generalize hu : a.tmps.getD q undef = u at hrq
    cases hrq with
    | ptr _ _ _ l hb =>
      have hrr := hr.holds.root r _ hroot
      rw [hb] at hrr
      cases hrr with
      | box b _ vals T' hw hlen hM hR' =>
        have hf : ∀ (j : Nat) c, cs[j]? = some c → vals[j]? = some (vals.getD j undef) := by
          intro j c hj
          have := (List.getElem?_eq_some_iff.1 hj).1
          rw [hlen] at this
          simp [Array.getD, this]
        obtain ⟨v, hv, hl'⟩ := part_rel (P := P) (M := M) (β := β) hx b 0 (fun j => vals.getD j undef) hT hs rfl (by
          intro j c hj
          exact hR' j c _ hj (hf j c hj))
        have hrun := hl' w (by
          intro j c hj
          simp only [World.cell?, hw, Option.isSome_none, Bool.false_eq_true, if_false, Nat.zero_add]
          exact hf j c hj)
        refine ⟨v :: vs, ?_, by simpa using hl, ?_⟩
        · rw [List.mapM_cons]
          simp only [Sem.run_bind, hu, asAddr, Sem.run_pure, Result.andThen_ok, Nat.zero_mul, Nat.zero_add] at *
          rw [hrun]
          simp only [Result.andThen_ok]
          rw [hvs]
          simp
        · intro i c x h1 h2
          cases i with
          | zero => simp at h1 h2; subst h1; subst h2; exact hv
          | succ i => simp at h1 h2; exact hR i c x h1 (by simpa using h2)

theorem results_rel {M : Mem} {β : Where} {a : Act} {w : World} (hr : Rel n M β st a w) (fn : Func) (xs : List AV) (h : resA P st fn.results.toList = some xs) :
    ∃ v, (results fn a.tmps).run P w = .ok v w ∧ RelV M β (oneOf xs) v := by
  obtain ⟨vs, hvs, hl, hR⟩ := resA_rel hr fn.results.toList xs h
  refine ⟨if h : vs.toArray.size = 1 then vs.toArray[0] else .tuple vs.toArray, ?_, ?_⟩
  · unfold results
    simp only [Sem.run_bind, Array.mapM_eq_mapM_toList, Sem.run_map]
    have := hvs
    erw [this]
    rfl
  · by_cases h1 : vs.toArray.size = 1
    · rw [dif_pos h1]
      match xs, hl with
      | [x], hl =>
        exact hR 0 x _ rfl (by simp [h1])
      | [], hl => simp at hl h1; simp [← hl] at h1
      | _ :: _ :: _, hl => simp at hl h1; omega
    · rw [dif_neg h1]
      have : oneOf xs = .tup xs := by
        match xs, hl with
        | [x], hl => exact absurd hl.symm h1
        | [], _ => rfl
        | _ :: _ :: _, _ => rfl
      rw [this]
      exact .tup _ _ hl hR

def retQ (P : Program) (fn : Func) (R : AV → List Root → Prop) : Exit → St → Prop
  | .normal, st => ∃ xs, resA P st fn.results.toList = some xs ∧ R (oneOf xs) st.roots
  | .ret, st => ∃ xs, resA P st fn.results.toList = some xs ∧ R (oneOf xs) st.roots
  | _, _ => False

theorem SCall.body {f : FuncId} {fn : Func} {c : Code} {args : List AV} {roots : List Root} {R : AV → List Root → Prop} (hf : P.funcs[f]? = some fn) (hb : fn.body = some c) (hn : args.length ≤ fn.ntmps)
    (h : SWp P fn.ntmps (pinsOf roots) c (retQ P fn R) { env := envOf 0 args, roots }) : SCall P f args roots R := by
  intro M β vs w hv hh
  refine calls_of_wp hf hb ?_
  refine h M β _ w ⟨?_, rfl, ?_, hh⟩ _ ?_
  · have := hv.1
    simp; omega
  · intro t
    rw [look_envOf]
    simp only [Nat.zero_le, if_true, Nat.sub_zero]
    by_cases ht : t < args.length
    · have ht' : t < vs.size := by rw [← hv.1]; exact ht
      rw [List.getElem?_eq_getElem ht]
      simp only [Option.getD_some]
      refine hv.2 t _ _ (List.getElem?_eq_getElem ht) ?_
      rw [Array.getElem?_eq_getElem ht']
      simp [Array.getD_eq_getD_getElem?, Array.getElem?_append_left ht', Array.getElem?_eq_getElem ht']
    · rw [List.getElem?_eq_none (by omega)]
      exact .d _ _ (.any _)
  · intro e st' M' β' a' w' hq hr' hl
    have fin : ∀ xs, resA P st' fn.results.toList = some xs → R (oneOf xs) st'.roots → a'.defers = [] ∧ ∃ v, (results fn a'.tmps).run P w' = .ok v w' ∧ Leaves roots M β w R (.returned v) w' := by
      intro xs h1 h2
      obtain ⟨v, hv1, hv2⟩ := results_rel (P := P) hr' fn xs h1
      exact ⟨hr'.defers, v, hv1, v, _, _, _, _, rfl, h2, hv2, hr'.holds, hl⟩
    cases e <;> simp only [retQ] at hq
    · obtain ⟨xs, h1, h2⟩ := hq; exact fin xs h1 h2
    · obtain ⟨xs, h1, h2⟩ := hq; exact fin xs h1 h2

/-! ### A call -/

def posOf : List Nat → Nat → Option Nat
  | [], _ => none
  | s :: σ, q => if s = q then some 0 else (posOf σ q).map (· + 1)

theorem posOf_some : ∀ {σ : List Nat} {q i : Nat}, posOf σ q = some i → i < σ.length ∧ σ.getD i 0 = q
  | [], _, _, h => by simp [posOf] at h
  | s :: σ, q, i, h => by
    simp only [posOf] at h
    split at h
    · rename_i e
      cases h
      simp [e]
    · simp only [Option.map_eq_some_iff] at h
      obtain ⟨j, hj, rfl⟩ := h
      obtain ⟨h1, h2⟩ := posOf_some hj
      exact ⟨by simp; omega, by simpa using h2⟩

theorem posOf_mem {σ : List Nat} {q i : Nat} (h : posOf σ q = some i) : q ∈ σ := by
  obtain ⟨h1, h2⟩ := posOf_some h
  rw [← h2]
  simp [List.getD_eq_getElem?_getD, h1]

theorem posOf_none : ∀ {σ : List Nat} {q : Nat}, posOf σ q = none → q ∉ σ
  | [], _, _ => by simp
  | s :: σ, q, h => by
    simp only [posOf] at h
    split at h
    · cases h
    · rename_i e
      simp only [Option.map_eq_none_iff] at h
      simp only [List.mem_cons, not_or]
      exact ⟨fun e' => e e'.symm, posOf_none h⟩

theorem posOf_get : ∀ {σ : List Nat} {i : Nat}, σ.Nodup → i < σ.length → posOf σ (σ.getD i 0) = some i
  | [], _, _, h => by simp at h
  | s :: σ, 0, _, _ => by simp [posOf]
  | s :: σ, i + 1, hn, h => by
    simp only [List.nodup_cons] at hn
    have h' : i < σ.length := by simpa using h
    simp only [posOf, List.getD_cons_succ]
    rw [if_neg, posOf_get hn.2 h']
    · rfl
    · intro e
      apply hn.1
      rw [e]
      simp [List.getD_eq_getElem?_getD, h']

def back (σ : List Nat) (L i : Nat) : Nat := if i < σ.length then σ.getD i 0 else L + (i - σ.length)
def isArr (roots : List Root) (q : Nat) : Bool := match roots[q]? with
  | some (.box _) => false
  | _ => true
/-- What the caller may still hold of the roots that it lends. -/
def killS (σ : List Nat) (roots : List Root) (q : Nat) : Option Nat := if q < roots.length ∧ (q ∈ σ → isArr roots q = false) then some q else none

def mergeR (σ : List Nat) (roots roots' : List Root) : Nat → List Root → List Root
  | _, [] => (roots'.drop σ.length).map (renR fun i => some (back σ roots.length i))
  | q, r :: rs => (match posOf σ q with
    | some i => renR (fun i => some (back σ roots.length i)) (roots'.getD i .dead)
    | none => renR (killS σ roots) r) :: mergeR σ roots roots' (q + 1) rs

theorem mergeR_get (σ : List Nat) (roots roots' : List Root) : ∀ (rs : List Root) (q k : Nat),
    (mergeR σ roots roots' k rs)[q]? = if q < rs.length then (match posOf σ (k + q) with
      | some i => some (renR (fun i => some (back σ roots.length i)) (roots'.getD i .dead))
      | none => (rs[q]?).map (renR (killS σ roots))) else ((roots'.drop σ.length)[q - rs.length]?).map (renR fun i => some (back σ roots.length i)) := by
  intro rs
  induction rs with
  | nil => intro q k; simp [mergeR]
  | cons r rs ih =>
    intro q k
    simp only [mergeR]
    cases q with
    | zero =>
      simp
      cases posOf σ k <;> rfl
    | succ q =>
      simp only [List.getElem?_cons_succ, List.length_cons]
      rw [ih q (k + 1), show k + 1 + q = k + (q + 1) from by omega, show q + 1 - (rs.length + 1) = q - rs.length from by omega]
      simp only [Nat.add_lt_add_iff_right]

theorem mergeR_length (σ : List Nat) (roots roots' : List Root) : ∀ (rs : List Root) (k : Nat), (mergeR σ roots roots' k rs).length = rs.length + (roots'.length - σ.length)
  | [], k => by simp [mergeR]
  | r :: rs, k => by simp only [mergeR, List.length_cons, mergeR_length σ roots roots' rs]; omega

def lend (σ : List Nat) (roots : List Root) : List Root := σ.map fun q => renR (posOf σ) (roots.getD q .dead)

/-- The state behind a call. -/
def afterCall (st : St) (σ : List Nat) (roots' : List Root) : St :=
  { env := renE (killS σ st.roots) st.env, roots := mergeR σ st.roots roots' 0 st.roots }

/-- Where the caller's roots lie behind the call. -/
def whereBack (σ : List Nat) (L : Nat) (β β' : Where) : Where := fun q => match posOf σ q with
  | some i => β' i
  | none => if q < L then β q else β' (σ.length + (q - L))

theorem whereBack_back {σ : List Nat} {L : Nat} {β β' : Where} (hn : σ.Nodup) (hσ : ∀ q, q ∈ σ → q < L) (i : Nat) : whereBack σ L β β' (back σ L i) = β' i := by
  unfold whereBack back
  by_cases h : i < σ.length
  · rw [if_pos h, posOf_get hn h]
  · rw [if_neg h]
    cases hp : posOf σ (L + (i - σ.length)) with
    | some j =>
      have := hσ _ (posOf_mem hp)
      omega
    | none =>
      simp only
      rw [if_neg (by omega)]
      congr 1; omega

theorem RelC.ren {M : Mem} {β β' : Where} {f : Nat → Option Nat} (hf : ∀ r r', f r = some r' → β' r' = β r) {cs : List AV} {vs : Array Value} (h : RelC M β cs vs) : RelC M β' (cs.map (ren f)) vs := by
  refine ⟨by simpa using h.1, ?_⟩
  intro i c x h1 h2
  simp only [List.getElem?_map, Option.map_eq_some_iff] at h1
  obtain ⟨c0, h1, rfl⟩ := h1
  exact (h.2 i c0 x h1 h2).ren hf

/-- What the callee is given. -/
theorem lend_holds {M : Mem} {β : Where} {w : World} {roots : List Root} (h : Holds M β roots w) (σ : List Nat) (hn : σ.Nodup) (hσ : ∀ q, q ∈ σ → q < roots.length) :
    Holds M (fun i => if i < σ.length then β (σ.getD i 0) else .no) (lend σ roots) w := by
  have hf : ∀ q i, posOf σ q = some i → (fun i => if i < σ.length then β (σ.getD i 0) else Slot.no) i = β q := by
    intro q i hq
    obtain ⟨h1, h2⟩ := posOf_some hq
    simp only [if_pos h1, h2]
  refine ⟨h.frozen, ?_, ?_, ?_, ?_, ⟨h.glob.ok, h.glob.low, fun i l hl => by
    try simp only at hl
    split at hl
    · exact h.glob.apart _ l hl
    · cases hl⟩⟩
  · intro i root hi
    unfold lend at hi
    simp only [List.getElem?_map, Option.map_eq_some_iff] at hi
    obtain ⟨q, hq, rfl⟩ := hi
    obtain ⟨hil, hq'⟩ := List.getElem?_eq_some_iff.1 hq
    have hqm : q ∈ σ := List.mem_of_getElem? hq
    have hql := hσ q hqm
    have e1 : σ.getD i 0 = q := by simp [List.getD_eq_getElem?_getD, hq]
    simp only [if_pos hil, e1]
    have hr := h.root q (roots.getD q .dead) (by simp [List.getD_eq_getElem?_getD, hql])
    exact hr.ren hf
  · intro i i' l l' h1 h2 hb
    try simp only at h1 h2
    split at h1 <;> split at h2 <;> try (first | cases h1 | cases h2)
    rename_i hi hi'
    have := h.inj _ _ l l' h1 h2 hb
    have e1 := posOf_get hn hi
    have e2 := posOf_get hn hi'
    rw [this, e2] at e1
    exact (Option.some.inj e1).symm
  · intro i l h1
    try simp only at h1
    split at h1
    · exact h.low _ l h1
    · cases h1
  · intro i hi
    try simp only at hi
    split at hi
    · simpa [lend] using by assumption
    · exact absurd rfl hi

theorem call_back {M M' : Mem} {β β' : Where} {w w' : World} {a : Act} (hr : Rel n M β st a w) (σ : List Nat) (hn : σ.Nodup) (hσ : ∀ q, q ∈ σ → q < st.roots.length)
    (hpin : ∀ q, q ∈ σ → isArr st.roots q = true → ¬ p q) (roots' : List Root) (hlen : σ.length ≤ roots'.length) (hh' : Holds M' β' roots' w')
    (hl : Later (pinsOf (lend σ st.roots)) M (fun i => if i < σ.length then β (σ.getD i 0) else .no) w M' β' w') :
    Rel n M' (whereBack σ st.roots.length β β') (afterCall st σ roots') a w' ∧ Later p M β w M' (whereBack σ st.roots.length β β') w' := by
  have hh := hr.holds
  -- boxes that were lent stay
  have hbox : ∀ q i, posOf σ q = some i → isArr st.roots q = false → β' i = β q := by
    intro q i hq hb
    obtain ⟨h1, h2⟩ := posOf_some hq
    have hql := hσ q (posOf_mem hq)
    unfold isArr at hb
    split at hb <;> try (cases hb; done)
    rename_i cs hcs
    have hr := hh.root q _ hcs
    have hne : β q ≠ .no := by
      intro e
      rw [e] at hr
      cases hr
    have hp : pinsOf (lend σ st.roots) i := by
      refine ⟨renL (posOf σ) cs, ?_⟩
      unfold lend
      simp only [List.getElem?_map]
      rw [List.getElem?_eq_getElem h1]
      have e1 : σ[i] = q := by
        rw [List.getD_eq_getElem?_getD, List.getElem?_eq_getElem h1] at h2
        simpa using h2
      simp [e1, List.getD_eq_getElem?_getD, hcs, renR]
    have := hl.pin i hp (by simp only [if_pos h1, h2]; exact hne)
    rw [this]
    simp only [if_pos h1, h2]
  have hkill : ∀ q q', killS σ st.roots q = some q' → whereBack σ st.roots.length β β' q' = β q := by
    intro q q' hq
    unfold killS at hq
    split at hq <;> try (cases hq; done)
    rename_i hc
    cases hq
    unfold whereBack
    cases hp : posOf σ q with
    | some i => exact hbox q i hp (hc.2 (posOf_mem hp))
    | none => simp only [if_pos hc.1]
  have hback : ∀ i j, (fun i => some (back σ st.roots.length i)) i = some j → whereBack σ st.roots.length β β' j = β' i := by
    intro i j hj
    cases hj
    exact whereBack_back hn hσ i
  have hfree : ∀ q l, posOf σ q = none → β q = .at l → ∀ i l', (if i < σ.length then β (σ.getD i 0) else Slot.no) = .at l' → l'.b ≠ l.b := by
    intro q l hq hlq i l' hl' hb
    split at hl' <;> try (cases hl'; done)
    rename_i hi
    have e := hh.inj _ _ l' l hl' hlq hb
    have := posOf_none hq
    apply this
    rw [← e]
    simp [List.getD_eq_getElem?_getD, hi]
  have hown : ∀ i l', β' i = .at l' → (∃ q l, posOf σ q ≠ none ∧ β q = .at l ∧ l.b = l'.b) ∨ w.heap.size ≤ l'.b := by
    intro i l' hl'
    rcases hl.own i l' hl' with ⟨j, l, hj, e⟩ | e
    · try simp only at hj
      split at hj <;> try (cases hj; done)
      rename_i hjl
      exact .inl ⟨_, l, by rw [posOf_get hn hjl]; simp, hj, e⟩
    · exact .inr e
  refine ⟨⟨hr.size, hr.defers, fun t => ?_, ⟨hh'.frozen, ?_, ?_, ?_, ?_, ⟨hh'.glob.ok, hh'.glob.low, fun q l hq => by
    unfold whereBack at hq
    split at hq
    · exact hh'.glob.apart _ l hq
    · split at hq
      · exact hh.glob.apart q l hq
      · exact hh'.glob.apart _ l hq⟩⟩⟩, ⟨hl.mem, hl.size, ?_, ?_, ?_, hl.stream⟩⟩
  · simp only [afterCall, look_renE]
    exact ((hr.env t).ren hkill).mono hl.mem (fun _ _ => rfl)
  · intro q root hq
    simp only [afterCall] at hq
    rw [mergeR_get] at hq
    simp only [Nat.zero_add] at hq
    by_cases hql : q < st.roots.length
    · rw [if_pos hql] at hq
      cases hp : posOf σ q with
      | some i =>
        simp only [hp, Option.some.injEq] at hq
        subst hq
        obtain ⟨h1, h2⟩ := posOf_some hp
        have hi : i < roots'.length := by omega
        have h3 := hh'.root i (roots'.getD i .dead) (by simp [List.getD_eq_getElem?_getD, hi])
        have h4 := h3.ren hback
        simp only [whereBack, hp]
        exact h4
      | none =>
        simp only [hp, Option.map_eq_some_iff] at hq
        obtain ⟨rt, hrt, rfl⟩ := hq
        have h3 := (hh.root q rt hrt).ren hkill
        simp only [whereBack, hp, if_pos hql]
        have hst : ∀ l, β q = .at l → w'.heap[l.b]? = w.heap[l.b]? ∧ ∀ o, M' l.b o = M l.b o := fun l hlq =>
          hl.same l.b (hh.low q l hlq) (fun i l' hl' => hfree q l hp hlq i l' hl')
        generalize hs : β q = s at h3
        generalize renR (killS σ st.roots) rt = rt' at h3
        cases h3 with
        | dead => exact .dead _
        | virt sz lim => exact .virt sz lim
        | box b cs vals T hw hlen hM hR =>
          obtain ⟨e1, e2⟩ := hst _ hs
          exact .box b cs vals T (e1.trans hw) hlen (fun o => (e2 o).trans (hM o)) (fun i c x h1 h2 => (hR i c x h1 h2).mono hl.mem (fun _ _ => rfl))
        | arr b o sz cap lim rows vals T hw hcap hsize hrow hM hR =>
          obtain ⟨e1, e2⟩ := hst _ hs
          exact .arr b o sz cap lim rows vals T (e1.trans hw) hcap hsize hrow (fun k hk => (e2 k).trans (hM k hk)) (fun i row j c x h1 h2 h3 => (hR i row j c x h1 h2 h3).mono hl.mem)
        | map b mk es arr clock hw hlen hM hR =>
          obtain ⟨e1, e2⟩ := hst _ hs
          exact .map b mk es arr clock (e1.trans hw) hlen (fun o => (e2 o).trans (hM o)) (fun i e x h1 h2 => ⟨(hR i e x h1 h2).1, (hR i e x h1 h2).2.1, (hR i e x h1 h2).2.2.mono hl.mem⟩)
    · rw [if_neg hql] at hq
      simp only [Option.map_eq_some_iff, List.getElem?_drop] at hq
      obtain ⟨rt, hrt, rfl⟩ := hq
      have h3 := (hh'.root _ rt hrt).ren hback
      cases hp : posOf σ q with
      | some i => exact absurd (hσ q (posOf_mem hp)) hql
      | none =>
        simp only [whereBack, hp, if_neg hql]
        exact h3
  · intro q q' l l' h1 h2 hb
    unfold whereBack at h1 h2
    cases hp : posOf σ q with
    | some i =>
      simp only [hp] at h1
      cases hp' : posOf σ q' with
      | some i' =>
        simp only [hp'] at h2
        have e := hh'.inj i i' l l' h1 h2 hb
        subst e
        rw [← (posOf_some hp).2, ← (posOf_some hp').2]
      | none =>
        simp only [hp'] at h2
        split at h2
        · rcases hown i l h1 with ⟨q2, l2, hq2, hl2, e⟩ | e
          · have := hh.inj q2 q' l2 l' hl2 h2 (e.trans hb)
            subst this
            exact absurd hp' hq2
          · have := hh.low q' l' h2; omega
        · have e := hh'.inj i _ l l' h1 h2 hb
          have := (posOf_some hp).1
          omega
    | none =>
      simp only [hp] at h1
      cases hp' : posOf σ q' with
      | some i' =>
        simp only [hp'] at h2
        split at h1
        · rcases hown i' l' h2 with ⟨q2, l2, hq2, hl2, e⟩ | e
          · have := hh.inj q2 q l2 l hl2 h1 (e.trans hb.symm)
            subst this
            exact absurd hp hq2
          · have := hh.low q l h1; omega
        · have e := hh'.inj _ i' l l' h1 h2 hb
          have := (posOf_some hp').1
          omega
      | none =>
        simp only [hp'] at h2
        split at h1 <;> split at h2
        · exact hh.inj q q' l l' h1 h2 hb
        · rcases hown _ l' h2 with ⟨q2, l2, hq2, hl2, e⟩ | e
          · have := hh.inj q2 q l2 l hl2 h1 (e.trans hb.symm)
            subst this
            exact absurd hp hq2
          · have := hh.low q l h1; omega
        · rcases hown _ l h1 with ⟨q2, l2, hq2, hl2, e⟩ | e
          · have := hh.inj q2 q' l2 l' hl2 h2 (e.trans hb)
            subst this
            exact absurd hp' hq2
          · have := hh.low q' l' h2; omega
        · have e := hh'.inj _ _ l l' h1 h2 hb
          omega
  · intro q l h1
    unfold whereBack at h1
    split at h1
    · exact hh'.low _ l h1
    · split at h1
      · exact Nat.lt_of_lt_of_le (hh.low q l h1) hl.size
      · exact hh'.low _ l h1
  · intro q hq
    simp only [afterCall, mergeR_length]
    unfold whereBack at hq
    split at hq
    · rename_i i hp
      have := hσ q (posOf_mem hp)
      omega
    · split at hq
      · omega
      · have := hh'.scope _ hq
        omega
  · intro b hb hne
    refine hl.same b hb ?_
    intro i l hli
    try simp only at hli
    split at hli <;> try (cases hli; done)
    exact hne _ l hli
  · intro q l hq
    unfold whereBack at hq
    have key : ∀ i, β' i = .at l → (∃ r l0, β r = .at l0 ∧ l0.b = l.b) ∨ w.heap.size ≤ l.b := by
      intro i hi
      rcases hown i l hi with ⟨q2, l2, _, hl2, e⟩ | e
      · exact .inl ⟨q2, l2, hl2, e⟩
      · exact .inr e
    split at hq
    · exact key _ hq
    · split at hq
      · exact .inl ⟨q, l, hq, rfl⟩
      · exact key _ hq
  · intro q hq hne
    have hql := hh.scope q hne
    unfold whereBack
    cases hp : posOf σ q with
    | some i =>
      simp only
      refine hbox q i hp ?_
      cases hb : isArr st.roots q with
      | false => rfl
      | true => exact absurd hq (hpin q (posOf_mem hp) hb)
    | none => simp only [if_pos hql]

/-- A call of a function or a function value: its contract serves. -/
theorem SOps.call {ops : Array Oper} {rest : List Oper} {K : St → Prop} {g : Operand} {xs : Array Operand} {ats : Array TypeId} (hd : ∀ t, dst = some t → t < n) (f : FuncId) (caps : List AV)
    (hg : ev st g = .fn f caps ∨ (g = .func f ∧ caps = [])) (hcall : ∀ (vs : Array Value) (w : World), (callFunc f vs).run P w = .ok (.enter f vs) w) (σ : List Nat) (hn : σ.Nodup) (hσ : ∀ q, q ∈ σ → q < st.roots.length)
    (hpin : ∀ q, q ∈ σ → isArr st.roots q = true → ¬ p q)
    (h : SCall P f ((xs.toList.map (ev st) ++ caps).map (ren (posOf σ))) (lend σ st.roots) fun x roots' => σ.length ≤ roots'.length ∧
      SOps P n p ops rest K (put (afterCall st σ roots') dst (ren (fun i => some (back σ st.roots.length i)) x))) :
    SOps P n p ops (⟨dst, .call ⟨.value g, xs, ats⟩, ty, pos, after, none⟩ :: rest) K st := by
  intro M β a w hr Q' hQ
  have hf : ∀ q i, posOf σ q = some i → (fun i => if i < σ.length then β (σ.getD i 0) else Slot.no) i = β q := by
    intro q i hq
    obtain ⟨h1, h2⟩ := posOf_some hq
    simp only [if_pos h1, h2]
  have hgv : ∃ cv, a.eval g = .func (.func f) #[] cv ∧ RelC M β caps cv := by
    rcases hg with hg | ⟨rfl, rfl⟩
    · have h1 := ev_rel hr g
      rw [hg] at h1
      generalize a.eval g = u at h1
      cases h1 with
      | fn _ _ cv hl hR => exact ⟨cv, rfl, hl, hR⟩
    · exact ⟨#[], rfl, rfl, by simp⟩
  obtain ⟨cv, hcv, hcr⟩ := hgv
  have hargs : RelC M β (xs.toList.map (ev st) ++ caps) (xs.map a.eval ++ cv) := by
    refine ⟨by simp [hcr.1], ?_⟩
    intro i c x h1 h2
    by_cases hi : i < xs.size
    · rw [List.getElem?_append_left (by simpa using hi)] at h1
      rw [Array.getElem?_append_left (by simpa using hi)] at h2
      simp only [List.getElem?_map, Option.map_eq_some_iff, Array.getElem?_toList, Array.getElem?_map] at h1 h2
      obtain ⟨q, hq, rfl⟩ := h1
      obtain ⟨q', hq', rfl⟩ := h2
      rw [hq] at hq'
      cases hq'
      exact ev_rel hr q
    · rw [List.getElem?_append_right (by simpa using hi)] at h1
      rw [Array.getElem?_append_right (by simpa using hi)] at h2
      simp only [List.length_map, Array.length_toList, Array.size_map] at h1 h2
      exact hcr.2 _ c x h1 h2
  have hc := h M _ _ w (hargs.ren hf) (lend_holds hr.holds σ hn hσ)
  refine wpList_plain rfl fun K' hK => ?_
  unfold Oper.wp
  have hrun : (execOp a.eval ⟨dst, .call ⟨.value g, xs, ats⟩, ty, pos, after, none⟩).run P w = .ok (.enter f (xs.map a.eval ++ cv)) w := by
    simp [execOp, resolve, hcv, Deferred.ofValue, invoke, hcall]
  rw [hrun]
  refine hc.mono ?_
  rintro e w' ⟨v, x, roots', M', β', rfl, ⟨hlen, hK'⟩, hx, hh', hl⟩
  obtain ⟨hrel', hlater⟩ := call_back (p := p) hr σ hn hσ hpin roots' hlen hh' hl
  have hx' : RelV M' (whereBack σ st.roots.length β β') (ren (fun i => some (back σ st.roots.length i)) x) v := hx.ren (fun i j hj => by cases hj; exact whereBack_back hn hσ i)
  exact hK _ _ (hK' M' _ _ w' (hrel'.put dst hd hx') Q' fun st2 M2 β2 a2 w2 q r l => hQ st2 M2 β2 a2 w2 q r (hlater.trans l))

end Go.Al

namespace Go.Al
variable {P : Program} {n : Nat} {p : Nat → Prop} {st : St}

mutual
/-- A value whose arrays are never written again from here on. -/
def fz : AV → List Root → Option (AV × List Root)
  | .d x, R => some (.d x, R)
  | .vs r off len, R => (asD (.vs r off len) R).map fun x => (.d x.1, x.2)
  | .fptr row off, R => some (.fptr row off, R)
  | .agg cs, R => (fzL cs R).map fun x => (.agg x.1, x.2)
  | .tup cs, R => (fzL cs R).map fun x => (.tup x.1, x.2)
  | .fn f cs, R => (fzL cs R).map fun x => (.fn f x.1, x.2)
  | _, _ => none
def fzL : List AV → List Root → Option (List AV × List Root)
  | [], R => some ([], R)
  | c :: cs, R => (fz c R).bind fun x => (fzL cs x.2).map fun y => (x.1 :: y.1, y.2)
end

mutual
theorem fz_rel : ∀ (a : AV) (R : List Root) (x : AV) (R' : List Root), fz a R = some (x, R') → ∀ (M : Mem) (β : Where) (w : World), Holds M β R w →
    ∃ M', More M β R M' R' w ∧ ∀ v β', RelV M β a v → RelV M' β' x v
  | .d y, R, x, R', h, M, β, w, hh => by
    simp only [fz, Option.some.injEq, Prod.mk.injEq] at h
    obtain ⟨rfl, rfl⟩ := h
    exact ⟨M, More.refl hh, fun v β' hv => by cases hv; exact .d _ _ (by assumption)⟩
  | .vs r off len, R, x, R', h, M, β, w, hh => by
    simp only [fz, Option.map_eq_some_iff, Prod.mk.injEq] at h
    obtain ⟨⟨d, R1⟩, h1, rfl, rfl⟩ := h
    obtain ⟨M', hm, hv⟩ := asD_rel _ _ _ _ h1 M β w hh
    exact ⟨M', hm, fun v β' hv' => .d _ _ (hv v hv')⟩
  | .fptr row off, R, x, R', h, M, β, w, hh => by
    simp only [fz, Option.some.injEq, Prod.mk.injEq] at h
    obtain ⟨rfl, rfl⟩ := h
    refine ⟨M, More.refl hh, fun v β' hv => ?_⟩
    cases hv with
    | fptr _ _ b o f hM hR => exact .fptr row off b o f hM hR
  | .agg cs, R, x, R', h, M, β, w, hh => by
    simp only [fz, Option.map_eq_some_iff, Prod.mk.injEq] at h
    obtain ⟨⟨ds, R1⟩, h1, rfl, rfl⟩ := h
    obtain ⟨M', hm, hl, hv⟩ := fzL_rel cs R ds R1 h1 M β w hh
    refine ⟨M', hm, ?_⟩
    intro v β' hv'
    cases hv' with
    | agg _ vs hlen hR =>
      refine .agg ds vs (hl.symm.trans hlen) ?_
      intro i c x h1 h2
      have hi : i < cs.length := by rw [hl]; exact (List.getElem?_eq_some_iff.1 h1).1
      exact hv i _ c x β' (List.getElem?_eq_getElem hi) h1 (hR i _ x (List.getElem?_eq_getElem hi) h2)
  | .tup cs, R, x, R', h, M, β, w, hh => by
    simp only [fz, Option.map_eq_some_iff, Prod.mk.injEq] at h
    obtain ⟨⟨ds, R1⟩, h1, rfl, rfl⟩ := h
    obtain ⟨M', hm, hl, hv⟩ := fzL_rel cs R ds R1 h1 M β w hh
    refine ⟨M', hm, ?_⟩
    intro v β' hv'
    cases hv' with
    | tup _ vs hlen hR =>
      refine .tup ds vs (hl.symm.trans hlen) ?_
      intro i c x h1 h2
      have hi : i < cs.length := by rw [hl]; exact (List.getElem?_eq_some_iff.1 h1).1
      exact hv i _ c x β' (List.getElem?_eq_getElem hi) h1 (hR i _ x (List.getElem?_eq_getElem hi) h2)
  | .fn g cs, R, x, R', h, M, β, w, hh => by
    simp only [fz, Option.map_eq_some_iff, Prod.mk.injEq] at h
    obtain ⟨⟨ds, R1⟩, h1, rfl, rfl⟩ := h
    obtain ⟨M', hm, hl, hv⟩ := fzL_rel cs R ds R1 h1 M β w hh
    refine ⟨M', hm, ?_⟩
    intro v β' hv'
    cases hv' with
    | fn _ _ vs hlen hR =>
      refine .fn g ds vs (hl.symm.trans hlen) ?_
      intro i c x h1 h2
      have hi : i < cs.length := by rw [hl]; exact (List.getElem?_eq_some_iff.1 h1).1
      exact hv i _ c x β' (List.getElem?_eq_getElem hi) h1 (hR i _ x (List.getElem?_eq_getElem hi) h2)
  | .ptr .., _, _, _, h, _, _, _, _ => by simp [fz] at h
  | .gd .., _, _, _, h, _, _, _, _ => by simp [fz] at h
  | .mp .., _, _, _, h, _, _, _, _ => by simp [fz] at h
theorem fzL_rel : ∀ (cs : List AV) (R : List Root) (ds : List AV) (R' : List Root), fzL cs R = some (ds, R') → ∀ (M : Mem) (β : Where) (w : World), Holds M β R w →
    ∃ M', More M β R M' R' w ∧ cs.length = ds.length ∧ ∀ (i : Nat) c d v β', cs[i]? = some c → ds[i]? = some d → RelV M β c v → RelV M' β' d v
  | [], R, ds, R', h, M, β, w, hh => by
    simp only [fzL, Option.some.injEq, Prod.mk.injEq] at h
    obtain ⟨rfl, rfl⟩ := h
    exact ⟨M, More.refl hh, rfl, by simp⟩
  | c :: cs, R, ds, R', h, M, β, w, hh => by
    simp only [fzL, Option.bind_eq_some_iff, Option.map_eq_some_iff, Prod.mk.injEq] at h
    obtain ⟨⟨x, R1⟩, h1, ⟨ys, R2⟩, h2, rfl, rfl⟩ := h
    obtain ⟨M1, hm1, hv1⟩ := fz_rel c R x R1 h1 M β w hh
    obtain ⟨M2, hm2, hl, hv2⟩ := fzL_rel cs R1 ys R2 h2 M1 β w hm1.holds
    refine ⟨M2, hm1.trans hm2, by simp [hl], ?_⟩
    intro i c' d v β' hc hd hv
    cases i with
    | zero =>
      simp at hc hd
      subst hc; subst hd
      have := hv1 v (fun _ => .no) hv
      exact this.mono hm2.le (fun r hr => absurd rfl hr)
    | succ i =>
      simp at hc hd
      exact hv2 i c' d v β' hc hd (hv.mono hm1.le (fun _ _ => rfl))
end

/-- A call that needs none of the caller's roots: its arguments are frozen. -/
theorem SOps.call_pure {ops : Array Oper} {rest : List Oper} {K : St → Prop} {g : Operand} {xs : Array Operand} {ats : Array TypeId} {dst : Option Tmp} {ty : TypeId} {pos : String} {after : Array Edge}
    (hd : ∀ t, dst = some t → t < n) (f : FuncId) (caps : List AV) (hg : ev st g = .fn f caps) (hcall : ∀ (vs : Array Value) (w : World), (callFunc f vs).run P w = .ok (.enter f vs) w)
    (args : List AV) (R' : List Root) (hfz : fzL (xs.toList.map (ev st) ++ caps) st.roots = some (args, R'))
    (h : SCall P f args [] fun x roots' => roots' = [] ∧ SOps P n p ops rest K (put { st with roots := R' } dst x)) :
    SOps P n p ops (⟨dst, .call ⟨.value g, xs, ats⟩, ty, pos, after, none⟩ :: rest) K st := by
  intro M β a w hr Q' hQ
  have hgv : ∃ cv, a.eval g = .func (.func f) #[] cv ∧ RelC M β caps cv := by
    have h1 := ev_rel hr g
    rw [hg] at h1
    generalize a.eval g = u at h1
    cases h1 with
    | fn _ _ cv hl hR => exact ⟨cv, rfl, hl, hR⟩
  obtain ⟨cv, hcv, hcr⟩ := hgv
  have hargs : RelC M β (xs.toList.map (ev st) ++ caps) (xs.map a.eval ++ cv) := by
    refine ⟨by simp [hcr.1], ?_⟩
    intro i c x h1 h2
    by_cases hi : i < xs.size
    · rw [List.getElem?_append_left (by simpa using hi)] at h1
      rw [Array.getElem?_append_left (by simpa using hi)] at h2
      simp only [List.getElem?_map, Option.map_eq_some_iff, Array.getElem?_toList, Array.getElem?_map] at h1 h2
      obtain ⟨q, hq, rfl⟩ := h1
      obtain ⟨q', hq', rfl⟩ := h2
      rw [hq] at hq'
      cases hq'
      exact ev_rel hr q
    · rw [List.getElem?_append_right (by simpa using hi)] at h1
      rw [Array.getElem?_append_right (by simpa using hi)] at h2
      simp only [List.length_map, Array.length_toList, Array.size_map] at h1 h2
      exact hcr.2 _ c x h1 h2
  obtain ⟨M1, hmore, hl1, hv1⟩ := fzL_rel _ _ _ _ hfz M β w hr.holds
  have hr1 := More.rel hr hmore
  have hh0 : Holds M1 (fun _ => Slot.no) [] w := ⟨hmore.holds.frozen, by simp, (by intro _ _ _ _ h; cases h), (by intro _ _ h; cases h), (by intro _ h; exact absurd rfl h), ⟨hmore.holds.glob.ok, hmore.holds.glob.low, fun _ _ h => by cases h⟩⟩
  have hc := h M1 (fun _ => Slot.no) _ w ⟨hl1.symm.trans hargs.1, fun i c x h1 h2 => by
    have hi : i < (xs.toList.map (ev st) ++ caps).length := by rw [hl1]; exact (List.getElem?_eq_some_iff.1 h1).1
    exact hv1 i _ c x _ (List.getElem?_eq_getElem hi) h1 (hargs.2 i _ x (List.getElem?_eq_getElem hi) h2)⟩ hh0
  refine wpList_plain rfl fun K' hK => ?_
  unfold Oper.wp
  have hrun : (execOp a.eval ⟨dst, .call ⟨.value g, xs, ats⟩, ty, pos, after, none⟩).run P w = .ok (.enter f (xs.map a.eval ++ cv)) w := by
    simp [execOp, resolve, hcv, Deferred.ofValue, invoke, hcall]
  rw [hrun]
  refine hc.mono ?_
  rintro e w' ⟨v, x, roots', M', β', rfl, ⟨rfl, hK'⟩, hx, hh', hl⟩
  have hno : ∀ r, β' r = .no := by
    intro r
    cases hs : β' r with
    | no => rfl
    | _ => exact absurd (hh'.scope r (by rw [hs]; simp)) (by simp)
  have hsame : ∀ b, b < w.heap.size → w'.heap[b]? = w.heap[b]? ∧ ∀ o, M' b o = M1 b o := fun b hb => hl.same b hb (by intro r l h; cases h)
  have hext : Ext w w' := ⟨hl.size, fun b hb => (hsame b hb).1, hl.stream⟩
  have hh1 := hmore.holds.ext hext
  have hrel' : Rel n M' β { st with roots := R' } a w' := by
    refine ⟨hr.size, hr.defers, fun t => (hr1.env t).mono hl.mem (fun _ _ => rfl), ⟨hh'.frozen, ?_, hh1.inj, hh1.low, hh1.scope, hh1.glob⟩⟩
    intro q root hq
    have h1 := hh1.root q root hq
    generalize hs : β q = s at h1
    cases h1 with
    | dead => exact .dead _
    | virt sz lim => exact .virt sz lim
    | box b cs vals T hw hlen hM hR => exact .box b cs vals T hw hlen (fun o => ((hsame b (hmore.holds.low q _ hs)).2 o).trans (hM o)) (fun i c x h1 h2 => (hR i c x h1 h2).mono hl.mem (fun _ _ => rfl))
    | arr b o sz cap lim rows vals T hw hcap hsize hrow hM hR => exact .arr b o sz cap lim rows vals T hw hcap hsize hrow (fun k hk => ((hsame b (hmore.holds.low q _ hs)).2 k).trans (hM k hk)) (fun i row j c x h1 h2 h3 => (hR i row j c x h1 h2 h3).mono hl.mem)
    | map b mk es arr clock hw hlen hM hR => exact .map b mk es arr clock hw hlen (fun o => ((hsame b (hmore.holds.low q _ hs)).2 o).trans (hM o)) (fun i e x h1 h2 => ⟨(hR i e x h1 h2).1, (hR i e x h1 h2).2.1, (hR i e x h1 h2).2.2.mono hl.mem⟩)
  have hlater : Later p M β w M' β w' := hmore.later.trans ⟨hl.mem, hl.size, fun b hb _ => hsame b hb, fun r l h => .inl ⟨r, l, h, rfl⟩, fun _ _ _ => rfl, hl.stream⟩
  have hx' : RelV M' β x v := hx.mono (fun _ _ _ h => h) (fun r hr => absurd (hno r) hr)
  exact hK _ _ (hK' M' _ _ w' (hrel'.put dst hd hx') Q' fun st2 M2 β2 a2 w2 q r l => hQ st2 M2 β2 a2 w2 q r (hlater.trans l))

end Go.Al

namespace Go.Al
variable {P : Program} {n : Nat} {p : Nat → Prop}

def optW {α : Type} (o : Option α) (K : α → Prop) : Prop := match o with
  | some a => K a
  | none => False
theorem optW_some {α : Type} (a : α) (K : α → Prop) : optW (some a) K = K a := (rfl)
theorem optW_none {α : Type} (K : α → Prop) : optW (none : Option α) K = False := (rfl)
theorem optW_ite {α : Type} (c : Prop) [Decidable c] (x y : Option α) (K : α → Prop) : optW (if c then x else y) K = if c then optW x K else optW y K := by split <;> rfl
theorem optW_bind {α β : Type} (o : Option α) (f : α → Option β) (K : β → Prop) : optW (o.bind f) K = optW o fun a => optW (f a) K := by cases o <;> rfl
theorem optW_map {α β : Type} (o : Option α) (f : α → β) (K : β → Prop) : optW (o.map f) K = optW o fun a => K (f a) := by cases o <;> rfl
theorem optW_iff {α : Type} {o : Option α} {K : α → Prop} (h : optW o K) : ∃ a, o = some a ∧ K a := by
  cases o with
  | none => exact h.elim
  | some a => exact ⟨a, rfl, h⟩

/-- A truth value, either way. -/
def boolW (v : AV) (A B : Prop) : Prop := match v with
  | .d (.con (.bool t)) => (t = true → A) ∧ (t = false → B)
  | _ => False

def conW (v : AV) (K : Value → Prop) : Prop := match v with
  | .d (.con u) => K u
  | _ => False
theorem conW_iff {v : AV} {K : Value → Prop} (h : conW v K) : ∃ u, v = .d (.con u) ∧ K u := by
  unfold conW at h
  split at h
  · exact ⟨_, rfl, h⟩
  · exact h.elim

def intKindOf (P : Program) (T : Nat) : Option IntKind := match P.underlying T with
  | some (.int k) => some k
  | _ => none
/-- Size, bytes and zero value of a type. -/
def infoOf (P : Program) (T : Nat) : Option (Nat × Nat × Value) := (P.info? T).bind fun i => i.zero.map fun z => (i.size, i.bytes, z)

def convW (P : Program) (src T : Nat) (v : AV) (K : AV → Prop) : Prop := match v with
  | .d (.con (.int _ m)) => (P.underlying src).isSome = true ∧ optW (intKindOf P T) fun k' => K (.d (.con (.int k' (k'.wrap m))))
  | _ => False

def nilW (v : AV) (K : AV → Prop) : Prop := match v with
  | .ptr r i off => K (.ptr r i off)
  | .fptr row off => K (.fptr row off)
  | .fn f cs => K (.fn f cs)
  | _ => False

def loadW (P : Program) (st : St) (T : Nat) (v : AV) (K : AV → Prop) : Prop :=
  (P.underlying T).isSome = true ∧ optW (szOf P T) fun s => match v with
    | .fptr row off => optW (partA (aggOf P T) s (row.map .d) off) K
    | .ptr r i off => match st.roots[r]? with
      | some (.box cs) => i = 0 ∧ optW (partA (aggOf P T) s cs off) K
      | some (.arr _ rows _) => i < rows.length ∧ ∀ row, rows[i]? = some row → optW (partA (aggOf P T) s (row.map .d) off) K
      | _ => False
    | _ => False

def fieldW (v : AV) (o : Nat) (K : AV → Prop) : Prop := match v with
  | .fptr row off => K (.fptr row (off + o))
  | .ptr r i off => K (.ptr r i (off + o))
  | _ => False

def idxW (P : Program) (st : St) (T : Nat) (v iv : AV) (K : AV → Prop) : Prop :=
  optW (elemOf P T) fun e => optW (szOf P e) fun s => match iv with
    | .d (.con (.int _ m)) => match v with
      | .d (.sl rows) => (0 ≤ m ∧ m < rows.length) ∧ ∀ row, rows[m.toNat]? = some row → row.length = s ∧ K (.fptr row 0)
      | .vs r off len => match st.roots[r]? with
        | some (.arr sz _ _) => sz = s ∧ (0 ≤ m ∧ m < len) ∧ K (.ptr r (off + m.toNat) 0)
        | _ => False
      | _ => False
    | _ => False

def strIdxW (P : Program) (T : Nat) (v iv : AV) (K : AV → Prop) : Prop :=
  P.underlying T = some .string ∧ match iv with
    | .d (.con (.int _ m)) => match v with
      | .d (.con (.string s)) => (0 ≤ m ∧ m < s.size) ∧ K (.d (.con (.int .u8 (byteAt s m.toNat))))
      | _ => False
    | _ => False

def sliceW (P : Program) (st : St) (T : Nat) (v : AV) (lo hi : Option Operand) (K : AV → Prop) : Prop := match v with
  | .d (.con (.string s)) => P.underlying T = some .string ∧ optW (bnd st 0 lo) fun l => optW (bnd st s.size hi) fun h =>
      (0 ≤ l ∧ l ≤ h ∧ h ≤ s.size) ∧ K (.d (.con (.string (s.extract l.toNat h.toNat))))
  | .d (.sl rows) => optW (elemOf P T) fun e => optW (szOf P e) fun s => optW (bnd st 0 lo) fun l => optW (bnd st rows.length hi) fun h =>
      (0 ≤ l ∧ l ≤ h ∧ h ≤ rows.length) ∧ (∀ row, row ∈ rows → row.length = s) ∧ K (.d (.sl ((rows.drop l.toNat).take (h.toNat - l.toNat))))
  | .vs r off len => optW (elemOf P T) fun e => optW (szOf P e) fun s => match st.roots[r]? with
    | some (.arr sz _ _) => sz = s ∧ optW (bnd st 0 lo) fun l => optW (bnd st len hi) fun h =>
      (0 ≤ l ∧ l ≤ h ∧ h ≤ len) ∧ K (.vs r (off + l.toNat) (h.toNat - l.toNat))
    | _ => False
  | .d (.con (.slice none 0 0)) => optW (elemOf P T) fun e => optW (szOf P e) fun s => optW (bnd st 0 lo) fun l => optW (bnd st 0 hi) fun h =>
      (0 ≤ l ∧ l ≤ h ∧ h ≤ 0) ∧ K (.d (.sl []))
  | _ => False

def lenW (P : Program) (T : Nat) (v : AV) (K : AV → Prop) : Prop := match v with
  | .d (.con (.string s)) => P.underlying T = some .string ∧ K (.d (.con (.int .i64 s.size)))
  | .d (.con (.slice a len c)) => (elemOf P T).isSome = true ∧ K (.d (.con (.int .i64 len)))
  | .d (.sl rows) => (elemOf P T).isSome = true ∧ K (.d (.con (.int .i64 rows.length)))
  | .vs r off len => (elemOf P T).isSome = true ∧ K (.d (.con (.int .i64 len)))
  | _ => False

def storeW (P : Program) (st : St) (T : Nat) (x v : AV) (K : St → Prop) : Prop := match x with
  | .ptr r i off => match st.roots[r]? with
    | some (.box cs) => i = 0 ∧ optW (cellsA v) fun ns => szOf P T = some ns.length ∧ ns.all oneA = true ∧ off + ns.length ≤ cs.length ∧
        K { st with roots := st.roots.set r (.box (splice cs off ns)) }
    | some (.arr _ _ _) => optW (asD v st.roots) fun d => optW (dcells d.1) fun ds => match d.2[r]? with
      | some (.arr sz rows lim) => i < rows.length ∧ lim ≤ i ∧ szOf P T = some ds.length ∧ ds.all oneD = true ∧ ∀ row, rows[i]? = some row → off + ds.length ≤ row.length ∧
          K { st with roots := d.2.set r (.arr sz (rows.set i (splice row off ds)) lim) }
      | _ => False
    | _ => False
  | _ => False

def makeW (P : Program) (st : St) (T : Nat) (x y : AV) (K : AV → St → Prop) : Prop :=
  optW (elemOf P T) fun e => optW (infoOf P e) fun i => optW (dcells (.con i.2.2)) fun zr => match x with
    | .d (.con (.int _ m)) => match y with
      | .d (.con (.int _ m')) => (zr.length = i.1 ∧ 0 < i.1) ∧ (0 ≤ m ∧ m ≤ m' ∧ i.2.1 * m'.toNat ≤ 140737488355328 ∧ m'.toNat ≤ 140737488355328) ∧
          K (.vs st.roots.length 0 m.toNat) { st with roots := st.roots ++ [.arr i.1 (List.replicate m.toNat zr) 0] }
      | _ => False
    | _ => False

def appendW (P : Program) (p : Nat → Prop) (st : St) (T tx : Nat) (s x : AV) (K : AV → St → Prop) : Prop :=
  (elemOf P tx).isSome = true ∧ optW (elemOf P T) fun e => optW (infoOf P e) fun i => i.2.2.cells.size = i.1 ∧ optW (srcRows st x) fun rows2 =>
    (∀ row, row ∈ rows2 → row.length = i.1 ∧ ∀ c, c ∈ row → oneD c = true) ∧ match s with
    | .vs r off len => match st.roots[r]? with
      | some (.arr sz rows lim) => (sz = i.1 ∧ off + len ≤ rows.length ∧ lim ≤ off + len ∧ ¬ p r) ∧ ((len + rows2.length) * i.2.1 ≤ 140737488355328 ∧ len + rows2.length ≤ 140737488355328) ∧
          K (.vs r 0 (len + rows2.length)) { env := renE (killF r) st.env, roots := (st.roots.map (renR (killF r))).set r (.arr sz ((rows.drop off).take len ++ rows2) (lim - off)) }
      | _ => False
    | .d (.con (.slice none 0 0)) => ¬ p st.roots.length ∧ (rows2.length * i.2.1 ≤ 140737488355328 ∧ rows2.length ≤ 140737488355328) ∧
          K (.vs st.roots.length 0 rows2.length) { env := renE (killF st.roots.length) st.env, roots := st.roots.map (renR (killF st.roots.length)) ++ [.arr i.1 rows2 0] }
    | _ => False

def isBoolT (P : Program) (T : Nat) : Bool := match P.underlying T with
  | some .bool => true
  | _ => false
def isPtrT (P : Program) (T : Nat) : Bool := match P.underlying T with
  | some (.pointer _) => true
  | _ => false

/-- What an operator gives, by the operands' type. -/
def binT (P : Program) (op : BinOp) (T : Nat) : Value → Value → Option Value
  | .bool a, .bool b => match op with
    | .eql => if isBoolT P T = true then some (.bool (a == b)) else none
    | .neq => if isBoolT P T = true then some (.bool (a != b)) else none
    | _ => none
  | u, v => binV op u v
/-- An operator at what may be an address. -/
def binW (P : Program) (op : BinOp) (T : Nat) (x y : AV) (K : AV → Prop) : Prop := match x, y with
  | .d (.con u), .d (.con v) => optW (binT P op T u v) fun r => K (.d (.con r))
  | .ptr _ _ _, .d (.con (.pointer none)) => isPtrT P T = true ∧ ((op = .eql ∧ K (.d (.con (.bool false)))) ∨ (op = .neq ∧ K (.d (.con (.bool true)))))
  | _, _ => False

/-- The greatest and the least of two numbers. -/
def maxW (big : Bool) (x y : AV) (K : AV → Prop) : Prop := match x, y with
  | .d (.con (.int k a)), .d (.con (.int k' b)) => k = k' ∧ K (.d (.con (.int k (if big then max a b else min a b))))
  | _, _ => False

/-- What must hold ahead of an operation that only looks. -/
def opP (P : Program) (o : Op) (st : St) (K : AV → Prop) : Prop := match o with
  | .move x => K (ev st x)
  | .assign x => K (ev st x)
  | .pick c x y => boolW (ev st c) (K (ev st x)) (K (ev st y))
  | .binOp op T x y _ => binW P op T (ev st x) (ev st y) K
  | .unOp op _ x => conW (ev st x) fun u => optW (unV op u) fun r => K (.d (.con r))
  | .convert src T x => convW P src T (ev st x) K
  | .nilCheck x => nilW (ev st x) K
  | .load T x => loadW P st T (ev st x) K
  | .fieldAddr T x f => optW (fldOf P T f) fun o => fieldW (ev st x) o K
  | .indexAddr T x i => idxW P st T (ev st x) (ev st i) K
  | .index T x i => strIdxW P T (ev st x) (ev st i) K
  | .extract x i => match ev st x with
    | .tup vs => optW (vs[i]?) K
    | _ => False
  | .slice T x lo hi mx => mx = none ∧ sliceW P st T (ev st x) lo hi K
  | .build T parts => optW (buildA P T (parts.toList.map fun x => (x.1, ev st x.2))) fun cs => K (.agg cs)
  | .makeFunc fn first captured => first = #[] ∧ match fn with
    | .func f => K (.fn f (captured.toList.map (ev st)))
    | _ => False
  | .call ⟨.builtin .len, args, ats⟩ => args.size = 1 ∧ ats.size = 1 ∧ lenW P (ats.getD 0 0) (ev st (args.getD 0 (.const undef))) K
  | .call ⟨.builtin .max, args, ats⟩ => args.size = 2 ∧ maxW true (ev st (args.getD 0 (.const undef))) (ev st (args.getD 1 (.const undef))) K
  | .call ⟨.builtin .min, args, ats⟩ => args.size = 2 ∧ maxW false (ev st (args.getD 0 (.const undef))) (ev st (args.getD 1 (.const undef))) K
  | .lookup T x k ok => lookW P st T (ev st x) (ev st k) ok K
  | _ => False

/-- What must hold ahead of an operation. -/
def opA (P : Program) (p : Nat → Prop) (o : Op) (st : St) (K : AV → St → Prop) : Prop := match o with
  | .box _ x => optW (cellsA (ev st x)) fun cs => K (.ptr st.roots.length 0 0) { st with roots := st.roots ++ [.box cs] }
  | .alloc T => optW (zeroOf P T) fun z => optW (cellsA (.d (.con z))) fun cs => K (.ptr st.roots.length 0 0) { st with roots := st.roots ++ [.box cs] }
  | .buildSlice T len parts => optW (elemOf P T) fun e => optW (szOf P e) fun sz => (zeroOf P e).isSome = true ∧ optW (rowsOf sz (parts.toList.map fun x => (x.1, ev st x.2)) 0 st.roots) fun r =>
      (r.1.length = len ∧ len * sz ≤ 16777216) ∧ K (.d (.sl r.1)) { st with roots := r.2 }
  | .makeSlice T x y => makeW P st T (ev st x) (ev st y) K
  | .store T x v => storeW P st T (ev st x) (ev st v) fun st' => K (.d .any) st'
  | .call ⟨.builtin .append, args, ats⟩ => args.size = 2 ∧ ats.size = 2 ∧ appendW P p st (ats.getD 0 0) (ats.getD 1 0) (ev st (args.getD 0 (.const undef))) (ev st (args.getD 1 (.const undef))) K
  | .makeMap _ none => ∃ mk, K (.mp st.roots.length) { st with roots := st.roots ++ [.map mk []] }
  | .mapUpdate T x k v => updW P st T (ev st x) (ev st k) (ev st v) K
  | .insert T x k v => updW P st T (ev st x) (ev st k) (ev st v) K
  | o => opP P o st fun v => K v st

theorem elemOf_some {T e : Nat} (h : elemOf P T = some e) : P.underlying T = some (.slice e) := by
  unfold elemOf at h
  split at h
  · rename_i h'; cases h; exact h'
  · cases h

theorem infoOf_some {T : Nat} {r : Nat × Nat × Value} (h : infoOf P T = some r) : ∃ i, P.info? T = some i ∧ i.zero = some r.2.2 ∧ i.size = r.1 ∧ i.bytes = r.2.1 := by
  unfold infoOf at h
  simp only [Option.bind_eq_some_iff, Option.map_eq_some_iff] at h
  obtain ⟨i, hi, z, hz, rfl⟩ := h
  exact ⟨i, hi, hz, rfl, rfl⟩

theorem loadW_sound {st : St} {T : Nat} {x : Operand} {K : AV → Prop} {dst : Option Tmp} {ty : TypeId} {pos : String} {after : Array Edge} {gu : Option (Nat × Bool)} (h : loadW P st T (ev st x) K) :
    OpP P n ⟨dst, .load T x, ty, pos, after, gu⟩ st K := by
  obtain ⟨hT, h⟩ := h
  obtain ⟨s, hs, h⟩ := optW_iff h
  split at h
  · rename_i row off hx
    obtain ⟨y, hy, hk⟩ := optW_iff h
    exact OpP.load hT hs rfl y (.inl ⟨row, off, hx, hy⟩) hk
  · rename_i r i off hx
    split at h
    · rename_i cs hr
      obtain ⟨rfl, h⟩ := h
      obtain ⟨y, hy, hk⟩ := optW_iff h
      exact OpP.load hT hs rfl y (.inr (.inl ⟨r, off, cs, hx, hr, hy⟩)) hk
    · rename_i sz rows lim hr
      obtain ⟨hi, h⟩ := h
      obtain ⟨y, hy, hk⟩ := optW_iff (h _ (List.getElem?_eq_getElem hi))
      exact OpP.load hT hs rfl y (.inr (.inr ⟨r, i, off, sz, rows, lim, _, hx, hr, List.getElem?_eq_getElem hi, hy⟩)) hk
    · exact h.elim
  · exact h.elim

theorem idxW_sound {st : St} {T : Nat} {x i : Operand} {K : AV → Prop} {dst : Option Tmp} {ty : TypeId} {pos : String} {after : Array Edge} {gu : Option (Nat × Bool)} (h : idxW P st T (ev st x) (ev st i) K) :
    OpP P n ⟨dst, .indexAddr T x i, ty, pos, after, gu⟩ st K := by
  obtain ⟨e, he, h⟩ := optW_iff h
  obtain ⟨s, hs, h⟩ := optW_iff h
  split at h <;> try (exact h.elim)
  rename_i k m hi
  split at h <;> try (exact h.elim)
  · rename_i rows hx
    exact OpP.indexAddr_sl (elemOf_some he) hs rows k m hx hi h.1 h.2
  · rename_i r off len hx
    split at h <;> try (exact h.elim)
    rename_i sz rows lim hr
    obtain ⟨rfl, hb, hk⟩ := h
    exact OpP.indexAddr_vs (elemOf_some he) hs r off len lim rows k m hx hr hi hb hk

theorem sliceW_sound {st : St} {T : Nat} {x : Operand} {lo hi : Option Operand} {K : AV → Prop} {dst : Option Tmp} {ty : TypeId} {pos : String} {after : Array Edge} {gu : Option (Nat × Bool)} (h : sliceW P st T (ev st x) lo hi K) :
    OpP P n ⟨dst, .slice T x lo hi none, ty, pos, after, gu⟩ st K := by
  unfold sliceW at h
  split at h
  · rename_i s hx
    obtain ⟨hT, h⟩ := h
    obtain ⟨l, hl, h⟩ := optW_iff h
    obtain ⟨m, hm, h⟩ := optW_iff h
    exact OpP.slice_str hT s l m hx hl hm h.1 h.2
  · rename_i rows hx
    obtain ⟨e, he, h⟩ := optW_iff h
    obtain ⟨s, hs, h⟩ := optW_iff h
    obtain ⟨l, hl, h⟩ := optW_iff h
    obtain ⟨m, hm, h⟩ := optW_iff h
    exact OpP.slice_sl (elemOf_some he) hs rows l m (fun _ _ _ h => hx ▸ h) hl hm h.1 h.2.1 h.2.2
  · rename_i r off len hx
    obtain ⟨e, he, h⟩ := optW_iff h
    obtain ⟨s, hs, h⟩ := optW_iff h
    split at h <;> try (exact h.elim)
    rename_i sz rows lim hr
    obtain ⟨rfl, h⟩ := h
    obtain ⟨l, hl, h⟩ := optW_iff h
    obtain ⟨m, hm, h⟩ := optW_iff h
    exact OpP.slice_vs (elemOf_some he) hs r off len lim rows l m hx hr hl hm h.1 h.2
  · rename_i hx
    obtain ⟨e, he, h⟩ := optW_iff h
    obtain ⟨s, hs, h⟩ := optW_iff h
    obtain ⟨l, hl, h⟩ := optW_iff h
    obtain ⟨m, hm, h⟩ := optW_iff h
    refine OpP.slice_sl (elemOf_some he) hs [] l m (fun _ _ v h => ?_) hl hm h.1 (by simp) (by simpa using h.2)
    rw [hx] at h
    rw [h.con_eq]
    exact .d _ _ (.sl [] none 0 0 0 0 (fun _ _ => undef) rfl (by omega) (by simp) (by simp) (by simp))
  · exact h.elim

theorem lenW_sound {st : St} {T : Nat} {x : Operand} {K : AV → Prop} {dst : Option Tmp} {ty : TypeId} {pos : String} {after : Array Edge} {gu : Option (Nat × Bool)} (h : lenW P T (ev st x) K) :
    OpP P n ⟨dst, .call ⟨.builtin .len, #[x], #[T]⟩, ty, pos, after, gu⟩ st K := by
  have el : (elemOf P T).isSome = true → lenOk P T = true ∧ ∃ e, P.underlying T = some (.slice e) := by
    intro he
    obtain ⟨e, he⟩ := Option.isSome_iff_exists.1 he
    have := elemOf_some he
    exact ⟨by unfold lenOk; rw [this], e, this⟩
  unfold lenW at h
  split at h
  · rename_i s hx
    exact OpP.len (m := s.size) (by unfold lenOk; rw [h.1]) (by rw [hx]; rfl) (fun _ _ => h.1) (fun hn => absurd hx (hn s)) h.2
  · rename_i a len c hx
    obtain ⟨h1, h2⟩ := el h.1
    exact OpP.len (m := len) h1 (by rw [hx]; rfl) (fun s hs => by rw [hx] at hs; cases hs) (fun _ => h2) h.2
  · rename_i rows hx
    obtain ⟨h1, h2⟩ := el h.1
    exact OpP.len (m := rows.length) h1 (by rw [hx]; rfl) (fun s hs => by rw [hx] at hs; cases hs) (fun _ => h2) h.2
  · rename_i r off len hx
    obtain ⟨h1, h2⟩ := el h.1
    exact OpP.len (m := len) h1 (by rw [hx]; rfl) (fun s hs => by rw [hx] at hs; cases hs) (fun _ => h2) h.2
  · exact h.elim

theorem storeW_sound {st : St} {T : Nat} {x v : Operand} {K : AV → St → Prop} {dst : Option Tmp} {ty : TypeId} {pos : String} {after : Array Edge} {gu : Option (Nat × Bool)} (h : storeW P st T (ev st x) (ev st v) fun st' => K (.d .any) st') :
    OpE P n p ⟨dst, .store T x v, ty, pos, after, gu⟩ st K := by
  unfold storeW at h
  split at h <;> try (exact h.elim)
  rename_i r i off hx
  split at h <;> try (exact h.elim)
  · rename_i cs hr
    obtain ⟨rfl, h⟩ := h
    obtain ⟨ns, hns, hs, h1, hle, hk⟩ := optW_iff h
    exact OpE.store_box r off cs ns hx hr hns hs (fun c hc => List.all_eq_true.1 h1 c hc) hle hk
  · obtain ⟨⟨d, R'⟩, hd, h⟩ := optW_iff h
    obtain ⟨ds, hds, h⟩ := optW_iff h
    split at h <;> try (exact h.elim)
    rename_i sz rows lim hr
    obtain ⟨hi, hlim, hs, h1, h⟩ := h
    obtain ⟨hle, hk⟩ := h _ (List.getElem?_eq_getElem hi)
    exact OpE.store_arr r i off sz lim rows _ ds d R' hx hd hr (List.getElem?_eq_getElem hi) hds hs (fun c hc => List.all_eq_true.1 h1 c hc) hle hlim hk

theorem appendW_sound {st : St} {T tx : Nat} {s x : Operand} {K : AV → St → Prop} {dst : Option Tmp} {ty : TypeId} {pos : String} {after : Array Edge} {gu : Option (Nat × Bool)}
    (h : appendW P p st T tx (ev st s) (ev st x) K) : OpE P n p ⟨dst, .call ⟨.builtin .append, #[s, x], #[T, tx]⟩, ty, pos, after, gu⟩ st K := by
  obtain ⟨htx, h⟩ := h
  obtain ⟨e', he'⟩ := Option.isSome_iff_exists.1 htx
  obtain ⟨e, he, h⟩ := optW_iff h
  obtain ⟨⟨sz, bytes, z⟩, hi, h⟩ := optW_iff h
  obtain ⟨i, hi1, hi2, hi3, hi4⟩ := infoOf_some hi
  simp only at h hi2 hi3 hi4
  obtain ⟨hzl, h⟩ := h
  obtain ⟨rows2, hsrc, hrow, h⟩ := optW_iff h
  refine .of_left fun M β a w hrel => ?_
  have hxv := ev_rel hrel x
  have hsv := ev_rel hrel s
  have fin : ∀ {u' : Value} {w' : World}, (Builtin.append_ #[T, tx] ty #[a.eval s, a.eval x]).run P w = .ok u' w' →
      (execOp a.eval ⟨dst, .call ⟨.builtin .append, #[s, x], #[T, tx]⟩, ty, pos, after, gu⟩).run P w = .ok (.value u') w' := by
    intro u' w' hrun
    simp [execOp, resolve, invoke, builtin, hrun]
  split at h <;> try (exact h.elim)
  · rename_i r off len hs
    split at h <;> try (exact h.elim)
    rename_i sz' rows lim hr
    obtain ⟨⟨rfl, hoff, hlim, hp⟩, hb, hk⟩ := h
    rw [hs] at hsv
    obtain ⟨u', w', s', hrun, hv, hr', hl⟩ := append_core (P := P) (p := p) (ty := ty) hrel (elemOf_some he) i hi1 z hi2 hi3 hi4 hzl _ _ r off len lim rows rows2 hsv hr hoff hlim tx e' (elemOf_some he') _ hxv hsrc hrow hb.1 hb.2 hp
    exact .val (fin hrun) hk hv hr' hl
  · rename_i hs
    obtain ⟨hp, hb, hk⟩ := h
    rw [hs] at hsv
    have hsv := hsv.con_eq
    -- a root of no memory first
    have hsame := addW_same hrel.holds Slot.virt
    have hadd := hrel.holds.add (Ext.refl w) .virt (.arr sz [] 0) (by intro l hl; cases hl) (.virt sz 0)
    have hrel1 : Rel n M (addW β st.roots.length .virt) { st with roots := st.roots ++ [.arr sz [] 0] } a w := ⟨hrel.size, hrel.defers, fun t => (hrel.env t).mono (fun _ _ _ h => h) hsame, hadd⟩
    have hsrc1 : srcRows { st with roots := st.roots ++ [.arr sz [] 0] } (ev st x) = some rows2 := by
      unfold srcRows at hsrc ⊢
      split at hsrc
      · exact hsrc
      · exact hsrc
      · rename_i r2 off2 len2 hx2
        split at hsrc <;> try (cases hsrc; done)
        rename_i hr2
        have : r2 < st.roots.length := (List.getElem?_eq_some_iff.1 hr2).1
        simp only [List.getElem?_append_left this, hr2]
        exact hsrc
      · cases hsrc
    obtain ⟨u', w', s', hrun, hv, hr', hl⟩ := append_core (P := P) (p := p) (ty := ty) hrel1 (elemOf_some he) i hi1 z hi2 hi3 hi4 hzl (a.eval s) (a.eval x) st.roots.length 0 0 0 [] rows2
      (by rw [hsv]; exact .vsV _ none (by simp [addW])) (by simp) (by simp) (by simp) tx e' (elemOf_some he') _ (hxv.mono (fun _ _ _ h => h) hsame) hsrc1 hrow (by simpa using hb.1) (by simpa using hb.2) hp
    have hl0 : Later p M β w M (addW β st.roots.length .virt) w := Later.add hrel.holds (Ext.refl w) .virt (by intro l hl; cases hl) (fun _ _ _ h => h) (fun _ _ _ => rfl)
    refine .val (fin hrun) hk (by simpa using hv) ?_ (hl0.trans hl)
    have e1 : ((st.roots ++ [Root.arr sz [] 0]).map (renR (killF st.roots.length))).set st.roots.length (.arr sz (([] : List (List D)).drop 0 |>.take 0 |> (· ++ rows2)) (0 - 0)) =
        st.roots.map (renR (killF st.roots.length)) ++ [.arr sz rows2 0] := by
      rw [List.map_append, List.set_append_right _ _ (by simp)]
      simp
    rw [← e1]
    exact hr'

theorem isPtrT_some {T : Nat} (h : isPtrT P T = true) : ∃ e, P.underlying T = some (.pointer e) := by
  unfold isPtrT at h
  split at h
  · exact ⟨_, by assumption⟩
  · cases h
theorem isBoolT_some {T : Nat} (h : isBoolT P T = true) : P.underlying T = some .bool := by
  unfold isBoolT at h
  split at h
  · assumption
  · cases h
theorem run_equalIn_nil (d : Nat) {T e : Nat} (h : P.underlying T = some (.pointer e)) (a : Addr) (w : World) : (Op.equalIn (d + 1) T (.pointer (some a)) (.pointer none)).run P w = .ok false w := by
  simp [Op.equalIn, run_underlying h]
theorem run_equal_nil {T e : Nat} (h : P.underlying T = some (.pointer e)) (a : Addr) (w : World) : (Op.equal T (.pointer (some a)) (.pointer none)).run P w = .ok false w := run_equalIn_nil 9999 h a w
theorem run_equalIn_b (d : Nat) {T : Nat} (h : P.underlying T = some .bool) (a b : Bool) (w : World) : (Op.equalIn (d + 1) T (.bool a) (.bool b)).run P w = .ok (a == b) w := by
  simp [Op.equalIn, run_underlying h]
theorem run_equal_b {T : Nat} (h : P.underlying T = some .bool) (a b : Bool) (w : World) : (Op.equal T (.bool a) (.bool b)).run P w = .ok (a == b) w := run_equalIn_b 9999 h a b w
theorem run_eqNil {T : Nat} (hT : isPtrT P T = true) (a : Addr) (x y : Operand) (w : World) :
    (do eqGuard .eql T x y (.pointer (some a)) (.pointer none); binOp .eql T (.pointer (some a)) (.pointer none) : Sem Value).run P w = .ok (.bool false) w := by
  obtain ⟨e, he⟩ := isPtrT_some hT
  have h1 : (eqGuard .eql T x y (.pointer (some a)) (.pointer none)).run P w = .ok () w := by simp [eqGuard]
  have h2 : (binOp .eql T (.pointer (some a)) (.pointer none)).run P w = .ok (.bool false) w := by
    simp only [binOp]; simp [run_equal_nil he]
  simp only [Sem.run_bind, h1, Result.andThen_ok, h2]
theorem run_neqNil {T : Nat} (hT : isPtrT P T = true) (a : Addr) (x y : Operand) (w : World) :
    (do eqGuard .neq T x y (.pointer (some a)) (.pointer none); binOp .neq T (.pointer (some a)) (.pointer none) : Sem Value).run P w = .ok (.bool true) w := by
  obtain ⟨e, he⟩ := isPtrT_some hT
  have h1 : (eqGuard .neq T x y (.pointer (some a)) (.pointer none)).run P w = .ok () w := by simp [eqGuard]
  have h2 : (binOp .neq T (.pointer (some a)) (.pointer none)).run P w = .ok (.bool true) w := by
    simp only [binOp]; simp [run_equal_nil he]
  simp only [Sem.run_bind, h1, Result.andThen_ok, h2]
theorem run_binT {op : BinOp} {T : TypeId} {u v r : Value} (h : binT P op T u v = some r) (x y : Operand) (w : World) :
    (do eqGuard op T x y u v; binOp op T u v : Sem Value).run P w = .ok r w := by
  unfold binT at h
  split at h
  · rename_i a b
    split at h
    · split at h <;> simp only [Option.some.injEq, reduceCtorEq] at h
      rename_i hT
      subst h
      have h1 : (eqGuard .eql T x y (.bool a) (.bool b)).run P w = .ok () w := by simp [eqGuard]
      have h2 : (binOp .eql T (.bool a) (.bool b)).run P w = .ok (.bool (a == b)) w := by
        simp only [binOp]; simp [run_equal_b (isBoolT_some hT)]
      simp only [Sem.run_bind, h1, Result.andThen_ok, h2]
    · split at h <;> simp only [Option.some.injEq, reduceCtorEq] at h
      rename_i hT
      subst h
      have h1 : (eqGuard .neq T x y (.bool a) (.bool b)).run P w = .ok () w := by simp [eqGuard]
      have h2 : (binOp .neq T (.bool a) (.bool b)).run P w = .ok (.bool (a != b)) w := by
        simp only [binOp]; simp [run_equal_b (isBoolT_some hT), bne]
      simp only [Sem.run_bind, h1, Result.andThen_ok, h2]
    · cases h
  · exact run_binV h x y w
section
variable {st : St} {T T' : TypeId} {x y : Operand} {K : AV → Prop} {dst : Option Tmp} {ty : TypeId} {pos : String} {after : Array Edge} {gu : Option (Nat × Bool)}
theorem OpP.binT {op : BinOp} (u v r : Value) (hx : ev st x = .d (.con u)) (hy : ev st y = .d (.con v)) (hr : Al.binT P op T u v = some r)
    (h : K (.d (.con r))) : OpP P n ⟨dst, .binOp op T x y T', ty, pos, after, gu⟩ st K := by
  intro M β a w hrel
  have h1 := ev_rel hrel x
  have h2 := ev_rel hrel y
  rw [hx] at h1
  rw [hy] at h2
  refine ⟨r, _, h, .d _ _ (.con r), .of fun w' _ => ?_⟩
  have := run_binT (P := P) (T := T) hr x y w'
  simp only [execOp, h1.con_eq, h2.con_eq, Sem.run_bind] at *
  rw [this]; rfl
theorem OpP.nilCmp {op : BinOp} {b : Bool} (hop : (op = .eql ∧ b = false) ∨ (op = .neq ∧ b = true)) (r i off : Nat) (hT : isPtrT P T = true) (hx : ev st x = .ptr r i off) (hy : ev st y = .d (.con (.pointer none)))
    (h : K (.d (.con (.bool b)))) : OpP P n ⟨dst, .binOp op T x y T', ty, pos, after, gu⟩ st K := by
  intro M β a w hrel
  have h1 := ev_rel hrel x
  have h2 := ev_rel hrel y
  rw [hx] at h1
  rw [hy] at h2
  refine ⟨_, _, h, .d _ _ (.con _), .of fun w' _ => ?_⟩
  have e2 := h2.con_eq
  obtain ⟨ad, e1⟩ : ∃ ad, a.eval x = .pointer (some ad) := by
    generalize a.eval x = u at *
    cases h1
    exact ⟨_, rfl⟩
  simp only [execOp, e1, e2]
  rcases hop with ⟨rfl, rfl⟩ | ⟨rfl, rfl⟩
  · have := run_eqNil hT ad x y w'
    simp only [Sem.run_bind] at *
    rw [this]; rfl
  · have := run_neqNil hT ad x y w'
    simp only [Sem.run_bind] at *
    rw [this]; rfl
theorem OpP.maxMin {args : Array Operand} {ats : Array TypeId} (big : Bool) (hs : args.size = 2)
    (h : maxW big (ev st (args.getD 0 (.const undef))) (ev st (args.getD 1 (.const undef))) K) : OpP P n ⟨dst, .call ⟨.builtin (if big then .max else .min), args, ats⟩, ty, pos, after, gu⟩ st K := by
  obtain ⟨x, y, rfl⟩ : ∃ x y, args = #[x, y] := by
    match args, hs with
    | ⟨[x, y]⟩, _ => exact ⟨x, y, rfl⟩
  unfold maxW at h
  split at h
  · rename_i k a k' b hx hy
    obtain ⟨rfl, h⟩ := h
    have hx : ev st x = .d (.con (.int k a)) := hx
    have hy : ev st y = .d (.con (.int k b)) := hy
    intro M β ac w hrel
    have h1 := ev_rel hrel x
    have h2 := ev_rel hrel y
    rw [hx] at h1
    rw [hy] at h2
    refine ⟨_, _, h, .d _ _ (.con _), .of fun w' _ => ?_⟩
    cases big
    · simp [execOp, resolve, invoke, builtin, h1.con_eq, h2.con_eq, Builtin.min_, Builtin.min2]
      split <;> omega
    · simp [execOp, resolve, invoke, builtin, h1.con_eq, h2.con_eq, Builtin.max_, Builtin.max2]
      split <;> omega
  · exact h.elim
end

/-- What must hold ahead of an operation that only looks serves. -/
theorem opP_sound {o : Oper} {st : St} {K : AV → Prop} (h : opP P o.op st K) : OpP P n o st K := by
  obtain ⟨dst, op, ty, pos, after, gu⟩ := o
  simp only at h
  unfold opP at h
  split at h
  · exact (.move h)
  · exact (.assign h)
  · rename_i c x y
    unfold boolW at h
    split at h
    · rename_i t hc
      exact (.pick t hc h.1 h.2)
    · exact h.elim
  · unfold binW at h
    split at h
    · rename_i u v hu hv
      obtain ⟨r, hr, h⟩ := optW_iff h
      exact .binT u v r hu hv hr h
    · rename_i r i off hu hv
      obtain ⟨hT, h⟩ := h
      rcases h with ⟨e, h⟩ | ⟨e, h⟩
      · exact .nilCmp (.inl ⟨e, rfl⟩) r i off hT hu hv h
      · exact .nilCmp (.inr ⟨e, rfl⟩) r i off hT hu hv h
    · exact h.elim
  · obtain ⟨u, hu, h⟩ := conW_iff h
    obtain ⟨r, hr, h⟩ := optW_iff h
    exact (.un u r hu hr h)
  · unfold convW at h
    split at h
    · rename_i k m hx
      obtain ⟨hs, h⟩ := h
      obtain ⟨k', hk', h⟩ := optW_iff h
      unfold intKindOf at hk'
      split at hk'
      · rename_i hu
        cases hk'
        exact (.conv_int k _ m hs hu hx h)
      · cases hk'
    · exact h.elim
  · unfold nilW at h
    split at h
    · rename_i r i off hx; exact (.nilCheck _ hx (.inl ⟨r, i, off, rfl⟩) h)
    · rename_i row off hx; exact (.nilCheck _ hx (.inr (.inl ⟨row, off, rfl⟩)) h)
    · rename_i f cs hx; exact (.nilCheck _ hx (.inr (.inr ⟨f, cs, rfl⟩)) h)
    · exact h.elim
  · exact (loadW_sound h)
  · obtain ⟨o, ho, h⟩ := optW_iff h
    unfold fieldW at h
    split at h
    · rename_i row off hx; exact (.fieldAddr ho _ (.inl ⟨row, off, hx, rfl⟩) h)
    · rename_i r i off hx; exact (.fieldAddr ho _ (.inr ⟨r, i, off, hx, rfl⟩) h)
    · exact h.elim
  · exact (idxW_sound h)
  · obtain ⟨hT, h⟩ := h
    split at h <;> try (exact h.elim)
    rename_i k m hi
    split at h <;> try (exact h.elim)
    rename_i s hx
    exact (.index_str hT s k m hx hi h.1 h.2)
  · split at h <;> try (exact h.elim)
    rename_i vs hx
    obtain ⟨y, hy, h⟩ := optW_iff h
    exact (.extract vs y hx hy h)
  · obtain ⟨rfl, h⟩ := h
    exact (sliceW_sound h)
  · obtain ⟨cs, hcs, h⟩ := optW_iff h
    exact (.build cs hcs h)
  · obtain ⟨rfl, h⟩ := h
    split at h
    · exact (.makeFunc h)
    · exact h.elim
  · rename_i args ats
    obtain ⟨h1, h2, h⟩ := h
    obtain ⟨x, rfl⟩ : ∃ x, args = #[x] := by
      match args, h1 with
      | ⟨[x]⟩, _ => exact ⟨x, rfl⟩
    obtain ⟨T, rfl⟩ : ∃ x, ats = #[x] := by
      match ats, h2 with
      | ⟨[x]⟩, _ => exact ⟨x, rfl⟩
    exact (lenW_sound h)
  · rename_i args ats
    obtain ⟨h1, h⟩ := h
    exact .maxMin true h1 h
  · rename_i args ats
    obtain ⟨h1, h⟩ := h
    exact .maxMin false h1 h
  · exact lookW_sound h
  · exact h.elim

/-- What must hold ahead of an operation serves. -/
theorem opA_sound {o : Oper} {st : St} {K : AV → St → Prop} (h : opA P p o.op st K) : OpE P n p o st K := by
  obtain ⟨dst, op, ty, pos, after, gu⟩ := o
  simp only at h
  unfold opA at h
  split at h
  · obtain ⟨cs, hcs, h⟩ := optW_iff h
    exact .box cs hcs h
  · obtain ⟨z, hz, h⟩ := optW_iff h
    obtain ⟨cs, hcs, h⟩ := optW_iff h
    exact .alloc z hz cs hcs h
  · obtain ⟨e, he, h⟩ := optW_iff h
    obtain ⟨sz, hsz, hz, h⟩ := optW_iff h
    obtain ⟨⟨rows, R'⟩, hr, hl, hk⟩ := optW_iff h
    obtain ⟨z, hz⟩ := Option.isSome_iff_exists.1 hz
    exact .buildSlice (elemOf_some he) hsz z hz rows R' hr hl.1 hl.2 hk
  · obtain ⟨e, he, h⟩ := optW_iff h
    obtain ⟨⟨sz, bytes, z⟩, hi, h⟩ := optW_iff h
    obtain ⟨zr, hzr, h⟩ := optW_iff h
    obtain ⟨i, hi1, hi2, hi3, hi4⟩ := infoOf_some hi
    split at h <;> try (exact h.elim)
    rename_i k m hx
    split at h <;> try (exact h.elim)
    rename_i k' m' hy
    exact .makeSlice (elemOf_some he) z i hi1 hi2 hi3 hi4 zr hzr h.1.1 h.1.2 k k' m m' hx hy h.2.1.1 h.2.1.2.1 h.2.1.2.2.1 h.2.1.2.2.2 h.2.2
  · exact storeW_sound h
  · rename_i args ats
    obtain ⟨h1, h2, h⟩ := h
    obtain ⟨x, y, rfl⟩ : ∃ x y, args = #[x, y] := by
      match args, h1 with
      | ⟨[x, y]⟩, _ => exact ⟨x, y, rfl⟩
    obtain ⟨T, T', rfl⟩ : ∃ x y, ats = #[x, y] := by
      match ats, h2 with
      | ⟨[x, y]⟩, _ => exact ⟨x, y, rfl⟩
    exact appendW_sound h
  · obtain ⟨mk, h⟩ := h
    exact .makeMap mk h
  · exact (updW_sound h).1
  · exact (updW_sound h).2
  · exact .of_pure (opP_sound h)

end Go.Al

