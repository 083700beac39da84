/- Al: operations that write: slices made, stores, append. -/
import Derived.Test.YtobcdpmjaeflmaaGreatDoorAlRows
import Derived.Laws.CopyRow
import Derived.Deep.AppendSrc
set_option linter.unusedVariables false
set_option linter.unusedSimpArgs false
namespace Go.Al
variable {P : Program} {n : Nat} {p : Nat → Prop} {st : St} {dst : Option Tmp} {ty : TypeId} {pos : String} {after : Array Edge} {gu : Option (Nat × Bool)}

mutual
theorem ren_some : ∀ a : AV, ren some a = a
  | .d _ => rfl
  | .vs .. => rfl
  | .ptr .. => rfl
  | .fptr .. => rfl
  | .agg cs => by simp only [ren, renL_some cs]
  | .tup cs => by simp only [ren, renL_some cs]
  | .fn _ cs => by simp only [ren, renL_some cs]
  | .gd _ x => by simp only [ren, ren_some x]
  | .mp r => by simp only [ren]
theorem renL_some : ∀ l : List AV, renL some l = l
  | [] => rfl
  | c :: cs => by simp only [renL, ren_some c, renL_some cs]
end

theorem renR_some (R : Root) : renR some R = R := by cases R <;> simp [renR, renL_some]

def renE (f : Nat → Option Nat) : List (Nat × AV) → List (Nat × AV)
  | [] => []
  | (k, v) :: e => (k, ren f v) :: renE f e

theorem renE_some : ∀ e, renE some e = e
  | [] => rfl
  | (k, v) :: e => by simp [renE, ren_some, renE_some e]

theorem look_renE (f : Nat → Option Nat) (t : Nat) : ∀ e, look (renE f e) t = ren f (look e t)
  | [] => rfl
  | (k, v) :: e => by
    simp only [renE, look]
    split
    · rfl
    · exact look_renE f t e

theorem splice_toArray' (cur : Array Value) (o : Nat) (vs : List Value) : (cur.toList.take o ++ vs ++ cur.toList.drop (o + vs.length)).toArray = (splice cur.toList o vs).toArray := rfl

theorem RelR.ren {M : Mem} {β β' : Where} {w : World} {f : Nat → Option Nat} (hf : ∀ r r', f r = some r' → β' r' = β r) {s : Slot} {root : Root} (h : RelR M β w s root) : RelR M β' w s (renR f root) := by
  cases h with
  | dead => exact .dead _
  | virt sz lim => exact .virt sz lim
  | box b cs vals T hw hlen hM hR =>
    simp only [renR]
    have e1 : (renL f cs).length = cs.length := by rw [renL_eq]; simp
    rw [← e1]
    refine .box b (renL f cs) vals T hw (by rw [e1]; exact hlen) hM ?_
    intro i c x h1 h2
    rw [renL_eq] at h1
    simp only [List.getElem?_map, Option.map_eq_some_iff] at h1
    obtain ⟨c0, h1, rfl⟩ := h1
    exact (hR i c0 x h1 h2).ren hf
  | arr b o sz cap lim rows vals T hw hcap hsize hrow hM hR => exact .arr b o sz cap lim rows vals T hw hcap hsize hrow hM hR
  | map b mk es arr clock hw hlen hM hR => exact .map b mk es arr clock hw hlen hM hR

/-- Where the roots lie when one has moved. -/
def setW (β : Where) (r : Nat) (s : Slot) : Where := fun q => if q = r then s else β q

/-- One root turns, the others stay. -/
theorem Holds.turn {M : Mem} {β : Where} {R : List Root} {w w' : World} (h : Holds M β R w) (r : Nat) (hr : r < R.length) (s' : Slot) (root' : Root) (f : Nat → Option Nat)
    (hf : ∀ q q', f q = some q' → q' = q ∧ (q = r → s' = β r)) (hsize : w.heap.size ≤ w'.heap.size)
    (hheap : ∀ b, b < w.heap.size → (∀ l, β r = .at l → b ≠ l.b) → w'.heap[b]? = w.heap[b]?)
    (hfro : ∀ l o x, β r = .at l → M l.b o = some x → w'.cell? ⟨l.b, o, none⟩ = some x)
    (hs : ∀ l', s' = .at l' → l'.b < w'.heap.size ∧ ((∃ l, β r = .at l ∧ l.b = l'.b) ∨ w.heap.size ≤ l'.b))
    (hroot : RelR M (setW β r s') w' s' root') : Holds M (setW β r s') ((R.map (renR f)).set r root') w' := by
  have hfβ : ∀ q q', f q = some q' → setW β r s' q' = β q := by
    intro q q' hq
    obtain ⟨rfl, h2⟩ := hf q q' hq
    unfold setW
    split
    · rename_i e; subst e; exact h2 rfl
    · rfl
  refine ⟨?_, ?_, ?_, ?_, ?_, h.glob.step hsize (fun b hb hn => hheap b hb fun l hl e => hn r l hl e.symm) (fun q l' hl' => by
    simp only [setW] at hl'
    split at hl'
    · rcases (hs l' hl').2 with ⟨l, hl, e⟩ | h0
      · exact .inl ⟨r, l, hl, e⟩
      · exact .inr h0
    · exact .inl ⟨q, l', hl', rfl⟩)⟩
  · intro b o x hx
    have hc := h.frozen b o x hx
    by_cases e : ∃ l, β r = .at l ∧ b = l.b
    · obtain ⟨l, hl, rfl⟩ := e
      exact hfro l o x hl hx
    · have hb := World.block_lt_of_cell? w _ hc
      unfold World.cell? at *
      rw [hheap b hb (fun l hl e' => e ⟨l, hl, e'⟩)]
      exact hc
  · intro q rt hq
    by_cases e : q = r
    · subst e
      have : q < (R.map (renR f)).length := by simpa using hr
      rw [List.getElem?_set_self this] at hq
      cases hq
      simpa [setW] using hroot
    · rw [List.getElem?_set_ne (Ne.symm e)] at hq
      simp only [List.getElem?_map, Option.map_eq_some_iff] at hq
      obtain ⟨rt0, hrt0, rfl⟩ := hq
      have h1 : RelR M (setW β r s') w (β q) (renR f rt0) := (h.root q rt0 hrt0).ren hfβ
      simp only [setW, if_neg e]
      have hne : ∀ l0, β q = .at l0 → w'.heap[l0.b]? = w.heap[l0.b]? := fun l0 hl0 =>
        hheap l0.b (h.low q l0 hl0) (fun l hl e' => e (h.inj q r l0 l hl0 hl e'))
      generalize hs0 : β q = s0 at h1
      generalize renR f rt0 = rt1 at h1
      cases h1 with
      | dead => exact .dead _
      | virt sz lim => exact .virt sz lim
      | box b cs vals T hw hlen hM hR => exact .box b cs vals T ((hne _ hs0).trans hw) hlen hM hR
      | arr b o sz cap lim rows vals T hw hcap hsize hrow hM hR => exact .arr b o sz cap lim rows vals T ((hne _ hs0).trans hw) hcap hsize hrow hM hR
      | map b mk es arr clock hw hlen hM hR => exact .map b mk es arr clock ((hne _ hs0).trans hw) hlen hM hR
  · intro q q' l1 l2 h1 h2 hb
    have key : ∀ q l1 l2, q ≠ r → β q = .at l1 → s' = .at l2 → l1.b ≠ l2.b := by
      intro q l1 l2 hq h1 h2 hb
      rcases (hs l2 h2).2 with ⟨l, hl, e⟩ | e
      · exact hq (h.inj q r l1 l h1 hl (hb.trans e.symm))
      · have := h.low q l1 h1; omega
    simp only [setW] at h1 h2
    split at h1 <;> split at h2
    · omega
    · exact absurd hb.symm (key q' l2 l1 (by assumption) h2 h1)
    · exact absurd hb (key q l1 l2 (by assumption) h1 h2)
    · exact h.inj q q' l1 l2 h1 h2 hb
  · intro q l1 h1
    simp only [setW] at h1
    split at h1
    · exact (hs l1 h1).1
    · exact Nat.lt_of_lt_of_le (h.low q l1 h1) hsize
  · intro q hq
    simp only [List.length_set, List.length_map]
    simp only [setW] at hq
    split at hq
    · omega
    · exact h.scope q hq

theorem Rel.turn {M : Mem} {β : Where} {w w' : World} {a : Act} (h : Rel n M β st a w) (r : Nat) (s' : Slot) (f : Nat → Option Nat)
    (hf : ∀ q q', f q = some q' → q' = q ∧ (q = r → s' = β r)) {R' : List Root} (hh : Holds M (setW β r s') R' w') :
    Rel n M (setW β r s') { env := renE f st.env, roots := R' } a w' := by
  refine ⟨h.size, h.defers, fun t => ?_, hh⟩
  simp only [look_renE]
  refine (h.env t).ren ?_
  intro q q' hq
  obtain ⟨rfl, h2⟩ := hf q q' hq
  unfold setW
  split
  · rename_i e; subst e; exact h2 rfl
  · rfl

theorem Later.turn {M : Mem} {β : Where} {w w' : World} (r : Nat) (s' : Slot) (hsize : w.heap.size ≤ w'.heap.size)
    (hheap : ∀ b, b < w.heap.size → (∀ l, β r = .at l → b ≠ l.b) → w'.heap[b]? = w.heap[b]?)
    (hs : ∀ l', s' = .at l' → (∃ l, β r = .at l ∧ l.b = l'.b) ∨ w.heap.size ≤ l'.b) (hpin : p r → s' = β r) (hst : w'.os = w.os ∧ w'.tape = w.tape ∧ w'.output = w.output) : Later p M β w M (setW β r s') w' := by
  refine ⟨fun _ _ _ h => h, hsize, fun b hb hr => ⟨hheap b hb (fun l hl e => hr r l hl e.symm), fun _ => rfl⟩, ?_, ?_, hst⟩
  · intro q l hl
    simp only [setW] at hl
    split at hl
    · rcases hs l hl with ⟨l0, h0, e⟩ | e
      · exact .inl ⟨r, l0, h0, e⟩
      · exact .inr e
    · exact .inl ⟨q, l, hl, rfl⟩
  · intro q hq _
    simp only [setW]
    split
    · rename_i e; subst e; exact hpin hq
    · rfl

/-! ### Stores -/

def oneA : AV → Bool
  | .d (.con v) => v.oneCell'
  | .d .cell => true
  | .d (.sl _) => true
  | .vs .. => true
  | .ptr .. => true
  | .fptr .. => true
  | .fn .. => true
  | .mp .. => true
  | _ => false

theorem oneA_rel {M : Mem} {β : Where} {a : AV} {v : Value} (h : RelV M β a v) (h1 : oneA a = true) : v.oneCell' = true := by
  cases h with
  | d x _ hf => cases hf <;> simp_all [oneA, Value.oneCell']
  | _ => simp_all [oneA, Value.oneCell']

/-- A store into a box. -/
theorem OpE.store_box {T : TypeId} {x v : Operand} {K : AV → St → Prop} (r off : Nat) (cs ns : List AV) (hx : ev st x = .ptr r 0 off) (hr : st.roots[r]? = some (.box cs))
    (hv : cellsA (ev st v) = some ns) (hs : szOf P T = some ns.length) (h1 : ∀ c, c ∈ ns → oneA c = true) (hle : off + ns.length ≤ cs.length)
    (h : K (.d .any) { st with roots := st.roots.set r (.box (splice cs off ns)) }) : OpE P n p ⟨dst, .store T x v, ty, pos, after, gu⟩ st K := by
  refine .of_left fun M β a w hrel => ?_
  have hh := hrel.holds
  have hrx := ev_rel hrel x
  have hrv := ev_rel hrel v
  rw [hx] at hrx
  generalize hu : a.eval x = u at hrx
  cases hrx with
  | ptr _ _ _ l hl =>
    have hroot := hh.root r _ hr
    rw [hl] at hroot
    have hrlt : r < st.roots.length := (List.getElem?_eq_some_iff.1 hr).1
    cases hroot with
    | box b _ vals T' hw hlen hM hR =>
      obtain ⟨e1, e2⟩ := cellsA_rel hrv hv
      have hone : ∀ y ∈ (a.eval v).cells.toList, y.oneCell' = true := by
        intro y hy
        obtain ⟨i, hi⟩ := List.mem_iff_getElem?.1 hy
        have hi' : i < ns.length := by
          rw [e1]; simpa using (List.getElem?_eq_some_iff.1 hi).1
        exact oneA_rel (e2 i ns[i] y (List.getElem?_eq_getElem hi') (by simpa using hi)) (h1 _ (List.getElem_mem hi'))
      have hlv : (a.eval v).cells.toList.length = ns.length := by simp [e1]
      have hrun := run_storeCells_at P b off T' (a.eval v).cells.toList 0 vals w hw (by simp only [Nat.add_zero, hlv]; omega) hone
      simp only [Nat.add_zero, splice_toArray'] at hrun
      generalize hnew : splice vals.toList off (a.eval v).cells.toList = new at hrun
      have hnl : new.length = vals.size := by rw [← hnew, splice_length _ _ _ (by rw [hlv]; simp; omega)]; simp
      have hget : ∀ k, new[k]? = if off ≤ k ∧ k < off + ns.length then (a.eval v).cells[k - off]? else vals[k]? := by
        intro k
        rw [← hnew, splice_get _ _ _ (by rw [hlv]; simp; omega), hlv]
        simp
      have hsame : setW β r (.at ⟨b, 0, cs.length, 1⟩) = β := by
        funext q
        unfold setW
        split
        · rename_i e; rw [e, hl]
        · rfl
      have hf : ∀ q q', some q = some q' → q' = q ∧ (q = r → Slot.at ⟨b, 0, cs.length, 1⟩ = β r) := fun q q' e => ⟨by cases e; rfl, fun _ => hl.symm⟩
      have hsz : w.heap.size ≤ (w.setRow b new.toArray).heap.size := by simp [World.setRow]
      have hheap : ∀ b', b' < w.heap.size → (∀ l, β r = .at l → b' ≠ l.b) → (w.setRow b new.toArray).heap[b']? = w.heap[b']? := fun b' _ hne => setRow_other w b b' _ (hne _ hl)
      have hb : b < w.heap.size := lt_of_heap hw
      have hturn := hh.turn (w' := w.setRow b new.toArray) r hrlt (.at ⟨b, 0, cs.length, 1⟩) (.box (splice cs off ns)) some hf hsz hheap
        (by intro l' o y hl' hy; rw [hl] at hl'; cases hl'; rw [hM o] at hy; cases hy)
        (by intro l' hl'; cases hl'; exact ⟨by simpa [World.setRow] using hb, .inl ⟨_, hl, rfl⟩⟩)
        (by
          have e3 : (splice cs off ns).length = cs.length := splice_length _ _ _ hle
          rw [hsame, ← e3]
          refine .box b _ new.toArray T' (setRow_heap w b vals _ T' (0, 0) hw) (by rw [e3]; simp [hnl]; exact hlen) hM ?_
          intro i c y hc hy
          rw [splice_get _ _ _ hle] at hc
          simp only [List.getElem?_toArray] at hy
          rw [hget] at hy
          by_cases hk : off ≤ i ∧ i < off + ns.length
          · rw [if_pos hk] at hc hy
            exact e2 _ c y hc hy
          · rw [if_neg hk] at hc hy
            exact hR i c y hc hy)
      have hmap : st.roots.map (renR some) = st.roots := by
        rw [List.map_congr_left (fun x _ => renR_some x), List.map_id']
      rw [hmap] at hturn
      have hrel' := hrel.turn r _ some hf hturn
      rw [renE_some] at hrel'
      have hlater : Later p M β w M (setW β r (.at ⟨b, 0, cs.length, 1⟩)) (w.setRow b new.toArray) :=
        Later.turn r _ hsz hheap (by intro l' hl'; cases hl'; exact .inl ⟨_, hl, rfl⟩) (fun _ => hl.symm) ⟨rfl, rfl, rfl⟩
      refine .skip (w' := w.setRow b new.toArray) ?_ h (.d _ _ (.any _)) hrel' hlater
      have hsz' : ¬ ((a.eval v).cells.size ≠ ns.length) := by simp [e1]
      simp only [execOp, Instr.storeAt, hu, Instr.sureAddr, Sem.run_bind, Sem.run_pure, Result.andThen_ok, storeVar, run_sizeOf hs, hsz', if_false, Nat.zero_mul, Nat.zero_add, hrun]

end Go.Al
