/- Al: stores into arrays, slices made, append. -/
import Derived.Test.YtobcdpmjaeflmaaGreatDoorAlWrite
set_option linter.unusedVariables false
set_option linter.unusedSimpArgs false
namespace Go.Al
variable {P : Program} {n : Nat} {p : Nat → Prop} {st : St} {dst : Option Tmp} {ty : TypeId} {pos : String} {after : Array Edge} {gu : Option (Nat × Bool)}

def oneD : D → Bool
  | .con v => v.oneCell'
  | .cell => true
  | .sl _ => true
  | _ => false

theorem oneD_rel {M : Mem} {a : D} {v : Value} (h : RelF M a v) (h1 : oneD a = true) : v.oneCell' = true := by
  cases h <;> simp_all [oneD, Value.oneCell']

/-- A store into an array of the call's own. -/
theorem OpE.store_arr {T : TypeId} {x v : Operand} {K : AV → St → Prop} (r i off sz lim : Nat) (rows : List (List D)) (row ds : List D) (d : D) (R' : List Root) (hx : ev st x = .ptr r i off)
    (hv : asD (ev st v) st.roots = some (d, R')) (hr : R'[r]? = some (.arr sz rows lim)) (hrow : rows[i]? = some row)
    (hd : dcells d = some ds) (hs : szOf P T = some ds.length) (h1 : ∀ c, c ∈ ds → oneD c = true) (hle : off + ds.length ≤ row.length) (hlim : lim ≤ i)
    (h : K (.d .any) { st with roots := R'.set r (.arr sz (rows.set i (splice row off ds)) lim) }) : OpE P n p ⟨dst, .store T x v, ty, pos, after, gu⟩ st K := by
  refine .of_left fun M0 β a w hrel0 => ?_
  obtain ⟨M, hmore, hdv⟩ := asD_rel _ _ _ _ hv M0 β w hrel0.holds
  have hrel := More.rel hrel0 hmore
  have hh := hrel.holds
  have hrx := ev_rel hrel0 x
  have hrv := hdv _ (ev_rel hrel0 v)
  rw [hx] at hrx
  generalize hu : a.eval x = u at hrx
  cases hrx with
  | ptr _ _ _ l hl =>
    have hroot := hh.root r _ hr
    rw [hl] at hroot
    have hrlt : r < R'.length := (List.getElem?_eq_some_iff.1 hr).1
    cases hroot with
    | arr b o _ cap _ _ vals T' hw hcap hsize hrows hM hR =>
      obtain ⟨e1, e2⟩ := dcells_rel hrv hd
      have hone : ∀ y ∈ (a.eval v).cells.toList, y.oneCell' = true := by
        intro y hy
        obtain ⟨k, hk⟩ := List.mem_iff_getElem?.1 hy
        have hk' : k < ds.length := by
          rw [e1]; simpa using (List.getElem?_eq_some_iff.1 hk).1
        exact oneD_rel (e2 k ds[k] y (List.getElem?_eq_getElem hk') (by simpa using hk)) (h1 _ (List.getElem_mem hk'))
      have hlv : (a.eval v).cells.toList.length = ds.length := by simp [e1]
      have hi : i < rows.length := (List.getElem?_eq_some_iff.1 hrow).1
      have hrl := hrows i row hrow
      have hm : (i + 1) * sz ≤ cap * sz := Nat.mul_le_mul_right _ (by omega)
      rw [Nat.succ_mul] at hm
      have hrun := run_storeCells_at P b (o + i * sz + off) T' (a.eval v).cells.toList 0 vals w hw (by simp only [Nat.add_zero, hlv]; omega) hone
      simp only [Nat.add_zero, splice_toArray'] at hrun
      generalize hnew : splice vals.toList (o + i * sz + off) (a.eval v).cells.toList = new at hrun
      have hfit : o + i * sz + off + (a.eval v).cells.toList.length ≤ vals.toList.length := by rw [hlv]; simp; omega
      have hnl : new.length = vals.size := by rw [← hnew, splice_length _ _ _ hfit]; simp
      have hget : ∀ k, new[k]? = if o + i * sz + off ≤ k ∧ k < o + i * sz + off + ds.length then (a.eval v).cells[k - (o + i * sz + off)]? else vals[k]? := by
        intro k
        rw [← hnew, splice_get _ _ _ hfit, hlv]
        simp
      have hsame : setW β r (.at ⟨b, o, sz, cap⟩) = β := by
        funext q
        unfold setW
        split
        · rename_i e; rw [e, hl]
        · rfl
      have hf : ∀ q q', some q = some q' → q' = q ∧ (q = r → Slot.at ⟨b, o, sz, cap⟩ = β r) := fun q q' e => ⟨by cases e; rfl, fun _ => hl.symm⟩
      have hsz : w.heap.size ≤ (w.setRow b new.toArray).heap.size := by simp [World.setRow]
      have hheap : ∀ b', b' < w.heap.size → (∀ l, β r = .at l → b' ≠ l.b) → (w.setRow b new.toArray).heap[b']? = w.heap[b']? := fun b' _ hne => setRow_other w b b' _ (hne _ hl)
      have hb : b < w.heap.size := lt_of_heap hw
      have hnw := setRow_heap w b vals new.toArray T' (0, 0) hw
      have hlimle : lim * sz ≤ i * sz := Nat.mul_le_mul_right _ hlim
      have hturn := hh.turn (w' := w.setRow b new.toArray) r hrlt (.at ⟨b, o, sz, cap⟩) (.arr sz (rows.set i (splice row off ds)) lim) some hf hsz hheap
        (by
          intro l' q y hl' hy
          rw [hl] at hl'
          cases hl'
          have hq : q < o + lim * sz := by
            rcases Nat.lt_or_ge q (o + lim * sz) with h' | h'
            · exact h'
            · rw [hM q h'] at hy; cases hy
          have := hh.frozen b q y hy
          simp only [World.cell?, hw, hnw, Option.isSome_none, Bool.false_eq_true, if_false, List.getElem?_toArray] at this ⊢
          rw [hget, if_neg (by omega)]
          exact this)
        (by intro l' hl'; cases hl'; exact ⟨by simpa [World.setRow] using hb, .inl ⟨_, hl, rfl⟩⟩)
        (by
          rw [hsame]
          refine .arr b o sz cap lim _ new.toArray T' hnw (by simpa using hcap) (by simp [hnl]; exact hsize) ?_ hM ?_
          · intro k rw' hk
            by_cases e : k = i
            · subst e
              rw [List.getElem?_set_self (by omega)] at hk
              cases hk
              rw [splice_length _ _ _ hle]; exact hrl
            · rw [List.getElem?_set_ne (Ne.symm e)] at hk
              exact hrows k rw' hk
          · intro k rw' j c y hk hj hy
            simp only [List.getElem?_toArray] at hy
            rw [hget] at hy
            by_cases e : k = i
            · subst e
              rw [List.getElem?_set_self (by omega)] at hk
              cases hk
              rw [splice_get _ _ _ hle] at hj
              by_cases hc : off ≤ j ∧ j < off + ds.length
              · rw [if_pos hc] at hj
                rw [if_pos (by omega), show o + k * sz + j - (o + k * sz + off) = j - off from by omega] at hy
                exact e2 _ c y hj hy
              · rw [if_neg hc] at hj
                rw [if_neg (by omega)] at hy
                exact hR k row j c y hrow hj hy
            · rw [List.getElem?_set_ne (Ne.symm e)] at hk
              have hkl := hrows k rw' hk
              have hjl : j < sz := by rw [← hkl]; exact (List.getElem?_eq_some_iff.1 hj).1
              rw [if_neg] at hy
              · exact hR k rw' j c y hk hj hy
              · intro hc
                rcases Nat.lt_or_ge k i with h' | h'
                · have := Nat.mul_le_mul_right sz (show k + 1 ≤ i from h')
                  rw [Nat.succ_mul] at this
                  omega
                · have := Nat.mul_le_mul_right sz (show i + 1 ≤ k from by omega)
                  rw [Nat.succ_mul] at this
                  omega)
      have hmap : R'.map (renR some) = R' := by
        rw [List.map_congr_left (fun x _ => renR_some x), List.map_id']
      rw [hmap] at hturn
      have hrel' := hrel.turn r _ some hf hturn
      rw [renE_some] at hrel'
      have hlater : Later p M β w M (setW β r (.at ⟨b, o, sz, cap⟩)) (w.setRow b new.toArray) :=
        Later.turn r _ hsz hheap (by intro l' hl'; cases hl'; exact .inl ⟨_, hl, rfl⟩) (fun _ => hl.symm) ⟨rfl, rfl, rfl⟩
      refine .skip (w' := w.setRow b new.toArray) ?_ h (.d _ _ (.any _)) hrel' (hmore.later.trans hlater)
      have hsz' : ¬ ((a.eval v).cells.size ≠ ds.length) := by simp [e1]
      simp only [execOp, Instr.storeAt, hu, Instr.sureAddr, Sem.run_bind, Sem.run_pure, Result.andThen_ok, storeVar, run_sizeOf hs, hsz', if_false, hrun]

/-- A slice made. -/
theorem OpE.makeSlice {T e sz bytes : Nat} {x y : Operand} {K : AV → St → Prop} (hT : P.underlying T = some (.slice e)) (z : Value) (i : TypeInfo) (hi : P.info? e = some i) (hz : i.zero = some z)
    (hsz : i.size = sz) (hby : i.bytes = bytes) (zr : List D) (hzr : dcells (.con z) = some zr) (hzl : zr.length = sz) (hpos : 0 < sz) (k k' : IntKind) (m m' : Int)
    (hx : ev st x = .d (.con (.int k m))) (hy : ev st y = .d (.con (.int k' m'))) (h0 : 0 ≤ m) (hm : m ≤ m') (hb : bytes * m'.toNat ≤ 140737488355328) (hmax : m'.toNat ≤ 140737488355328)
    (h : K (.vs st.roots.length 0 m.toNat) { st with roots := st.roots ++ [.arr sz (List.replicate m.toNat zr) 0] }) : OpE P n p ⟨dst, .makeSlice T x y, ty, pos, after, gu⟩ st K := by
  subst hsz; subst hby
  refine .of_left fun M β a w hr => ?_
  have h1 := ev_rel hr x
  have h2 := ev_rel hr y
  rw [hx] at h1
  rw [hy] at h2
  have h1 := h1.con_eq
  have h2 := h2.con_eq
  have hbi : (i.bytes : Int) * m' ≤ 281474976710656 := by
    have e1 : ((i.bytes * m'.toNat : Nat) : Int) ≤ 140737488355328 := by omega
    rw [Int.natCast_mul, Int.toNat_of_nonneg (by omega)] at e1
    omega
  have hrun := run_make (P := P) w T e i z hT hi hz k k' m m' h0 hm hbi (by omega)
  have he := Ext.alloc w (.cells (madeCells z.cells (m'.toNat * i.size)) e)
  obtain ⟨e1, e2⟩ := dcells_rel (M := M) (.con z) hzr
  have hsame := addW_same hr.holds (.at ⟨w.heap.size, 0, i.size, m'.toNat⟩)
  refine .val (v := .slice (some ⟨w.heap.size, 0, none⟩) m.toNat m'.toNat) (w' := w.alloc (.cells (madeCells z.cells (m'.toNat * i.size)) e)) (M' := M)
    (β' := addW β st.roots.length (.at ⟨w.heap.size, 0, i.size, m'.toNat⟩)) ?_ h ?_ ⟨hr.size, hr.defers, fun t => (hr.env t).mono (fun _ _ _ h => h) hsame, ?_⟩ ?_
  · simp only [execOp, h1, h2, Sem.run_bind, hrun]
    rfl
  · have := RelV.vs (M := M) (β := addW β st.roots.length (.at ⟨w.heap.size, 0, i.size, m'.toNat⟩)) st.roots.length 0 m.toNat ⟨w.heap.size, 0, i.size, m'.toNat⟩ (by simp [addW]) (by simp; omega)
    simpa using this
  · refine hr.holds.add he _ _ (by intro l hl; cases hl; simp) ?_
    refine .arr w.heap.size 0 i.size m'.toNat 0 _ (madeCells z.cells (m'.toNat * i.size)) e (by simp only [World.alloc, Array.getElem?_push, if_true]) (by simp; omega) (by simp [size_madeCells]) ?_ ?_ ?_
    · intro q row hq
      have := List.getElem?_eq_some_iff.1 hq
      obtain ⟨_, hq⟩ := this
      simp at hq
      subst hq
      exact hzl
    · intro q _
      exact hr.holds.no_mem (Nat.le_refl _) q
    · intro q row j c v hq hj hv
      obtain ⟨hql, hq⟩ := List.getElem?_eq_some_iff.1 hq
      simp at hq
      subst hq
      have hjl : j < zr.length := (List.getElem?_eq_some_iff.1 hj).1
      simp only [Nat.zero_add] at hv
      refine e2 j c v hj ?_
      have hmod : (q * i.size + j) % z.cells.size = j := by
        rw [← e1, hzl, Nat.mul_comm, Nat.mul_add_mod, Nat.mod_eq_of_lt (by omega)]
      unfold madeCells at hv
      simp only [Array.getElem?_map, Option.map_eq_some_iff] at hv
      obtain ⟨t, ht, hv⟩ := hv
      have ht' : t = q * i.size + j := by
        obtain ⟨_, ht⟩ := Array.getElem?_eq_some_iff.1 ht
        simpa using ht.symm
      subst ht'
      rw [hmod] at hv
      rw [← hv]
      have : j < z.cells.size := by omega
      simp [getElem!_pos, this]
  · exact Later.add hr.holds he _ (by intro l hl; cases hl; simp) (fun _ _ _ h => h) (fun _ _ _ => rfl)

end Go.Al
