/- Al: regions that draw their order, look first, then make and write: any order gives what the order of the text gives. -/
import Derived.Test.YtobcdpmjaeflmaaGreatDoorAlAwp
import Derived.StillTail
set_option linter.unusedVariables false
set_option linter.unusedSimpArgs false
namespace Go.Al
variable {P : Program} {ops : Array Oper} {Q : Exit → Act → World → Prop} {md : Region.Mode} {C : World → Prop}

/-- In state 'a', in every world of the class, the operation leaves 'v' and the world as it is. -/
def YieldsE (P : Program) (ops : Array Oper) (C : World → Prop) (o : Oper) (v : Value) (a : Act) : Prop :=
  (Region.wanted o (yielded ops a.tmps) = true ∧ ∀ w, C w → (execOp a.eval o).run P w = .ok (.value v) w ∨ ((execOp a.eval o).run P w = .ok .skip w ∧ v = undef)) ∨
  (Region.wanted o (yielded ops a.tmps) = false ∧ v = undef)

theorem YieldsE.wpOp {i : Nat} {o : Oper} {v : Value} {a : Act} (hi : ops[i]? = some o) (hy : YieldsE P ops C o v a)
    {K : Act → World → Prop} {w : World} (hC : C w) (h : K (a.put o.dst v) w) : wpOp P ops Q i K a w := by
  unfold Go.wpOp
  simp only [hi]
  rcases hy with ⟨hw, hv⟩ | ⟨hw, rfl⟩
  · rcases hv w hC with h1 | ⟨h1, h2⟩
    · simp only [hw, if_true]; refine .inl ?_; unfold Oper.wp; rw [h1]; exact h
    · rw [h2] at h; simp only [hw, if_true]; refine .inl ?_; unfold Oper.wp; rw [h1]; exact h
  · simp only [hw, Bool.false_eq_true, if_false]; exact h

theorem YieldsE.of_same {o : Oper} {v : Value} {a a' : Act} (hy : YieldsE P ops C o v a) (he : execOp a'.eval o = execOp a.eval o)
    (hw : Region.wanted o (yielded ops a'.tmps) = Region.wanted o (yielded ops a.tmps)) : YieldsE P ops C o v a' := by
  unfold YieldsE at *
  rw [he, hw]
  exact hy

theorem wpOp_putE {j : Nat} {oi oj : Oper} {v : Value} (hj : ops[j]? = some oj) (hap : oi.apart ops oj = true)
    (hsi : ∀ cs b, oi.op ≠ .select cs b) (hsj : ∀ cs b, oj.op ≠ .select cs b)
    (hQ : ∀ c a w, Q (.panic c) (a.put oi.dst v) w → Q (.panic c) a w) {K : Act → World → Prop} {a : Act} {w : World}
    (hy : YieldsE P ops C oi v a) (h : wpOp P ops Q j K (a.put oi.dst v) w) :
    wpOp P ops Q j (fun a' w' => YieldsE P ops C oi v a' ∧ K (a'.put oi.dst v) w') a w := by
  obtain ⟨h1, h2, h3⟩ := Oper.apart_spec hap
  have keep : ∀ (a : Act), YieldsE P ops C oi v a → ∀ u, YieldsE P ops C oi v (a.put oj.dst u) := fun a hy u =>
    hy.of_same (execOp_put oi hsi a oj.dst u h3) (wanted_put oi a oj.dst u h3)
  have keepD : ∀ d, YieldsE P ops C oi v { a with defers := d :: a.defers } := fun d => hy.of_same rfl rfl
  unfold wpOp at *
  simp only [hj] at *
  rw [wanted_put oj a oi.dst v h1] at h
  split
  · rename_i hw
    simp only [hw, if_true] at h
    rcases h with h | ⟨hasks, hlets⟩
    case inr => exact .inr ⟨by unfold Oper.asks at *; rw [execOp_put oj hsj a oi.dst v h1] at hasks; exact hasks, hlets⟩
    refine .inl ?_
    unfold Oper.wp at *
    rw [execOp_put oj hsj a oi.dst v h1] at h
    generalize (execOp a.eval oj).run P w = r at *
    cases r with
    | ok n w' =>
      cases n <;> simp only [Oper.upon] at h ⊢
      case value u => exact ⟨keep a hy u, by rw [← Act.put_comm a v u h2]; exact h⟩
      case skip => exact ⟨keep a hy _, by rw [← Act.put_comm a v undef h2]; exact h⟩
      case defer d =>
        refine ⟨keep _ (keepD d) _, ?_⟩
        rw [← Act.put_comm _ v undef h2, ← Act.put_defers]
        exact h
      case enter f args =>
        refine Calls.mono h fun e w'' he => ?_
        cases e with
        | returned u => exact ⟨keep a hy u, by rw [← Act.put_comm a v u h2]; exact he⟩
        | panicked c => exact hQ _ _ _ he
        | outgrown => exact he
      case row row args => exact Rows.mono h fun u w'' he => ⟨keep a hy u, by rw [← Act.put_comm a v u h2]; exact he⟩
    | halt x w' =>
      cases x <;> simp only [Oper.upon] at h ⊢
      case panic u => exact hQ _ _ _ h
  · rename_i hw
    simp only [hw] at h
    exact ⟨keep a hy _, by rw [← Act.put_comm a v undef h2]; exact h⟩

/-- Whatever order is picked of the first 'n', the class's condition behind each; then L. -/
def wpAnyT (P : Program) (md : Region.Mode) (ops : Array Oper) (Q : Exit → Act → World → Prop) (C : World → Prop) (n : Nat) (L : Array Bool → Act → World → Prop) : Nat → Array Bool → Act → World → Prop
  | 0, listed, a, w => L listed a w
  | f + 1, listed, a, w =>
    Region.ready md ops listed ≠ [] ∧ ∀ i ∈ Region.ready md ops listed, i < n ∧ wpOp P ops Q i (fun a' w' => C w' ∧ wpAnyT P md ops Q C n L f (listed.setIfInBounds i true) a' w') a w

theorem wpAny_of_T {n g : Nat} {L : Array Bool → Act → World → Prop} (hL : ∀ listed a w, L listed a w → wpAny P md ops Q g listed a w) :
    ∀ (f : Nat) (listed : Array Bool) (a : Act) (w : World), wpAnyT P md ops Q C n L f listed a w → wpAny P md ops Q (f + g) listed a w
  | 0, listed, a, w, h => by rw [Nat.zero_add]; exact hL _ _ _ h
  | f + 1, listed, a, w, h => by
    rw [show f + 1 + g = (f + g) + 1 by omega]
    exact ⟨fun h0 => absurd h0 h.1, fun i hi => wpOp_mono (fun a' w' h' => wpAny_of_T hL f _ a' w' h'.2) (h.2 i hi).2⟩

theorem wpAnyT_first {n i : Nat} {oi : Oper} {v : Value} {L : Array Bool → Act → World → Prop} (hi : ops[i]? = some oi) (hsel : ∀ (j : Nat) (o : Oper) cs b, ops[j]? = some o → o.op ≠ .select cs b)
    (hQ : ∀ c a w, Q (.panic c) (a.put oi.dst v) w → Q (.panic c) a w)
    (hs : Region.sinkB md ops n = true) (hc : Region.chainB md ops n = true) (hn : n < ops.size) (hin : i < n)
    (hdone : ∀ listed a w, L listed a w → ∀ j ∈ Region.ready md ops listed, n ≤ j) :
    ∀ (f : Nat) (listed : Array Bool) (a : Act) (w : World), HeadInv md ops n listed →
      (∀ j oj, ops[j]? = some oj → j ≠ i → listed.getD j true = false → (∀ e ∈ oj.after, Region.binds md e = true → e.on ≠ i) → oi.apart ops oj = true) →
      i ∈ Region.ready md ops listed → YieldsE P ops C oi v a → C w →
      wpAnyT P md ops Q C n L f (listed.setIfInBounds i true) (a.put oi.dst v) w → wpAnyT P md ops Q C n L (f + 1) listed a w := by
  intro f
  induction f with
  | zero =>
    intro listed a w inv _ hr hy hC H
    have hun := (mem_ready.1 hr).1
    refine ⟨fun h => (by rw [h] at hr; cases hr), fun j hj => ?_⟩
    have hjn : j < n := by
      rcases Nat.lt_or_ge j n with h | h
      · exact h
      · exact absurd hj (tail_waits hs hc hn inv _ i rfl hin hun j h)
    refine ⟨hjn, ?_⟩
    by_cases hji : j = i
    · subst hji; exact hy.wpOp hi hC ⟨hC, H⟩
    · have := hdone _ _ _ H j (ready_mono hj hji)
      omega
  | succ f ih =>
    intro listed a w inv hfree hr hy hC H
    have hun := (mem_ready.1 hr).1
    refine ⟨fun h => (by rw [h] at hr; cases hr), fun j hj => ?_⟩
    have hjn : j < n := by
      rcases Nat.lt_or_ge j n with h | h
      · exact h
      · exact absurd hj (tail_waits hs hc hn inv _ i rfl hin hun j h)
    refine ⟨hjn, ?_⟩
    by_cases hji : j = i
    · subst hji; exact hy.wpOp hi hC ⟨hC, H⟩
    · have h1 := (H.2 j (ready_mono hj hji)).2
      obtain ⟨hjun, oj, hoj, hall⟩ := mem_ready.1 hj
      have hnot : ∀ e ∈ oj.after, Region.binds md e = true → e.on ≠ i := fun e he hb heq => by
        have h1 := hall e he hb
        rw [heq, getD_both hun] at h1
        cases h1
      have h2 := wpOp_putE hoj (hfree j oj hoj hji hjun hnot) (fun cs b => hsel i oi cs b hi) (fun cs b => hsel j oj cs b hoj) hQ hy h1
      have hfree' : ∀ k ok, ops[k]? = some ok → k ≠ i → (listed.setIfInBounds j true).getD k true = false →
          (∀ e ∈ ok.after, Region.binds md e = true → e.on ≠ i) → oi.apart ops ok = true := fun k ok hk hki hun hno => by
        refine hfree k ok hk hki ?_ hno
        by_cases hjk : j = k
        · subst hjk; exact hjun
        · rw [getD_set_ne true hjk] at hun; exact hun
      refine wpOp_mono (fun a' w' h3 => ⟨h3.2.1, ih (listed.setIfInBounds j true) a' w' (inv.set hj hjn) hfree' (ready_mono hr (Ne.symm hji)) h3.1 h3.2.1 ?_⟩) h2
      rw [Array.setIfInBounds_comm _ _ hji]
      exact h3.2.2

/-- The head, in the order of the text. -/
def wpHeld (P : Program) (ops : Array Oper) (C : World → Prop) (Q : Act → Prop) : List Oper → Act → Prop
  | [], a => Q a
  | o :: rest, a => ∃ v, YieldsE P ops C o v a ∧ wpHeld P ops C Q rest (a.put o.dst v)

/-- What only makes, in a class of worlds. -/
def Grows (P : Program) (C : World → Prop) (o : Oper) : Prop := o.guard = none ∧ ∀ (a : Act) (w : World), C w → ∀ nx w', (execOp a.eval o).run P w = .ok nx w' → (∃ v, nx = .value v) ∧ C w'

theorem wpOp_grow {o : Oper} {k : Nat} (h0 : ops[k]? = some o) (hg : Grows P C o) {K : Act → World → Prop} {a : Act} {w : World} (hC : C w) (h : wpOp P ops Q k K a w) : wpOp P ops Q k (fun a' w' => C w' ∧ K a' w') a w := by
  unfold wpOp at *
  simp only [h0] at *
  have hw : Region.wanted o (yielded ops a.tmps) = true := by simp [Region.wanted, hg.1]
  simp only [hw, if_true] at *
  refine h.imp (fun h => ?_) id
  unfold Oper.wp at *
  have := hg.2 a w hC
  generalize (execOp a.eval o).run P w = r at *
  cases r with
  | ok nx w' =>
    obtain ⟨⟨v, rfl⟩, h2⟩ := this nx w' rfl
    exact ⟨h2, h⟩
  | halt x w' => cases x <;> exact h

theorem wpAnyT_mid {n g : Nat} {l2 : List Oper} : ∀ (l : List Oper) (k : Nat) (listed : Array Bool) (a : Act) (w : World), (∀ j, j < l.length → l[j]? = ops[k + j]?) → k + l.length = n → (∀ o, o ∈ l → Grows P C o) → C w →
    Region.seqB md ops (l.length + g) k listed = true → wpList P ops Q (l ++ l2) a w →
    wpAnyT P md ops Q C n (fun listed' a' w' => Region.seqB md ops g n listed' = true ∧ wpList P ops Q l2 a' w') l.length listed a w
  | [], k, listed, a, w, _, hk, _, _, hB, h => by
    have : k = n := by simpa using hk
    subst this
    exact ⟨by simpa using hB, h⟩
  | o :: l, k, listed, a, w, hl, hk, hg, hC, hB, h => by
    have h0 : ops[k]? = some o := by simpa using (hl 0 (by simp)).symm
    rw [show (o :: l).length + g = (l.length + g) + 1 by simp; omega] at hB
    simp only [Region.seqB, Bool.and_eq_true, decide_eq_true_eq] at hB
    refine ⟨by rw [hB.1]; simp, fun i hi => ?_⟩
    rw [hB.1] at hi
    have hik : i = k := by simpa using hi
    subst hik
    refine ⟨by simp only [List.length_cons] at hk; omega, ?_⟩
    have hw : wpOp P ops Q i (wpList P ops Q (l ++ l2)) a w := by unfold wpOp; simp only [h0]; exact h
    refine wpOp_mono ?_ (wpOp_grow h0 (hg o (by simp)) hC hw)
    rintro a' w' ⟨hC', h'⟩
    exact ⟨hC', wpAnyT_mid l (i + 1) _ a' w' (fun j hj => by have := hl (j + 1) (by simp; omega); simpa [Nat.add_assoc, Nat.add_comm 1 j] using this) (by simp only [List.length_cons] at hk; omega) (fun o ho => hg o (by simp [ho])) hC' hB.2 h'⟩


theorem wpAnyT_lex {m n g : Nat} {l2 l3 : List Oper} (hsel : Region.noSelect ops = true) (hQ : ∀ c (a : Act) w, ¬ Q (.panic c) a w) (hs : Region.sinkB md ops n = true) (hc : Region.chainB md ops n = true) (hn : n < ops.size) (hmn : m + l2.length = n)
    (hl2 : ∀ j, j < l2.length → l2[j]? = ops[m + j]?) (hgr : ∀ o, o ∈ l2 → Grows P C o) :
    ∀ (l : List Oper) (k : Nat) (listed : Array Bool) (a : Act) (w : World), (∀ j, j < l.length → l[j]? = ops[k + j]?) → k + l.length = m → HeadInv md ops n listed → C w →
    Region.lexHead md ops (l2.length + g) l.length k listed = true → wpHeld P ops C (fun a' => ∀ w', C w' → wpList P ops Q (l2 ++ l3) a' w') l a →
    wpAnyT P md ops Q C n (fun listed' a' w' => Region.seqB md ops g n listed' = true ∧ wpList P ops Q l3 a' w') (l.length + l2.length) listed a w
  | [], k, listed, a, w, _, hk, _, hC, hB, h => by
    have : k = m := by simpa using hk
    subst this
    simp only [List.length_nil, Nat.zero_add]
    exact wpAnyT_mid l2 k listed a w hl2 hmn hgr hC (by simpa [Region.lexHead] using hB) (h w hC)
  | o :: l, k, listed, a, w, hl, hk, inv, hC, hB, h => by
    have h0 : ops[k]? = some o := by simpa using (hl 0 (by simp)).symm
    simp only [List.length_cons, Region.lexHead, Bool.and_eq_true] at hB
    obtain ⟨⟨hr, hf⟩, hB'⟩ := hB
    have hkn : k < n := by simp only [List.length_cons] at hk; omega
    have hr' : k ∈ Region.ready md ops listed := by simpa using hr
    obtain ⟨v, hy, hK⟩ := h
    rw [show (o :: l).length + l2.length = (l.length + l2.length) + 1 by simp; omega]
    exact wpAnyT_first h0 (Region.noSelect_spec hsel) (fun c a w h => absurd h (hQ c _ w)) hs hc hn hkn (fun listed' a' w' hL => seqB_ready hL.1) _ listed a w inv (Region.free_spec h0 hf) hr' hy hC
      (wpAnyT_lex hsel hQ hs hc hn hmn hl2 hgr l (k + 1) _ _ w (fun j hj => by have := hl (j + 1) (by simp; omega); simpa [Nat.add_assoc, Nat.add_comm 1 j] using this) (by simp only [List.length_cons] at hk; omega) (inv.set hr' hkn) hC hB' hK)

/-- The look at a region: 'm' that look, then up to 'n' that make, then a row. -/
def mixB (ops : Array Oper) (m n : Nat) : Bool :=
  Region.noSelect ops && decide (n < ops.size) && decide (m ≤ n) && Region.sinkB .any ops n && Region.chainB .any ops n && Region.lexHead .any ops (ops.size - m) m 0 (Array.replicate ops.size false)

theorem wp_region_mix {id : Nat} {a : Act} {w : World} {l : List Oper} (m n : Nat) (hm : P.follows .mixedOrders = true) (hB : mixB l.toArray m n = true) (hC : C { w with drawn := w.drawn + 1 }) (hQ : ∀ c (a : Act) w, ¬ Q (.panic c) a w)
    (hgr : ∀ o, o ∈ (l.drop m).take (n - m) → Grows P C o)
    (h : wpHeld P l.toArray C (fun a' => ∀ w', C w' → wpList P l.toArray Q (l.drop m) a' w') (l.take m) a) : (Code.region id l.toArray true).wp P Q a w := by
  simp only [mixB, Bool.and_eq_true, decide_eq_true_eq] at hB
  obtain ⟨⟨⟨⟨⟨hsel, hn⟩, hmn⟩, hs⟩, hc⟩, hlex⟩ := hB
  have hn' : n < l.length := by simpa using hn
  have hml : m ≤ l.length := by omega
  have ht : (l.take m).length = m := by simp; omega
  have hl2 : ((l.drop m).take (n - m)).length = n - m := by simp; omega
  have hdrop : l.drop m = (l.drop m).take (n - m) ++ l.drop n := by
    have := List.take_append_drop (n - m) (l.drop m)
    rw [List.drop_drop, show m + (n - m) = n by omega] at this
    exact this.symm
  have hdl : (l.drop n).length = l.toArray.size - n := by simp
  have inv0 : HeadInv .any l.toArray n (Array.replicate l.toArray.size false) :=
    ⟨by simp, fun j oj _ hl => (by rw [getD_replicate_false] at hl; cases hl), fun t _ ht => getD_in (by simpa using ht) (getD_replicate_false _ _)⟩
  rw [hdrop] at h
  have H := wpAnyT_lex (md := .any) (Q := Q) (m := m) (n := n) (g := l.toArray.size - n) (l2 := (l.drop m).take (n - m)) (l3 := l.drop n) hsel hQ hs hc hn (by rw [hl2]; omega)
    (fun j hj => by
      rw [hl2] at hj
      simp [List.getElem?_take, hj]) hgr (l.take m) 0 _ a { w with drawn := w.drawn + 1 } (fun j hj => by
      have hj' : j < m := by rw [ht] at hj; exact hj
      simp [hj']) (by rw [ht]; omega) inv0 hC (by rw [ht, hl2, show n - m + (l.toArray.size - n) = l.toArray.size - m by omega]; exact hlex) h
  refine wp_region_any hm ?_
  have := wpAny_of_T (Q := Q) (g := l.toArray.size - n) (fun listed a' w' hL => by
    have := wpAny_of_seq (md := .any) (Q' := Q) (l.drop n) n listed a' w' (fun j => by simp [List.getElem?_drop]) (by rw [hdl]; exact hL.1) hL.2
    rwa [hdl] at this) _ _ _ _ H
  rw [ht, hl2, show m + (n - m) + (l.toArray.size - n) = l.toArray.size by omega] at this
  exact this

theorem grows_buildSlice {T e len sz : Nat} {parts : Array (Nat × Operand)} {dst : Option Tmp} {ty : TypeId} {pos : String} {after : Array Edge} (hT : P.underlying T = some (.slice e)) (hs : szOf P e = some sz) (z : Value) (hz : zeroOf P e = some z) (w0 : World) :
    Grows P (fun w' => Ext w0 w') ⟨dst, .buildSlice T len parts, ty, pos, after, none⟩ := by
  refine ⟨rfl, fun a w hC nx w' hrun => ?_⟩
  simp only [execOp, Instr.buildSlice, Sem.run_bind, run_underlying hT, Result.andThen_ok, run_sizeOf hs] at hrun
  by_cases h1 : len * sz > 2 ^ 24
  · simp [h1, Sem.run_bind, unsupported, Sem.run] at hrun
  · by_cases h2 : len * sz = 0
    · simp only [h2, show ¬ (0 > 2 ^ 24) from by omega, if_true, if_false, Sem.run_bind, Sem.run_pure, Result.andThen_ok] at hrun
      split at hrun
      · simp only [Sem.run_bind, Sem.run_pure, Result.andThen_ok, newRow, run_newObj, Sem.run_map] at hrun
        cases hrun
        exact ⟨⟨_, rfl⟩, hC.trans (Ext.alloc w _)⟩
      · simp [stuck, Sem.run] at hrun
    · simp only [h1, h2, if_false, Sem.run_bind, Sem.run_pure, Result.andThen_ok, run_zeroValue hz] at hrun
      split at hrun
      · simp only [Sem.run_bind, Sem.run_pure, Result.andThen_ok, newRow, run_newObj, Sem.run_map] at hrun
        cases hrun
        exact ⟨⟨_, rfl⟩, hC.trans (Ext.alloc w _)⟩
      · simp [stuck, Sem.run] at hrun
end Go.Al
