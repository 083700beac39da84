/- Al: the weakest precondition over abstract states, and its rules for control. -/
import Derived.Test.YtobcdpmjaeflmaaGreatDoorAlBase
import Derived.Tactics
set_option linter.unusedVariables false
set_option linter.unusedSimpArgs false
namespace Go.Al

structure St where
  env : List (Nat × AV)
  roots : List Root

def look : List (Nat × AV) → Nat → AV
  | [], _ => .d .any
  | (k, v) :: e, t => if k = t then v else look e t

structure Rel (n : Nat) (M : Mem) (β : Where) (st : St) (a : Act) (w : World) : Prop where
  size : a.tmps.size = n
  defers : a.defers = []
  env : ∀ t, RelV M β (look st.env t) (a.tmps.getD t undef)
  holds : Holds M β st.roots w

/-- Behind the code, from every world that this state tells of: Q. -/
def SWp (P : Program) (n : Nat) (p : Nat → Prop) (c : Code) (Q : Exit → St → Prop) (st : St) : Prop :=
  ∀ M β a w, Rel n M β st a w → ∀ Q' : Exit → Act → World → Prop,
    (∀ e st' M' β' a' w', Q e st' → Rel n M' β' st' a' w' → Later p M β w M' β' w' → Q' e a' w') → c.wp P Q' a w

variable {P : Program} {n : Nat} {p : Nat → Prop} {Q : Exit → St → Prop} {st : St}

theorem SWp.mono {c : Code} {Q1 : Exit → St → Prop} (h : SWp P n p c Q1 st) (hq : ∀ e st', Q1 e st' → Q e st') : SWp P n p c Q st :=
  fun M β a w hr Q' hQ => h M β a w hr Q' fun e st' M' β' a' w' q => hQ e st' M' β' a' w' (hq e st' q)

/-- A weaker state tells of the same world. -/
def Weak (p : Nat → Prop) (st st' : St) : Prop := ∀ n M β a w, Rel n M β st a w → ∃ M' β', Rel n M' β' st' a w ∧ Later p M β w M' β' w

theorem SWp.weak {c : Code} {st' : St} (hw : Weak p st st') (h : SWp P n p c Q st') : SWp P n p c Q st := by
  intro M β a w hr Q' hQ
  obtain ⟨M1, β1, hr1, hl1⟩ := hw n M β a w hr
  exact h M1 β1 a w hr1 Q' fun e st' M' β' a' w' q hr' hl => hQ e st' M' β' a' w' q hr' (hl1.trans hl)

/-- What is weaker behind the code. -/
theorem SWp.weak_post {c : Code} {Q1 : Exit → St → Prop} (h : SWp P n p c Q1 st) (hq : ∀ e st', Q1 e st' → ∃ st'', Weak p st' st'' ∧ Q e st'') : SWp P n p c Q st := by
  intro M β a w hr Q' hQ
  refine h M β a w hr Q' fun e st' M' β' a' w' q hr' hl => ?_
  obtain ⟨st'', hw, hq⟩ := hq e st' q
  obtain ⟨M1, β1, hr1, hl1⟩ := hw n M' β' a' w' hr'
  exact hQ e st'' M1 β1 a' w' hq hr1 (hl.trans hl1)

theorem Weak.refl (p : Nat → Prop) (st : St) : Weak p st st := fun _ M β _ w h => ⟨M, β, h, Later.refl p M β w⟩
theorem Weak.trans {st1 st2 : St} (h1 : Weak p st st1) (h2 : Weak p st1 st2) : Weak p st st2 := fun n M β a w h => by
  obtain ⟨M1, β1, hr1, hl1⟩ := h1 n M β a w h
  obtain ⟨M2, β2, hr2, hl2⟩ := h2 n M1 β1 a w hr1
  exact ⟨M2, β2, hr2, hl1.trans hl2⟩

def thenS (next : St → Prop) (Q : Exit → St → Prop) : Exit → St → Prop
  | .normal, st => next st
  | e, st => Q e st

theorem SWp.skip (h : Q .normal st) : SWp P n p .skip Q st := fun M β _ w hr _ hQ => wp_skip (hQ _ _ _ _ _ _ h hr (Later.refl p M β w))
theorem SWp.exit {id : Nat} (h : Q (.exit id) st) : SWp P n p (.exit id) Q st := fun M β _ w hr _ hQ => wp_exit (hQ _ _ _ _ _ _ h hr (Later.refl p M β w))
theorem SWp.ret (h : Q .ret st) : SWp P n p .ret Q st := fun M β _ w hr _ hQ => wp_ret (hQ _ _ _ _ _ _ h hr (Later.refl p M β w))

theorem SWp.seq {x y : Code} (h : SWp P n p x (thenS (SWp P n p y Q) Q) st) : SWp P n p (.seq x y) Q st := by
  intro M β a w hr Q' hQ
  refine wp_seq (h M β a w hr _ ?_)
  intro e st' M' β' a' w' hq hr' hl
  cases e
  case normal => exact hq M' β' a' w' hr' Q' fun e st2 M2 β2 a2 w2 q r l => hQ e st2 M2 β2 a2 w2 q r (hl.trans l)
  all_goals exact hQ _ st' M' β' a' w' hq hr' hl

theorem SWp.block {id : Nat} {c : Code} (h : SWp P n p c (fun e st' => match e with | .exit id' => if id' = id then Q .normal st' else Q (.exit id') st' | e => Q e st') st) :
    SWp P n p (.block id c) Q st := by
  intro M β a w hr Q' hQ
  refine wp_block (h M β a w hr _ ?_)
  intro e st' M' β' a' w' hq hr' hl
  cases e
  case exit id' =>
    simp only at hq
    simp only [Exit.inBlock]
    split <;> rename_i he
    · rw [if_pos he] at hq; exact hQ _ _ _ _ _ _ hq hr' hl
    · rw [if_neg he] at hq; exact hQ _ _ _ _ _ _ hq hr' hl
  all_goals exact hQ _ st' M' β' a' w' hq hr' hl

/-- What an operand says. -/
def ev (st : St) : Operand → AV
  | .tmp t => look st.env t
  | .const v => .d (.con v)
  | .func f => .fn f []
  | .global g => .d (.con (.pointer (some ⟨g, 0, none⟩)))

theorem ev_rel {M : Mem} {β : Where} {a : Act} {w : World} (h : Rel n M β st a w) (x : Operand) : RelV M β (ev st x) (a.eval x) := by
  cases x with
  | tmp t => exact h.env t
  | const v => exact .d _ _ (.con v)
  | func f => exact .fn f [] #[] rfl (by simp)
  | global g => exact .d _ _ (.con _)

theorem RelV.con_eq {M : Mem} {β : Where} {u v : Value} (h : RelV M β (.d (.con u)) v) : v = u := by
  cases h with | d _ _ h => cases h; rfl

theorem SWp.cond {c : Operand} {x y : Code} (t : Bool) (hc : ev st c = .d (.con (.bool t))) (ht : t = true → SWp P n p x Q st)
    (hf : t = false → SWp P n p y Q st) : SWp P n p (.cond c x y) Q st := by
  intro M β a w hr Q' hQ
  have hv := ev_rel hr c
  rw [hc] at hv
  exact wp_cond_split hv.con_eq (fun h => ht h M β a w hr Q' hQ) (fun h => hf h M β a w hr Q' hQ)

theorem exists_least {q : Nat → Prop} (h : ∃ n, q n) : ∃ n, q n ∧ ∀ m, q m → n ≤ m := by
  obtain ⟨n, hn⟩ := h
  induction n using Nat.strongRecOn with
  | _ n ih =>
    by_cases hm : ∃ m, m < n ∧ q m
    · obtain ⟨m, hlt, hq⟩ := hm
      exact ih m hlt hq
    · exact ⟨n, hn, fun m hq => Nat.le_of_not_lt fun hlt => hm ⟨m, hlt, hq⟩⟩

open Classical in
theorem SWp.loop {c : Code} (I : Nat → St → Prop) (h0 : ∃ m st0, Weak p st st0 ∧ I m st0)
    (round : ∀ m st, I m st → SWp P n p c (thenS (fun st' => ∃ m' st'', m' < m ∧ Weak p st' st'' ∧ I m' st'') Q) st) : SWp P n p (.loop c) Q st := by
  intro M β a w hr Q' hQ
  let J : Nat → Act → World → Prop := fun m a' w' => ∃ st' M' β', I m st' ∧ Rel n M' β' st' a' w' ∧ Later p M β w M' β' w'
  let μ : Act → World → Nat := fun a' w' => if h : ∃ m, J m a' w' then (exists_least h).choose else 0
  refine wp_loop (fun a' w' => ∃ m, J m a' w') μ ?_ ?_
  · obtain ⟨m, st0, hw, hi⟩ := h0
    obtain ⟨M1, β1, hr1, hl1⟩ := hw n M β a w hr
    exact ⟨m, st0, M1, β1, hi, hr1, hl1⟩
  · intro a1 w1 hI
    have hμ : μ a1 w1 = (exists_least hI).choose := by simp only [μ]; rw [dif_pos hI]
    obtain ⟨st1, M1, β1, hi1, hr1, hl1⟩ := (exists_least hI).choose_spec.1
    refine round _ st1 hi1 M1 β1 a1 w1 hr1 _ ?_
    intro e st' M' β' a' w' hq hr' hl
    cases e
    case normal =>
      obtain ⟨m', st'', hlt, hwk, hi'⟩ := hq
      obtain ⟨M2, β2, hr2, hl2⟩ := hwk n M' β' a' w' hr'
      have hJ : J m' a' w' := ⟨st'', M2, β2, hi', hr2, hl1.trans (hl.trans hl2)⟩
      refine ⟨⟨m', hJ⟩, ?_⟩
      have hex : ∃ m, J m a' w' := ⟨m', hJ⟩
      have h2 : μ a' w' = (exists_least hex).choose := by simp only [μ]; rw [dif_pos hex]
      rw [h2, hμ]
      exact Nat.lt_of_le_of_lt ((exists_least hex).choose_spec.2 m' hJ) hlt
    all_goals exact hQ _ st' M' β' a' w' hq hr' (hl1.trans hl)

/-! ### Operations in a row -/

/-- The operations that are left, in the order of the text. -/
def SOps (P : Program) (n : Nat) (p : Nat → Prop) (ops : Array Oper) (l : List Oper) (K : St → Prop) (st : St) : Prop :=
  ∀ M β a w, Rel n M β st a w → ∀ Q' : Exit → Act → World → Prop,
    (∀ st' M' β' a' w', K st' → Rel n M' β' st' a' w' → Later p M β w M' β' w' → Q' .normal a' w') → wpList P ops Q' l a w

theorem SWp.region {id : Nat} {ops : Array Oper} {l : List Oper} (hl : ops.toList = l) (h : SOps P n p ops l (Q .normal) st) : SWp P n p (.region id ops false) Q st := by
  intro M β a w hr Q' hQ
  refine wp_region_list (hl ▸ h M β a w hr Q' fun st' M' β' a' w' q r l => hQ _ st' M' β' a' w' q r l)

def put (st : St) (dst : Option Nat) (v : AV) : St :=
  match dst with
  | some t => { st with env := (t, v) :: st.env }
  | none => st

theorem Rel.put {M : Mem} {β : Where} {a : Act} {w : World} (h : Rel n M β st a w) (dst : Option Nat) (hd : ∀ t, dst = some t → t < n) {x : AV} {v : Value}
    (hx : RelV M β x v) : Rel n M β (put st dst x) (a.put dst v) w := by
  cases dst with
  | none => exact h
  | some t =>
    have ht := hd t rfl
    refine ⟨by simpa [Act.put] using h.size, h.defers, ?_, h.holds⟩
    intro u
    simp only [Al.put, Al.look, Act.put]
    split
    · rename_i e
      subst e
      have : t < a.tmps.size := h.size ▸ ht
      simp [Array.getD, this]
      exact hx
    · rename_i e
      have := h.env u
      have e2 : (a.tmps.setIfInBounds t v).getD u undef = a.tmps.getD u undef := by
        simp only [Array.getD_eq_getD_getElem?]
        rw [Array.getElem?_setIfInBounds_ne e]
      rw [e2]; exact this

theorem SOps.nil {ops : Array Oper} {K : St → Prop} (h : K st) : SOps P n p ops [] K st :=
  fun M β a w hr _ hQ => hQ st M β a w h hr (Later.refl p M β w)

/-- What an operation yields. -/
def Yielded : Next → Value → Prop
  | .value v, u => u = v
  | .skip, u => u = undef
  | _, _ => False

/-- An operation that makes or writes memory, or only looks at it. -/
def OpE (P : Program) (n : Nat) (p : Nat → Prop) (o : Oper) (st : St) (K : AV → St → Prop) : Prop :=
  ∀ M β a w, Rel n M β st a w → ∃ nx v w' x st' M' β', (execOp a.eval o).run P w = .ok nx w' ∧ Yielded nx v ∧ K x st' ∧ RelV M' β' x v ∧ Rel n M' β' st' a w' ∧ Later p M β w M' β' w'

theorem SOps.op {ops : Array Oper} {o : Oper} {rest : List Oper} {K : St → Prop} (hg : o.guard = none) (hd : ∀ t, o.dst = some t → t < n)
    (h : OpE P n p o st fun x st' => SOps P n p ops rest K (put st' o.dst x)) : SOps P n p ops (o :: rest) K st := by
  intro M β a w hr Q' hQ
  obtain ⟨nx, v, w', x, st', M', β', hrun, hy, hk, hx, hr', hl⟩ := h M β a w hr
  refine wpList_plain hg fun K' hK => ?_
  have hfin : K' (a.put o.dst v) w' := hK _ _ (hk M' β' _ w' (hr'.put o.dst hd hx) Q' fun st2 M2 β2 a2 w2 q r l => hQ st2 M2 β2 a2 w2 q r (hl.trans l))
  unfold Oper.wp
  rw [hrun]
  cases nx <;> simp only [Yielded] at hy <;> subst hy <;> exact hfin

end Go.Al
