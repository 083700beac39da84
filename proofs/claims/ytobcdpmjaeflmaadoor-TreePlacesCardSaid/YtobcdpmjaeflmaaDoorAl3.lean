/- Al: regions that draw their order; code; loops. -/
import Derived.Test.YtobcdpmjaeflmaaDoorAl2
import Derived.Deep.Quiet
import Derived.StillTail
set_option linter.unusedVariables false
set_option linter.unusedSimpArgs false
namespace Go.Al
variable {P : Program} {n : Nat} {p : Nat → Prop}

def CallQ (P : Program) (st : St) (fv : AV) (args : List AV) (K : AV → Prop) : Prop :=
  ∃ (f : FuncId) (caps args' : List AV) (R' : List Root) (c : Value), fv = .fn f caps ∧ (∀ (vs : Array Value) (w : World), (callFunc f vs).run P w = .ok (.enter f vs) w) ∧
    fzL (args ++ caps) st.roots = some (args', R') ∧ SCall P f args' [] (fun x r => r = [] ∧ x = .d (.con c)) ∧ K (.d (.con c))

theorem call_args {M : Mem} {β : Where} {a : Act} {w : World} {st : St} (hr : Rel n M β st a w) {g : Operand} {xs : Array Operand} {f : FuncId} {caps : List AV} (hg : ev st g = .fn f caps) :
    ∃ cv, a.eval g = .func (.func f) #[] cv ∧ RelC M β (xs.toList.map (ev st) ++ caps) (xs.map a.eval ++ cv) := by
  have hgv : ∃ cv, a.eval g = .func (.func f) #[] cv ∧ RelC M β caps cv := by
    have h1 := ev_rel hr g
    rw [hg] at h1
    generalize a.eval g = u at h1
    cases h1 with
    | fn _ _ cv hl hR => exact ⟨cv, rfl, hl, hR⟩
  obtain ⟨cv, hcv, hcr⟩ := hgv
  refine ⟨cv, hcv, by simp [hcr.1], ?_⟩
  intro i c x h1 h2
  by_cases hi : i < xs.size
  · rw [List.getElem?_append_left (by simpa using hi)] at h1
    rw [Array.getElem?_append_left (by simpa using hi)] at h2
    simp only [List.getElem?_map, Option.map_eq_some_iff, Array.getElem?_toList, Array.getElem?_map] at h1 h2
    obtain ⟨q, hq, rfl⟩ := h1
    obtain ⟨q', hq', rfl⟩ := h2
    rw [hq] at hq'
    cases hq'
    exact ev_rel hr q
  · rw [List.getElem?_append_right (by simpa using hi)] at h1
    rw [Array.getElem?_append_right (by simpa using hi)] at h2
    simp only [List.length_map, Array.length_toList, Array.size_map] at h1 h2
    exact hcr.2 _ c x h1 h2

/-- A call that only looks: what it is handed is frozen for its time alone. -/
theorem call_look {M : Mem} {β : Where} {a : Act} {w : World} {st : St} (hr : Rel n M β st a w) {f : FuncId} {args args' : List AV} {vs : Array Value} {R' : List Root} {R : AV → List Root → Prop}
    (ha : RelC M β args vs) (hfz : fzL args st.roots = some (args', R')) (h : SCall P f args' [] R) :
    Calls P f vs w fun e w' => ∃ v x r' M' β', e = .returned v ∧ R x r' ∧ RelV M' β' x v ∧ Ext w w' := by
  obtain ⟨M1, hmore, hl1, hv1⟩ := fzL_rel _ _ _ _ hfz M β w hr.holds
  have hh0 : Holds M1 (fun _ => Slot.no) [] w := ⟨hmore.holds.frozen, by simp, (by intro _ _ _ _ h; cases h), (by intro _ _ h; cases h), (by intro _ h; exact absurd rfl h), ⟨hmore.holds.glob.ok, hmore.holds.glob.low, fun _ _ h => by cases h⟩⟩
  have hc := h M1 (fun _ => Slot.no) vs w ⟨hl1.symm.trans ha.1, fun i c x h1 h2 => by
    have hi : i < args.length := by rw [hl1]; exact (List.getElem?_eq_some_iff.1 h1).1
    exact hv1 i _ c x _ (List.getElem?_eq_getElem hi) h1 (ha.2 i _ x (List.getElem?_eq_getElem hi) h2)⟩ hh0
  refine hc.mono ?_
  rintro e w' ⟨v, x, r', M', β', rfl, hR, hx, _, hl⟩
  exact ⟨v, x, r', M', β', rfl, hR, hx, hl.size, fun b hb => (hl.same b hb (by intro r l h; cases h)).1, hl.stream⟩

def runQ (P : Program) (op : Op) (st : St) (K : AV → Prop) : Prop := match op with
  | .call ⟨.value g, xs, _⟩ => CallQ P st (ev st g) (xs.toList.map (ev st)) K
  | op => opP P op st K

/-- A guard. -/
def guardW (v : AV) (want : Bool) (A B C : Prop) : Prop := match v with
  | .d (.con (.bool t)) => (t = want → A) ∧ (t = (!want) → B)
  | .d (.con (.tuple _)) => C
  | _ => False

/-- Operations in the order of the text. -/
def awpQ (P : Program) (ops : Array Oper) : List Oper → (St → Prop) → St → Prop
  | [], K, st => K st
  | o :: rest, K, st => match o.guard with
    | none => runQ P o.op st fun v => awpQ P ops rest K (put st o.dst v)
    | some (j, want) => match (ops[j]?).bind (·.dst) with
      | some s => guardW (look st.env s) want
          (runQ P o.op (put st (some s) (.d (.con (.bool want)))) fun v => awpQ P ops rest K (put (put st (some s) (.d (.con (.bool want)))) o.dst v))
          (awpQ P ops rest K (put (put st (some s) (.d (.con (.bool !want)))) o.dst (.d (.con undef))))
          (awpQ P ops rest K (put st o.dst (.d (.con undef))))
      | none => False

theorem Rel.ext {M : Mem} {β : Where} {st : St} {a : Act} {w w' : World} (h : Rel n M β st a w) (he : Ext w w') : Rel n M β st a w' :=
  ⟨h.size, h.defers, h.env, h.holds.ext he⟩

theorem Later.ext {M : Mem} {β : Where} {w w' : World} (he : Ext w w') : Later p M β w M β w' :=
  ⟨fun _ _ _ h => h, he.size, fun b hb _ => ⟨he.heap b hb, fun _ => rfl⟩, fun r l h => .inl ⟨r, l, h, rfl⟩, fun _ _ _ => rfl, he.stream⟩

/-- One operation, in every world that came since. -/
theorem runQ_sound {M : Mem} {β : Where} {a : Act} {w : World} {st : St} {o : Oper} {K : AV → Prop} (hr : Rel n M β st a w) (h : runQ P o.op st K) :
    ∃ v x, K x ∧ RelV M β x v ∧ ∀ w', Ext w w' → o.quietAt P a (fun w1 => Ext w w1) w' v := by
  unfold runQ at h
  split at h
  · rename_i g xs ats hop
    obtain ⟨f, caps, args', R', c, hf, hc, hfz, hs, hk⟩ := h
    refine ⟨c, .d (.con c), hk, .d _ _ (.con c), fun w' he => ?_⟩
    have hr' := hr.ext he
    obtain ⟨cv, hcv, ha⟩ := call_args (xs := xs) hr' hf
    have hcalls := call_look (P := P) hr' ha hfz hs
    unfold Oper.quietAt
    have hrun : (execOp a.eval o).run P w' = .ok (.enter f (xs.map a.eval ++ cv)) w' := by
      obtain ⟨dst, op, ty, pos, after, gu⟩ := o
      simp only at hop
      subst hop
      simp [execOp, resolve, hcv, Deferred.ofValue, invoke, hc]
    rw [hrun]
    refine ⟨rfl, hcalls.mono ?_⟩
    rintro e w'' ⟨v, x, r', M', β', rfl, ⟨_, rfl⟩, hx, he'⟩
    rw [hx.con_eq]
    exact ⟨rfl, he.trans he'⟩
  · have := opP_sound (P := P) (n := n) (o := o) h
    obtain ⟨v, x, hk, hx, nx, hy, hrun⟩ := this M β a w hr
    refine ⟨v, x, hk, hx, fun w' he => ?_⟩
    unfold Oper.quietAt
    rw [hrun w' he]
    cases nx <;> simp only [Yielded] at hy <;> simp only [Oper.quietUpon]
    · simp [hy]
    · simp [hy]

theorem dstOk_lt {o : Oper} {n : Nat} (h : (match o.dst with | some t => decide (t < n) | none => true) = true) : ∀ t, o.dst = some t → t < n := by
  intro t ht
  rw [ht] at h
  simpa using h

/-- What a guard's temporary holds. -/
theorem wanted_bool {M : Mem} {β : Where} {a : Act} {w : World} {st : St} {ops : Array Oper} {o : Oper} {j s : Nat} {want t : Bool} (hr : Rel n M β st a w) (hg : o.guard = some (j, want)) (hs : (ops[j]?).bind (·.dst) = some s)
    (hv : look st.env s = .d (.con (.bool t))) (hsn : s < n) : Region.wanted o (yielded ops a.tmps) = (t == want) ∧ a.put (some s) (.bool t) = a := by
  have hst := hr.env s
  rw [hv] at hst
  have hst := hst.con_eq
  have hsz : s < a.tmps.size := by rw [hr.size]; exact hsn
  have hget : a.tmps[s]? = some (.bool t) := by
    rw [Array.getElem?_eq_getElem hsz]
    simp only [Array.getD_eq_getD_getElem?, Array.getElem?_eq_getElem hsz, Option.getD_some] at hst
    rw [hst]
  have hy : yielded ops a.tmps j = some t := by
    unfold yielded
    rw [hs]
    simp [hget]
  refine ⟨?_, ?_⟩
  · unfold Region.wanted
    rw [hg]
    simp only [hy]
    cases t <;> cases want <;> rfl
  · unfold Act.put
    simp only
    have : a.tmps.setIfInBounds s (.bool t) = a.tmps := by
      apply Array.ext_getElem?
      intro i
      rw [Array.getElem?_setIfInBounds]
      split
      · rename_i e; subst e; rw [hget]
      · rfl
    rw [this]

theorem wanted_tuple {M : Mem} {β : Where} {a : Act} {w : World} {st : St} {ops : Array Oper} {o : Oper} {j s : Nat} {want : Bool} {us : Array Value} (hr : Rel n M β st a w) (hg : o.guard = some (j, want)) (hs : (ops[j]?).bind (·.dst) = some s)
    (hv : look st.env s = .d (.con (.tuple us))) : Region.wanted o (yielded ops a.tmps) = false := by
  have hst := hr.env s
  rw [hv] at hst
  have hst := hst.con_eq
  unfold Region.wanted yielded
  rw [hg]
  simp only [hs, Option.bind_some]
  cases hq : a.tmps[s]? with
  | none => rfl
  | some u =>
    simp only [Array.getD_eq_getD_getElem?, hq, Option.getD_some] at hst
    subst hst
    rfl

theorem awpQ_sound {ops : Array Oper} (hops : ∀ (j : Nat) s, (ops[j]?).bind (·.dst) = some s → s < n) {M : Mem} {β : Where} {w : World} : ∀ (l : List Oper), (∀ o, o ∈ l → ∀ t, o.dst = some t → t < n) → ∀ {K : St → Prop} {st : St} {a : Act} {Q : Act → Prop},
    Rel n M β st a w → awpQ P ops l K st → (∀ st' a', K st' → Rel n M β st' a' w → Q a') → wpQuiet P ops (fun w' => Ext w w') Q l a
  | [], _, K, st, a, Q, hr, h, hQ => hQ st a h hr
  | o :: rest, hl, K, st, a, Q, hr, h, hQ => by
    have hd := hl o (by simp)
    have ih := fun {st : St} {a : Act} => awpQ_sound hops (M := M) (β := β) (w := w) rest (fun o ho => hl o (by simp [ho])) (K := K) (st := st) (a := a) (Q := Q)
    have plain : ∀ st1, Rel n M β st1 a w → (runQ P o.op st1 fun v => awpQ P ops rest K (put st1 o.dst v)) → o.quiet P a (fun w' => Ext w w') (wpQuiet P ops (fun w' => Ext w w') Q rest) := by
      intro st1 hr1 h1
      obtain ⟨v, x, hk, hx, hq⟩ := runQ_sound hr1 h1
      exact ⟨v, fun w' he => hq w' he, ih (hr1.put o.dst hd hx) hk hQ⟩
    unfold awpQ at h
    unfold wpQuiet
    split at h
    · rename_i hg
      rw [if_pos (by simp [Region.wanted, hg])]
      exact plain st hr h
    · rename_i j want hg
      split at h <;> try (exact h.elim)
      rename_i s hs
      have hsn := hops j s hs
      unfold guardW at h
      split at h <;> try (exact h.elim)
      · rename_i t hv
        obtain ⟨hw, hself⟩ := wanted_bool hr hg hs hv hsn
        have hput : ∀ b : Bool, b = t → Rel n M β (put st (some s) (.d (.con (.bool b)))) a w := by
          intro b hb
          subst hb
          have := hr.put (some s) (fun u hu => by cases hu; exact hsn) (x := .d (.con (.bool b))) (.d _ _ (.con (.bool b)))
          rw [hself] at this
          exact this
        by_cases htw : t = want
        · rw [if_pos (by rw [hw]; simp [htw])]
          exact plain _ (hput want htw.symm) (h.1 htw)
        · have htw' : t = (!want) := by cases t <;> cases want <;> simp_all
          rw [if_neg (by rw [hw]; simpa using htw)]
          exact ih ((hput (!want) htw'.symm).put o.dst hd (x := .d (.con undef)) (.d _ _ (.con undef))) (h.2 htw') hQ
      · rename_i us hv
        rw [if_neg (by rw [wanted_tuple hr hg hs hv]; simp)]
        exact ih (hr.put o.dst hd (x := .d (.con undef)) (.d _ _ (.con undef))) h hQ

theorem SWp.region_quiet {id : Nat} {ops : Array Oper} {Q : Exit → St → Prop} {st : St} (hm : P.follows .mixedOrders = true) (hB : Region.lexB .any ops = true) (hops : ∀ o, o ∈ ops → ∀ t, o.dst = some t → t < n)
    (h : awpQ P ops ops.toList (Q .normal) st) : SWp P n p (.region id ops true) Q st := by
  intro M β a w hr Q' hQ
  have he : Ext w { w with drawn := w.drawn + 1 } := ⟨Nat.le_refl _, fun _ _ => rfl, rfl, rfl, rfl⟩
  refine wp_region_quiet (C := fun w' => Ext w w') hm hB he ?_
  refine awpQ_sound (n := n) (M := M) (β := β) ?_ ops.toList (fun o ho => hops o (by simpa using ho)) hr h ?_
  · intro j s hs
    obtain ⟨o, ho, hs⟩ := Option.bind_eq_some_iff.1 hs
    exact hops o (Array.mem_of_getElem? ho) s hs
  · intro st' a' hk hr' w' hw'
    exact hQ _ st' M β a' w' hk (hr'.ext hw') (.ext hw')
end Go.Al

namespace Go.Al
variable {P : Program} {n : Nat} {p : Nat → Prop}

/-- A call: of a function that is lent roots, or of one that needs none. -/
def CallW (P : Program) (p : Nat → Prop) (st : St) (fv : AV) (args : List AV) (K : AV → St → Prop) : Prop :=
  ∃ (f : FuncId) (caps : List AV), fv = .fn f caps ∧ (∀ (vs : Array Value) (w : World), (callFunc f vs).run P w = .ok (.enter f vs) w) ∧
    ((∃ (σ : List Nat), σ.Nodup ∧ (∀ q, q ∈ σ → q < st.roots.length) ∧ (∀ q, q ∈ σ → isArr st.roots q = true → ¬ p q) ∧
      SCall P f ((args ++ caps).map (ren (posOf σ))) (lend σ st.roots) fun x roots' => σ.length ≤ roots'.length ∧ K (ren (fun i => some (back σ st.roots.length i)) x) (afterCall st σ roots')) ∨
    (∃ (args' : List AV) (R' : List Root), fzL (args ++ caps) st.roots = some (args', R') ∧ SCall P f args' [] fun x roots' => roots' = [] ∧ K x ⟨st.env, R'⟩) ∨
    (∃ (args' : List AV) (R' : List Root), fzL (args ++ caps) st.roots = some (args', R') ∧ SCall P f args' [] fun x _ => ∃ c, x = .d (.con c) ∧ K x st))

def dstOk (n : Nat) (o : Oper) : Bool := match o.dst with
  | some t => decide (t < n)
  | none => true

/-- An operation that runs. -/
def runOp (P : Program) (p : Nat → Prop) (op : Op) (st : St) (K : AV → St → Prop) : Prop := match op with
  | .call ⟨.value g, xs, _⟩ => CallW P p st (ev st g) (xs.toList.map (ev st)) K
  | op => opA P p op st K

/-- Operations in a row. -/
def awpOps (P : Program) (p : Nat → Prop) (ops : Array Oper) : List Oper → (St → Prop) → St → Prop
  | [], K, st => K st
  | o :: rest, K, st => match o.guard with
    | none => runOp P p o.op st fun v st' => awpOps P p ops rest K (put st' o.dst v)
    | some (j, want) => match (ops[j]?).bind (·.dst) with
      | some s => guardW (look st.env s) want
          (runOp P p o.op (put st (some s) (.d (.con (.bool want)))) fun v st' => awpOps P p ops rest K (put st' o.dst v))
          (awpOps P p ops rest K (put (put st (some s) (.d (.con (.bool !want)))) o.dst (.d (.con undef))))
          (awpOps P p ops rest K (put st o.dst (.d (.con undef))))
      | none => False

/-- Code. -/
def awp (P : Program) (n : Nat) (p : Nat → Prop) : Code → (Exit → St → Prop) → St → Prop
  | .skip, Q, st => Q .normal st
  | .seq a b, Q, st => awp P n p a (thenS (fun st' => awp P n p b Q st') Q) st
  | .region _ ops false, Q, st => awpOps P p ops ops.toList (Q .normal) st
  | .region _ ops true, Q, st => P.follows .mixedOrders = true ∧ awpQ P ops ops.toList (Q .normal) st
  | .cond c a b, Q, st => boolW (ev st c) (awp P n p a Q st) (awp P n p b Q st)
  | .block id c, Q, st => awp P n p c (fun e st' => match e with | .exit id' => if id' = id then Q .normal st' else Q (.exit id') st' | e => Q e st') st
  | .loop c, Q, st => SWp P n p (.loop c) Q st
  | .exit id, Q, st => Q (.exit id) st
  | .ret, Q, st => Q .ret st
  | _, _, _ => False

def codeOk (n : Nat) : Code → Bool
  | .seq a b => codeOk n a && codeOk n b
  | .region _ ops d => ops.all (dstOk n) && (!d || Region.lexB .any ops)
  | .cond _ a b => codeOk n a && codeOk n b
  | .block _ c => codeOk n c
  | .loop c => codeOk n c
  | _ => true

theorem CallW.mono {st : St} {fv : AV} {args : List AV} {K K' : AV → St → Prop} (h : CallW P p st fv args K) (hk : ∀ x st', K x st' → K' x st') : CallW P p st fv args K' := by
  obtain ⟨f, caps, hf, hc, h⟩ := h
  refine ⟨f, caps, hf, hc, ?_⟩
  rcases h with ⟨σ, hn, hσ, hp, hs⟩ | ⟨args', R', hfz, hs⟩ | ⟨args', R', hfz, hs⟩
  · exact .inl ⟨σ, hn, hσ, hp, hs.mono fun x r hx => ⟨hx.1, hk _ _ hx.2⟩⟩
  · exact .inr (.inl ⟨args', R', hfz, hs.mono fun x r hx => ⟨hx.1, hk _ _ hx.2⟩⟩)
  · exact .inr (.inr ⟨args', R', hfz, hs.mono fun x r ⟨c, hx, hK⟩ => ⟨c, hx, hk _ _ hK⟩⟩)

theorem CallW_sound {ops : Array Oper} {rest : List Oper} {K : St → Prop} {st : St} {g : Operand} {xs : Array Operand} {ats : Array TypeId} {dst : Option Tmp} {ty : TypeId} {pos : String} {after : Array Edge}
    (hd : ∀ t, dst = some t → t < n) (h : CallW P p st (ev st g) (xs.toList.map (ev st)) fun v st' => SOps P n p ops rest K (put st' dst v)) :
    SOps P n p ops (⟨dst, .call ⟨.value g, xs, ats⟩, ty, pos, after, none⟩ :: rest) K st := by
  obtain ⟨f, caps, hf, hc, h⟩ := h
  rcases h with ⟨σ, hn, hσ, hp, hs⟩ | ⟨args', R', hfz, hs⟩ | ⟨args', R', hfz, hs⟩
  · exact SOps.call hd f caps (.inl hf) hc σ hn hσ hp hs
  · exact SOps.call_pure hd f caps hf hc args' R' hfz hs
  · intro M β a w hr Q' hQ
    obtain ⟨cv, hcv, ha⟩ := call_args (xs := xs) hr hf
    have hcalls := call_look (P := P) hr ha hfz hs
    refine wpList_plain rfl fun K' hK => ?_
    unfold Oper.wp
    have hrun : (execOp a.eval ⟨dst, .call ⟨.value g, xs, ats⟩, ty, pos, after, none⟩).run P w = .ok (.enter f (xs.map a.eval ++ cv)) w := by
      simp [execOp, resolve, hcv, Deferred.ofValue, invoke, hc]
    rw [hrun]
    refine hcalls.mono ?_
    rintro e w' ⟨v, x, r', M', β', rfl, ⟨c, rfl, hk⟩, hx, he⟩
    rw [hx.con_eq]
    exact hK _ _ (hk M β _ w' ((hr.ext he).put dst hd (.d _ _ (.con c))) Q' fun st2 M2 β2 a2 w2 q r l => hQ st2 M2 β2 a2 w2 q r ((Later.ext he).trans l))

/-- A guarded operation as one without a guard. -/
theorem SOps.guard_run {ops : Array Oper} {rest : List Oper} {K : St → Prop} {st : St} {o : Oper} {j s : Nat} {want t : Bool} (hg : o.guard = some (j, want)) (hs : (ops[j]?).bind (·.dst) = some s)
    (hv : look st.env s = .d (.con (.bool t))) (hsn : s < n)
    (h1 : t = want → SOps P n p ops ({ o with guard := none } :: rest) K (Al.put st (some s) (.d (.con (.bool want)))))
    (h2 : t = (!want) → SOps P n p ops rest K (Al.put (Al.put st (some s) (.d (.con (.bool !want)))) o.dst (.d (.con undef)))) (hd : ∀ u, o.dst = some u → u < n) :
    SOps P n p ops (o :: rest) K st := by
  intro M β a w hr Q' hQ
  have hst := hr.env s
  rw [hv] at hst
  have hst := hst.con_eq
  have hsz : s < a.tmps.size := by rw [hr.size]; exact hsn
  have hget : a.tmps[s]? = some (.bool t) := by
    rw [Array.getElem?_eq_getElem hsz]
    simp only [Array.getD_eq_getD_getElem?, Array.getElem?_eq_getElem hsz, Option.getD_some] at hst
    rw [hst]
  have hy : yielded ops a.tmps j = some t := by
    unfold yielded
    rw [hs]
    simp [hget]
  have hw : Region.wanted o (yielded ops a.tmps) = (t == want) := by
    unfold Region.wanted
    rw [hg]
    simp only [hy]
    cases t <;> cases want <;> rfl
  have hself : a.put (some s) (.bool t) = a := by
    unfold Act.put
    simp only
    have : a.tmps.setIfInBounds s (.bool t) = a.tmps := by
      apply Array.ext_getElem?
      intro i
      rw [Array.getElem?_setIfInBounds]
      split
      · rename_i e; subst e; rw [hget]
      · rfl
    rw [this]
  have hput : ∀ b : Bool, b = t → Rel n M β (Al.put st (some s) (.d (.con (.bool b)))) a w := by
    intro b hb
    subst hb
    have := hr.put (some s) (fun u hu => by cases hu; exact hsn) (x := .d (.con (.bool b))) (.d _ _ (.con (.bool b)))
    rw [hself] at this
    exact this
  unfold wpList
  by_cases htw : t = want
  · have hrun := h1 htw M β a w (hput want htw.symm) Q' hQ
    unfold wpList at hrun
    rw [if_pos (by rw [hw]; simp [htw])]
    rw [if_pos (by simp [Region.wanted])] at hrun
    rcases hrun with hrun | hrun
    · left
      have e1 : execOp a.eval { o with guard := none } = execOp a.eval o := rfl
      unfold Oper.wp at hrun ⊢
      rw [e1] at hrun
      unfold Oper.upon at hrun ⊢
      exact hrun
    · right; exact hrun
  · have htw' : t = (!want) := by cases t <;> cases want <;> simp_all
    rw [if_neg (by rw [hw]; simpa using htw)]
    have hrel := (hput (!want) htw'.symm).put o.dst hd (x := .d (.con undef)) (.d _ _ (.con undef))
    exact h2 htw' M β _ w hrel Q' hQ

theorem SOps.guard_skip {ops : Array Oper} {rest : List Oper} {K : St → Prop} {st : St} {o : Oper} {j s : Nat} {want : Bool} {us : Array Value} (hg : o.guard = some (j, want)) (hs : (ops[j]?).bind (·.dst) = some s)
    (hv : look st.env s = .d (.con (.tuple us))) (h2 : SOps P n p ops rest K (Al.put st o.dst (.d (.con undef)))) (hd : ∀ u, o.dst = some u → u < n) :
    SOps P n p ops (o :: rest) K st := by
  intro M β a w hr Q' hQ
  have hst := hr.env s
  rw [hv] at hst
  have hst := hst.con_eq
  have hw : Region.wanted o (yielded ops a.tmps) = false := by
    unfold Region.wanted yielded
    rw [hg]
    simp only [hs, Option.bind_some]
    cases hq : a.tmps[s]? with
    | none => rfl
    | some u =>
      simp only [Array.getD_eq_getD_getElem?, hq, Option.getD_some] at hst
      subst hst
      rfl
  unfold wpList
  rw [if_neg (by rw [hw]; simp)]
  exact h2 M β _ w (hr.put o.dst hd (.d _ _ (.con undef))) Q' hQ

theorem awpOps_sound {ops : Array Oper} (hops : ops.all (dstOk n) = true) : ∀ (l : List Oper), (∀ o, o ∈ l → dstOk n o = true) → ∀ {K : St → Prop} {st : St}, awpOps P p ops l K st → SOps P n p ops l K st
  | [], _, K, st, h => SOps.nil h
  | o :: rest, hl, K, st, h => by
    have hd : ∀ t, o.dst = some t → t < n := by
      intro t ht
      have := hl o (by simp)
      unfold dstOk at this
      rw [ht] at this
      simpa using this
    have ih := fun {K : St → Prop} {st : St} => awpOps_sound hops rest (fun o ho => hl o (by simp [ho])) (K := K) (st := st)
    have plain : ∀ (o' : Oper), o'.op = o.op → o'.dst = o.dst → o'.guard = none → ∀ st, (runOp P p o.op st fun v st' => awpOps P p ops rest K (put st' o.dst v)) → SOps P n p ops (o' :: rest) K st := by
      intro o' e1 e2 e3 st h
      have hd' : ∀ t, o'.dst = some t → t < n := by rw [e2]; exact hd
      unfold runOp at h
      split at h
      · rename_i g xs ats hop
        obtain ⟨dst, op, ty, pos, after, gu⟩ := o'
        simp only at e1 e2 e3
        subst e3
        rw [hop] at e1
        subst e1; subst e2
        exact CallW_sound hd' (h.mono fun _ _ hx => ih hx)
      · refine SOps.op e3 hd' ?_
        rw [← e1] at h
        have := opA_sound (P := P) (n := n) (p := p) (o := o') h
        intro M β a w hr
        obtain ⟨nx, v, w', x, st', M', β', h1, h2, h3, h4⟩ := this M β a w hr
        exact ⟨nx, v, w', x, st', M', β', h1, h2, e2 ▸ ih h3, h4⟩
    unfold awpOps at h
    split at h
    · rename_i hg
      exact plain o rfl rfl hg st h
    · rename_i j want hg
      split at h <;> try (exact h.elim)
      rename_i s hs
      have hsn : s < n := by
        simp only [Option.bind_eq_some_iff] at hs
        obtain ⟨oj, hoj, hs⟩ := hs
        have hmem : oj ∈ ops := Array.mem_of_getElem? hoj
        have := (Array.all_eq_true'.1 hops) oj hmem
        unfold dstOk at this
        rw [hs] at this
        simpa using this
      unfold guardW at h
      split at h <;> try (exact h.elim)
      · rename_i t hv
        exact SOps.guard_run hg hs hv hsn (fun ht => plain { o with guard := none } rfl rfl rfl _ (h.1 ht)) (fun ht => ih (h.2 ht)) hd
      · rename_i us hv
        exact SOps.guard_skip hg hs hv (ih h) hd

theorem awp_sound : ∀ (c : Code), codeOk n c = true → ∀ {Q : Exit → St → Prop} {st : St}, awp P n p c Q st → SWp P n p c Q st
  | .skip, _, Q, st, h => .skip h
  | .seq a b, hc, Q, st, h => by
    simp only [codeOk, Bool.and_eq_true] at hc
    refine .seq ((awp_sound a hc.1 h).mono ?_)
    intro e st' hq
    cases e
    case normal => exact awp_sound b hc.2 hq
    all_goals exact hq
  | .region i ops false, hc, Q, st, h => by
    simp only [codeOk, Bool.and_eq_true] at hc
    exact .region rfl (awpOps_sound hc.1 ops.toList (fun o ho => (Array.all_eq_true'.1 hc.1) o (by simpa using ho)) h)
  | .region i ops true, hc, Q, st, h => by
    simp only [codeOk, Bool.and_eq_true, Bool.not_true, Bool.false_or] at hc
    exact .region_quiet h.1 hc.2 (fun o ho => dstOk_lt (by have := (Array.all_eq_true'.1 hc.1) o ho; exact this)) h.2
  | .cond c a b, hc, Q, st, h => by
    simp only [codeOk, Bool.and_eq_true] at hc
    unfold awp boolW at h
    split at h
    · rename_i t hv
      exact .cond t hv (fun ht => awp_sound a hc.1 (h.1 ht)) (fun ht => awp_sound b hc.2 (h.2 ht))
    · exact h.elim
  | .block id c, hc, Q, st, h => .block (awp_sound c hc h)
  | .loop c, _, Q, st, h => h
  | .exit id, _, Q, st, h => .exit h
  | .ret, _, Q, st, h => .ret h
  | .rangeFunc .., _, _, _, h => h.elim
  | .scope .., _, _, _, h => h.elim
  | .label .., _, _, _, h => h.elim
  | .goto .., _, _, _, h => h.elim
  | .refuse .., _, _, _, h => h.elim

/-- A function's contract, from its body's precondition. -/
theorem SCall.of_awp {f : FuncId} {fn : Func} {c : Code} {args : List AV} {roots : List Root} {R : AV → List Root → Prop} (hf : P.funcs[f]? = some fn) (hb : fn.body = some c) (hc : codeOk fn.ntmps c = true) (hn : args.length ≤ fn.ntmps)
    (h : awp P fn.ntmps (pinsOf roots) c (retQ P fn R) { env := envOf 0 args, roots }) : SCall P f args roots R := .body hf hb hn (awp_sound c hc h)

end Go.Al

namespace Go.Al
variable {P : Program} {n : Nat} {p : Nat → Prop} {Q : Exit → St → Prop} {st : St}

def keepE : List Nat → (Nat → Option Nat) → List (Nat × AV) → List (Nat × AV)
  | [], _, _ => []
  | t :: ts, f, e => (t, ren f (look e t)) :: keepE ts f e

/-- Only these temporaries and these roots are known any more. -/
def keepSt (ks rs : List Nat) (st : St) : St := ⟨keepE ks (posOf rs) st.env, lend rs st.roots⟩

theorem look_keepE (f : Nat → Option Nat) (e : List (Nat × AV)) : ∀ (ks : List Nat) (t : Nat), look (keepE ks f e) t = .d .any ∨ look (keepE ks f e) t = ren f (look e t)
  | [], t => .inl rfl
  | k :: ks, t => by
    simp only [keepE, look]
    split
    · rename_i h; subst h; exact .inr rfl
    · exact look_keepE f e ks t

theorem Weak.keep (ks rs : List Nat) (hn : rs.Nodup) (hr : ∀ r, r ∈ rs → r < st.roots.length) (hp : ∀ q, p q → posOf rs q = some q) : Weak p st (keepSt ks rs st) := by
  intro n M β a w h
  have hh := lend_holds h.holds rs hn hr
  refine ⟨M, _, ⟨h.size, h.defers, fun t => ?_, hh⟩, ⟨fun _ _ _ h => h, Nat.le_refl _, fun _ _ _ => ⟨rfl, fun _ => rfl⟩, ?_, ?_, rfl, rfl, rfl⟩⟩
  · rcases look_keepE (posOf rs) st.env ks t with e | e
    · rw [show look (keepSt ks rs st).env t = .d .any from e]; exact .d _ _ (.any _)
    · rw [show look (keepSt ks rs st).env t = ren (posOf rs) (look st.env t) from e]
      refine (h.env t).ren ?_
      intro q i hq
      obtain ⟨h1, h2⟩ := posOf_some hq
      simp only [if_pos h1, h2]
  · intro i l hl
    try simp only at hl
    split at hl
    · exact .inl ⟨_, l, hl, rfl⟩
    · cases hl
  · intro q hq _
    obtain ⟨h1, h2⟩ := posOf_some (hp q hq)
    simp only [if_pos h1, h2]

/-- A nil slice as an array of the call's own, without memory. -/
theorem Weak.openNil (t sz : Nat) (ht : look st.env t = .d (.con (.slice none 0 0))) : Weak p st ⟨(t, .vs st.roots.length 0 0) :: st.env, st.roots ++ [.arr sz [] 0]⟩ := by
  intro n M β a w h
  have hsame := addW_same h.holds Slot.virt
  have hadd := h.holds.add (Ext.refl w) .virt (.arr sz [] 0) (by intro l hl; cases hl) (.virt sz 0)
  refine ⟨M, _, ⟨h.size, h.defers, fun u => ?_, hadd⟩, Later.add h.holds (Ext.refl w) .virt (by intro l hl; cases hl) (fun _ _ _ h => h) (fun _ _ _ => rfl)⟩
  simp only [look]
  split
  · rename_i e
    subst e
    have := h.env t
    rw [ht] at this
    rw [this.con_eq]
    exact .vsV _ none (by simp [addW])
  · exact (h.env u).mono (fun _ _ _ h => h) hsame

theorem pins_lt {roots : List Root} {q : Nat} (h : pinsOf roots q) : q < roots.length := by
  obtain ⟨cs, h⟩ := h
  exact (List.getElem?_eq_some_iff.1 h).1

/-- Where a round of a loop must lead. -/
def RoundW {α : Type} (ks rs : List Nat) (S : α → St) (J : α → Prop) (μ : α → Nat) (m : Nat) (st : St) : Prop :=
  (∀ r, r ∈ rs → r < st.roots.length) ∧ ∃ a, μ a < m ∧ J a ∧ keepSt ks rs st = S a

/-- A function that needs no roots and gives just this. -/
def SPure (P : Program) (f : FuncId) (args : List AV) (X : AV) : Prop := SCall P f args [] fun x r => r = [] ∧ x = X

theorem CallW.pure {st : St} {f : FuncId} {caps args args' : List AV} {R' : List Root} {K : AV → St → Prop} (hc : ∀ (vs : Array Value) (w : World), (callFunc f vs).run P w = .ok (.enter f vs) w)
    (hfz : fzL (args ++ caps) st.roots = some (args', R')) {R : AV → List Root → Prop} (h : SCall P f args' [] R) (hk : ∀ x r, R x r → r = [] ∧ K x ⟨st.env, R'⟩) : CallW P p st (.fn f caps) args K :=
  ⟨f, caps, rfl, hc, .inr (.inl ⟨args', R', hfz, h.mono hk⟩)⟩
theorem CallW.eq {st : St} {f : FuncId} {caps args args' : List AV} {R' : List Root} {K : AV → St → Prop} {X : AV} (hc : ∀ (vs : Array Value) (w : World), (callFunc f vs).run P w = .ok (.enter f vs) w)
    (hfz : fzL (args ++ caps) st.roots = some (args', R')) (h : SPure P f args' X) (hk : K X ⟨st.env, R'⟩) : CallW P p st (.fn f caps) args K :=
  .pure hc hfz h fun x r hx => ⟨hx.1, hx.2 ▸ hk⟩
/-- A call that gives a plain value: what it is handed is lent for reading alone. -/
theorem CallW.con {st : St} {f : FuncId} {caps args args' : List AV} {R' : List Root} {K : AV → St → Prop} {c : Value} (hc : ∀ (vs : Array Value) (w : World), (callFunc f vs).run P w = .ok (.enter f vs) w)
    (hfz : fzL (args ++ caps) st.roots = some (args', R')) (h : SPure P f args' (.d (.con c))) (hk : K (.d (.con c)) st) : CallW P p st (.fn f caps) args K :=
  ⟨f, caps, rfl, hc, .inr (.inr ⟨args', R', hfz, h.mono fun x r hx => ⟨c, hx.2, hx.2 ▸ hk⟩⟩)⟩
/-- The same in a region that draws its order. -/
theorem CallQ.con {st : St} {f : FuncId} {caps args args' : List AV} {R' : List Root} {K : AV → Prop} {c : Value} (hc : ∀ (vs : Array Value) (w : World), (callFunc f vs).run P w = .ok (.enter f vs) w)
    (hfz : fzL (args ++ caps) st.roots = some (args', R')) (h : SPure P f args' (.d (.con c))) (hk : K (.d (.con c))) : CallQ P st (.fn f caps) args K :=
  ⟨f, caps, args', R', c, rfl, hc, hfz, h, hk⟩
/-- A call of a function that is lent some of the roots. -/
theorem CallW.lend {st : St} {f : FuncId} {caps args : List AV} {K : AV → St → Prop} (hc : ∀ (vs : Array Value) (w : World), (callFunc f vs).run P w = .ok (.enter f vs) w) (σ : List Nat) (hn : σ.Nodup)
    (hσ : ∀ q, q ∈ σ → q < st.roots.length) (hp : ∀ q, q ∈ σ → isArr st.roots q = true → ¬ p q) {R : AV → List Root → Prop} (h : SCall P f ((args ++ caps).map (ren (posOf σ))) (Al.lend σ st.roots) R)
    (hk : ∀ x r, R x r → σ.length ≤ r.length ∧ K (ren (fun i => some (back σ st.roots.length i)) x) (afterCall st σ r)) : CallW P p st (.fn f caps) args K :=
  ⟨f, caps, rfl, hc, .inl ⟨σ, hn, hσ, hp, h.mono hk⟩⟩

/-- What is given back frozen, and the roots that came, alone. -/
def finF (rs : List Nat) (R : AV → List Root → Prop) (x : AV) (r : List Root) : Prop := (∀ q, q ∈ rs → q < r.length) ∧ optW (fz x r) fun y => R y.1 (Al.lend rs y.2)
/-- What is given back with roots of its own. -/
def finK (m : Nat) (rsf : AV → List Nat) (R : AV → List Root → Prop) (x : AV) (r : List Root) : Prop :=
  (rsf x).Nodup ∧ (∀ q, q < m → posOf (rsf x) q = some q) ∧ (∀ q, q ∈ rsf x → q < r.length) ∧ R (ren (posOf (rsf x)) x) (Al.lend (rsf x) r)

theorem lend_later {M : Mem} {β : Where} {w : World} {p : Nat → Prop} (rs : List Nat) (hp : ∀ q, p q → posOf rs q = some q) : Later p M β w M (fun i => if i < rs.length then β (rs.getD i 0) else .no) w := by
  refine ⟨fun _ _ _ h => h, Nat.le_refl _, fun _ _ _ => ⟨rfl, fun _ => rfl⟩, ?_, ?_, rfl, rfl, rfl⟩
  · intro i l hl
    try simp only at hl
    split at hl
    · exact .inl ⟨_, l, hl, rfl⟩
    · cases hl
  · intro q hq _
    obtain ⟨h1, h2⟩ := posOf_some (hp q hq)
    simp only [if_pos h1, h2]

theorem SCall.finF {f : FuncId} {args : List AV} {roots : List Root} {R : AV → List Root → Prop} (rs : List Nat) (hn : rs.Nodup) (hp : ∀ q, q < roots.length → posOf rs q = some q)
    (h : SCall P f args roots (finF rs R)) : SCall P f args roots R := by
  intro M β vs w hv hh
  refine (h M β vs w hv hh).mono ?_
  rintro e w' ⟨v, x, r', M', β', rfl, ⟨hlt, hR⟩, hx, hh', hl⟩
  obtain ⟨⟨y, R1⟩, hy, hR⟩ := optW_iff hR
  obtain ⟨M2, hm, hv2⟩ := fz_rel x r' y R1 hy M' β' w' hh'
  refine ⟨v, y, _, M2, _, rfl, hR, hv2 v _ hx, lend_holds hm.holds rs hn (fun q hq => by rw [hm.len]; exact hlt q hq), ?_⟩
  exact hl.trans (hm.later.trans (lend_later rs fun q hq => hp q (pins_lt hq)))

theorem SCall.finK {f : FuncId} {args : List AV} {roots : List Root} {R : AV → List Root → Prop} (rsf : AV → List Nat)
    (h : SCall P f args roots (finK roots.length rsf R)) : SCall P f args roots R := by
  intro M β vs w hv hh
  refine (h M β vs w hv hh).mono ?_
  rintro e w' ⟨v, x, r', M', β', rfl, ⟨hn, hp, hlt, hR⟩, hx, hh', hl⟩
  refine ⟨v, _, _, M', _, rfl, hR, hx.ren ?_, lend_holds hh' _ hn hlt, hl.trans (lend_later _ fun q hq => hp q (pins_lt hq))⟩
  intro q i hq
  obtain ⟨h1, h2⟩ := posOf_some hq
  simp only [if_pos h1, h2]

theorem finF_def {rs : List Nat} {R : AV → List Root → Prop} {x : AV} {r : List Root} : Al.finF rs R x r = ((∀ q, q ∈ rs → q < r.length) ∧ optW (fz x r) fun y => R y.1 (Al.lend rs y.2)) := (rfl)
theorem finK_def {m : Nat} {rsf : AV → List Nat} {R : AV → List Root → Prop} {x : AV} {r : List Root} : Al.finK m rsf R x r =
  ((rsf x).Nodup ∧ (∀ q, q < m → posOf (rsf x) q = some q) ∧ (∀ q, q ∈ rsf x → q < r.length) ∧ R (ren (posOf (rsf x)) x) (Al.lend (rsf x) r)) := (rfl)
attribute [simp] finF_def fz fzL

theorem RoundW_mk {α : Type} {ks rs : List Nat} {S : α → St} {J : α → Prop} {μ : α → Nat} {m : Nat} {env : List (Nat × AV)} {roots : List Root} :
    RoundW ks rs S J μ m ⟨env, roots⟩ = ((∀ r, r ∈ rs → r < roots.length) ∧ ∃ a, μ a < m ∧ J a ∧ (⟨keepE ks (posOf rs) env, lend rs roots⟩ : St) = S a) := (rfl)

attribute [simp] RoundW_mk keepE keepSt posOf lend ren renL renR renE
end Go.Al

namespace Go.Al
variable {P : Program} {ops : Array Oper} {Q : Exit → Act → World → Prop} {md : Region.Mode} {C : World → Prop}

/-- In state 'a', in every world of the class, the operation leaves 'v' and the world as it is. -/
def YieldsE (P : Program) (ops : Array Oper) (C : World → Prop) (o : Oper) (v : Value) (a : Act) : Prop :=
  (Region.wanted o (yielded ops a.tmps) = true ∧ ∀ w, C w → (execOp a.eval o).run P w = .ok (.value v) w ∨ ((execOp a.eval o).run P w = .ok .skip w ∧ v = undef)) ∨
  (Region.wanted o (yielded ops a.tmps) = false ∧ v = undef)

theorem YieldsE.wpOp {i : Nat} {o : Oper} {v : Value} {a : Act} (hi : ops[i]? = some o) (hy : YieldsE P ops C o v a)
    {K : Act → World → Prop} {w : World} (hC : C w) (h : K (a.put o.dst v) w) : wpOp P ops Q i K a w := by
  unfold Go.wpOp
  simp only [hi]
  rcases hy with ⟨hw, hv⟩ | ⟨hw, rfl⟩
  · rcases hv w hC with h1 | ⟨h1, h2⟩
    · simp only [hw, if_true]; refine .inl ?_; unfold Oper.wp; rw [h1]; exact h
    · rw [h2] at h; simp only [hw, if_true]; refine .inl ?_; unfold Oper.wp; rw [h1]; exact h
  · simp only [hw, Bool.false_eq_true, if_false]; exact h

theorem YieldsE.of_same {o : Oper} {v : Value} {a a' : Act} (hy : YieldsE P ops C o v a) (he : execOp a'.eval o = execOp a.eval o)
    (hw : Region.wanted o (yielded ops a'.tmps) = Region.wanted o (yielded ops a.tmps)) : YieldsE P ops C o v a' := by
  unfold YieldsE at *
  rw [he, hw]
  exact hy

theorem wpOp_putE {j : Nat} {oi oj : Oper} {v : Value} (hj : ops[j]? = some oj) (hap : oi.apart ops oj = true)
    (hsi : ∀ cs b, oi.op ≠ .select cs b) (hsj : ∀ cs b, oj.op ≠ .select cs b)
    (hQ : ∀ c a w, Q (.panic c) (a.put oi.dst v) w → Q (.panic c) a w) {K : Act → World → Prop} {a : Act} {w : World}
    (hy : YieldsE P ops C oi v a) (h : wpOp P ops Q j K (a.put oi.dst v) w) :
    wpOp P ops Q j (fun a' w' => YieldsE P ops C oi v a' ∧ K (a'.put oi.dst v) w') a w := by
  obtain ⟨h1, h2, h3⟩ := Oper.apart_spec hap
  have keep : ∀ (a : Act), YieldsE P ops C oi v a → ∀ u, YieldsE P ops C oi v (a.put oj.dst u) := fun a hy u =>
    hy.of_same (execOp_put oi hsi a oj.dst u h3) (wanted_put oi a oj.dst u h3)
  have keepD : ∀ d, YieldsE P ops C oi v { a with defers := d :: a.defers } := fun d => hy.of_same rfl rfl
  unfold wpOp at *
  simp only [hj] at *
  rw [wanted_put oj a oi.dst v h1] at h
  split
  · rename_i hw
    simp only [hw, if_true] at h
    rcases h with h | ⟨hasks, hlets⟩
    case inr => exact .inr ⟨by unfold Oper.asks at *; rw [execOp_put oj hsj a oi.dst v h1] at hasks; exact hasks, hlets⟩
    refine .inl ?_
    unfold Oper.wp at *
    rw [execOp_put oj hsj a oi.dst v h1] at h
    generalize (execOp a.eval oj).run P w = r at *
    cases r with
    | ok n w' =>
      cases n <;> simp only [Oper.upon] at h ⊢
      case value u => exact ⟨keep a hy u, by rw [← Act.put_comm a v u h2]; exact h⟩
      case skip => exact ⟨keep a hy _, by rw [← Act.put_comm a v undef h2]; exact h⟩
      case defer d =>
        refine ⟨keep _ (keepD d) _, ?_⟩
        rw [← Act.put_comm _ v undef h2, ← Act.put_defers]
        exact h
      case enter f args =>
        refine Calls.mono h fun e w'' he => ?_
        cases e with
        | returned u => exact ⟨keep a hy u, by rw [← Act.put_comm a v u h2]; exact he⟩
        | panicked c => exact hQ _ _ _ he
        | outgrown => exact he
      case row row args => exact Rows.mono h fun u w'' he => ⟨keep a hy u, by rw [← Act.put_comm a v u h2]; exact he⟩
    | halt x w' =>
      cases x <;> simp only [Oper.upon] at h ⊢
      case panic u => exact hQ _ _ _ h
  · rename_i hw
    simp only [hw] at h
    exact ⟨keep a hy _, by rw [← Act.put_comm a v undef h2]; exact h⟩

/-- Whatever order is picked of the first 'n', the class's condition behind each; then L. -/
def wpAnyT (P : Program) (md : Region.Mode) (ops : Array Oper) (Q : Exit → Act → World → Prop) (C : World → Prop) (n : Nat) (L : Array Bool → Act → World → Prop) : Nat → Array Bool → Act → World → Prop
  | 0, listed, a, w => L listed a w
  | f + 1, listed, a, w =>
    Region.ready md ops listed ≠ [] ∧ ∀ i ∈ Region.ready md ops listed, i < n ∧ wpOp P ops Q i (fun a' w' => C w' ∧ wpAnyT P md ops Q C n L f (listed.setIfInBounds i true) a' w') a w

theorem wpAny_of_T {n g : Nat} {L : Array Bool → Act → World → Prop} (hL : ∀ listed a w, L listed a w → wpAny P md ops Q g listed a w) :
    ∀ (f : Nat) (listed : Array Bool) (a : Act) (w : World), wpAnyT P md ops Q C n L f listed a w → wpAny P md ops Q (f + g) listed a w
  | 0, listed, a, w, h => by rw [Nat.zero_add]; exact hL _ _ _ h
  | f + 1, listed, a, w, h => by
    rw [show f + 1 + g = (f + g) + 1 by omega]
    exact ⟨fun h0 => absurd h0 h.1, fun i hi => wpOp_mono (fun a' w' h' => wpAny_of_T hL f _ a' w' h'.2) (h.2 i hi).2⟩

theorem wpAnyT_first {n i : Nat} {oi : Oper} {v : Value} {L : Array Bool → Act → World → Prop} (hi : ops[i]? = some oi) (hsel : ∀ (j : Nat) (o : Oper) cs b, ops[j]? = some o → o.op ≠ .select cs b)
    (hQ : ∀ c a w, Q (.panic c) (a.put oi.dst v) w → Q (.panic c) a w)
    (hs : Region.sinkB md ops n = true) (hc : Region.chainB md ops n = true) (hn : n < ops.size) (hin : i < n)
    (hdone : ∀ listed a w, L listed a w → ∀ j ∈ Region.ready md ops listed, n ≤ j) :
    ∀ (f : Nat) (listed : Array Bool) (a : Act) (w : World), HeadInv md ops n listed →
      (∀ j oj, ops[j]? = some oj → j ≠ i → listed.getD j true = false → (∀ e ∈ oj.after, Region.binds md e = true → e.on ≠ i) → oi.apart ops oj = true) →
      i ∈ Region.ready md ops listed → YieldsE P ops C oi v a → C w →
      wpAnyT P md ops Q C n L f (listed.setIfInBounds i true) (a.put oi.dst v) w → wpAnyT P md ops Q C n L (f + 1) listed a w := by
  intro f
  induction f with
  | zero =>
    intro listed a w inv _ hr hy hC H
    have hun := (mem_ready.1 hr).1
    refine ⟨fun h => (by rw [h] at hr; cases hr), fun j hj => ?_⟩
    have hjn : j < n := by
      rcases Nat.lt_or_ge j n with h | h
      · exact h
      · exact absurd hj (tail_waits hs hc hn inv _ i rfl hin hun j h)
    refine ⟨hjn, ?_⟩
    by_cases hji : j = i
    · subst hji; exact hy.wpOp hi hC ⟨hC, H⟩
    · have := hdone _ _ _ H j (ready_mono hj hji)
      omega
  | succ f ih =>
    intro listed a w inv hfree hr hy hC H
    have hun := (mem_ready.1 hr).1
    refine ⟨fun h => (by rw [h] at hr; cases hr), fun j hj => ?_⟩
    have hjn : j < n := by
      rcases Nat.lt_or_ge j n with h | h
      · exact h
      · exact absurd hj (tail_waits hs hc hn inv _ i rfl hin hun j h)
    refine ⟨hjn, ?_⟩
    by_cases hji : j = i
    · subst hji; exact hy.wpOp hi hC ⟨hC, H⟩
    · have h1 := (H.2 j (ready_mono hj hji)).2
      obtain ⟨hjun, oj, hoj, hall⟩ := mem_ready.1 hj
      have hnot : ∀ e ∈ oj.after, Region.binds md e = true → e.on ≠ i := fun e he hb heq => by
        have h1 := hall e he hb
        rw [heq, getD_both hun] at h1
        cases h1
      have h2 := wpOp_putE hoj (hfree j oj hoj hji hjun hnot) (fun cs b => hsel i oi cs b hi) (fun cs b => hsel j oj cs b hoj) hQ hy h1
      have hfree' : ∀ k ok, ops[k]? = some ok → k ≠ i → (listed.setIfInBounds j true).getD k true = false →
          (∀ e ∈ ok.after, Region.binds md e = true → e.on ≠ i) → oi.apart ops ok = true := fun k ok hk hki hun hno => by
        refine hfree k ok hk hki ?_ hno
        by_cases hjk : j = k
        · subst hjk; exact hjun
        · rw [getD_set_ne true hjk] at hun; exact hun
      refine wpOp_mono (fun a' w' h3 => ⟨h3.2.1, ih (listed.setIfInBounds j true) a' w' (inv.set hj hjn) hfree' (ready_mono hr (Ne.symm hji)) h3.1 h3.2.1 ?_⟩) h2
      rw [Array.setIfInBounds_comm _ _ hji]
      exact h3.2.2

/-- The head, in the order of the text. -/
def wpHeld (P : Program) (ops : Array Oper) (C : World → Prop) (Q : Act → Prop) : List Oper → Act → Prop
  | [], a => Q a
  | o :: rest, a => ∃ v, YieldsE P ops C o v a ∧ wpHeld P ops C Q rest (a.put o.dst v)

/-- What only makes, in a class of worlds. -/
def Grows (P : Program) (C : World → Prop) (o : Oper) : Prop := o.guard = none ∧ ∀ (a : Act) (w : World), C w → ∀ nx w', (execOp a.eval o).run P w = .ok nx w' → (∃ v, nx = .value v) ∧ C w'

theorem wpOp_grow {o : Oper} {k : Nat} (h0 : ops[k]? = some o) (hg : Grows P C o) {K : Act → World → Prop} {a : Act} {w : World} (hC : C w) (h : wpOp P ops Q k K a w) : wpOp P ops Q k (fun a' w' => C w' ∧ K a' w') a w := by
  unfold wpOp at *
  simp only [h0] at *
  have hw : Region.wanted o (yielded ops a.tmps) = true := by simp [Region.wanted, hg.1]
  simp only [hw, if_true] at *
  refine h.imp (fun h => ?_) id
  unfold Oper.wp at *
  have := hg.2 a w hC
  generalize (execOp a.eval o).run P w = r at *
  cases r with
  | ok nx w' =>
    obtain ⟨⟨v, rfl⟩, h2⟩ := this nx w' rfl
    exact ⟨h2, h⟩
  | halt x w' => cases x <;> exact h

theorem wpAnyT_mid {n g : Nat} {l2 : List Oper} : ∀ (l : List Oper) (k : Nat) (listed : Array Bool) (a : Act) (w : World), (∀ j, j < l.length → l[j]? = ops[k + j]?) → k + l.length = n → (∀ o, o ∈ l → Grows P C o) → C w →
    Region.seqB md ops (l.length + g) k listed = true → wpList P ops Q (l ++ l2) a w →
    wpAnyT P md ops Q C n (fun listed' a' w' => Region.seqB md ops g n listed' = true ∧ wpList P ops Q l2 a' w') l.length listed a w
  | [], k, listed, a, w, _, hk, _, _, hB, h => by
    have : k = n := by simpa using hk
    subst this
    exact ⟨by simpa using hB, h⟩
  | o :: l, k, listed, a, w, hl, hk, hg, hC, hB, h => by
    have h0 : ops[k]? = some o := by simpa using (hl 0 (by simp)).symm
    rw [show (o :: l).length + g = (l.length + g) + 1 by simp; omega] at hB
    simp only [Region.seqB, Bool.and_eq_true, decide_eq_true_eq] at hB
    refine ⟨by rw [hB.1]; simp, fun i hi => ?_⟩
    rw [hB.1] at hi
    have hik : i = k := by simpa using hi
    subst hik
    refine ⟨by simp only [List.length_cons] at hk; omega, ?_⟩
    have hw : wpOp P ops Q i (wpList P ops Q (l ++ l2)) a w := by unfold wpOp; simp only [h0]; exact h
    refine wpOp_mono ?_ (wpOp_grow h0 (hg o (by simp)) hC hw)
    rintro a' w' ⟨hC', h'⟩
    exact ⟨hC', wpAnyT_mid l (i + 1) _ a' w' (fun j hj => by have := hl (j + 1) (by simp; omega); simpa [Nat.add_assoc, Nat.add_comm 1 j] using this) (by simp only [List.length_cons] at hk; omega) (fun o ho => hg o (by simp [ho])) hC' hB.2 h'⟩


theorem wpAnyT_lex {m n g : Nat} {l2 l3 : List Oper} (hsel : Region.noSelect ops = true) (hQ : ∀ c (a : Act) w, ¬ Q (.panic c) a w) (hs : Region.sinkB md ops n = true) (hc : Region.chainB md ops n = true) (hn : n < ops.size) (hmn : m + l2.length = n)
    (hl2 : ∀ j, j < l2.length → l2[j]? = ops[m + j]?) (hgr : ∀ o, o ∈ l2 → Grows P C o) :
    ∀ (l : List Oper) (k : Nat) (listed : Array Bool) (a : Act) (w : World), (∀ j, j < l.length → l[j]? = ops[k + j]?) → k + l.length = m → HeadInv md ops n listed → C w →
    Region.lexHead md ops (l2.length + g) l.length k listed = true → wpHeld P ops C (fun a' => ∀ w', C w' → wpList P ops Q (l2 ++ l3) a' w') l a →
    wpAnyT P md ops Q C n (fun listed' a' w' => Region.seqB md ops g n listed' = true ∧ wpList P ops Q l3 a' w') (l.length + l2.length) listed a w
  | [], k, listed, a, w, _, hk, _, hC, hB, h => by
    have : k = m := by simpa using hk
    subst this
    simp only [List.length_nil, Nat.zero_add]
    exact wpAnyT_mid l2 k listed a w hl2 hmn hgr hC (by simpa [Region.lexHead] using hB) (h w hC)
  | o :: l, k, listed, a, w, hl, hk, inv, hC, hB, h => by
    have h0 : ops[k]? = some o := by simpa using (hl 0 (by simp)).symm
    simp only [List.length_cons, Region.lexHead, Bool.and_eq_true] at hB
    obtain ⟨⟨hr, hf⟩, hB'⟩ := hB
    have hkn : k < n := by simp only [List.length_cons] at hk; omega
    have hr' : k ∈ Region.ready md ops listed := by simpa using hr
    obtain ⟨v, hy, hK⟩ := h
    rw [show (o :: l).length + l2.length = (l.length + l2.length) + 1 by simp; omega]
    exact wpAnyT_first h0 (Region.noSelect_spec hsel) (fun c a w h => absurd h (hQ c _ w)) hs hc hn hkn (fun listed' a' w' hL => seqB_ready hL.1) _ listed a w inv (Region.free_spec h0 hf) hr' hy hC
      (wpAnyT_lex hsel hQ hs hc hn hmn hl2 hgr l (k + 1) _ _ w (fun j hj => by have := hl (j + 1) (by simp; omega); simpa [Nat.add_assoc, Nat.add_comm 1 j] using this) (by simp only [List.length_cons] at hk; omega) (inv.set hr' hkn) hC hB' hK)

/-- The look at a region: 'm' that look, then up to 'n' that make, then a row. -/
def mixB (ops : Array Oper) (m n : Nat) : Bool :=
  Region.noSelect ops && decide (n < ops.size) && decide (m ≤ n) && Region.sinkB .any ops n && Region.chainB .any ops n && Region.lexHead .any ops (ops.size - m) m 0 (Array.replicate ops.size false)

theorem wp_region_mix {id : Nat} {a : Act} {w : World} {l : List Oper} (m n : Nat) (hm : P.follows .mixedOrders = true) (hB : mixB l.toArray m n = true) (hC : C { w with drawn := w.drawn + 1 }) (hQ : ∀ c (a : Act) w, ¬ Q (.panic c) a w)
    (hgr : ∀ o, o ∈ (l.drop m).take (n - m) → Grows P C o)
    (h : wpHeld P l.toArray C (fun a' => ∀ w', C w' → wpList P l.toArray Q (l.drop m) a' w') (l.take m) a) : (Code.region id l.toArray true).wp P Q a w := by
  simp only [mixB, Bool.and_eq_true, decide_eq_true_eq] at hB
  obtain ⟨⟨⟨⟨⟨hsel, hn⟩, hmn⟩, hs⟩, hc⟩, hlex⟩ := hB
  have hn' : n < l.length := by simpa using hn
  have hml : m ≤ l.length := by omega
  have ht : (l.take m).length = m := by simp; omega
  have hl2 : ((l.drop m).take (n - m)).length = n - m := by simp; omega
  have hdrop : l.drop m = (l.drop m).take (n - m) ++ l.drop n := by
    have := List.take_append_drop (n - m) (l.drop m)
    rw [List.drop_drop, show m + (n - m) = n by omega] at this
    exact this.symm
  have hdl : (l.drop n).length = l.toArray.size - n := by simp
  have inv0 : HeadInv .any l.toArray n (Array.replicate l.toArray.size false) :=
    ⟨by simp, fun j oj _ hl => (by rw [getD_replicate_false] at hl; cases hl), fun t _ ht => getD_in (by simpa using ht) (getD_replicate_false _ _)⟩
  rw [hdrop] at h
  have H := wpAnyT_lex (md := .any) (Q := Q) (m := m) (n := n) (g := l.toArray.size - n) (l2 := (l.drop m).take (n - m)) (l3 := l.drop n) hsel hQ hs hc hn (by rw [hl2]; omega)
    (fun j hj => by
      rw [hl2] at hj
      simp [List.getElem?_take, hj]) hgr (l.take m) 0 _ a { w with drawn := w.drawn + 1 } (fun j hj => by
      have hj' : j < m := by rw [ht] at hj; exact hj
      simp [hj']) (by rw [ht]; omega) inv0 hC (by rw [ht, hl2, show n - m + (l.toArray.size - n) = l.toArray.size - m by omega]; exact hlex) h
  refine wp_region_any hm ?_
  have := wpAny_of_T (Q := Q) (g := l.toArray.size - n) (fun listed a' w' hL => by
    have := wpAny_of_seq (md := .any) (Q' := Q) (l.drop n) n listed a' w' (fun j => by simp [List.getElem?_drop]) (by rw [hdl]; exact hL.1) hL.2
    rwa [hdl] at this) _ _ _ _ H
  rw [ht, hl2, show m + (n - m) + (l.toArray.size - n) = l.toArray.size by omega] at this
  exact this

theorem grows_buildSlice {T e len sz : Nat} {parts : Array (Nat × Operand)} {dst : Option Tmp} {ty : TypeId} {pos : String} {after : Array Edge} (hT : P.underlying T = some (.slice e)) (hs : szOf P e = some sz) (z : Value) (hz : zeroOf P e = some z) (w0 : World) :
    Grows P (fun w' => Ext w0 w') ⟨dst, .buildSlice T len parts, ty, pos, after, none⟩ := by
  refine ⟨rfl, fun a w hC nx w' hrun => ?_⟩
  simp only [execOp, Instr.buildSlice, Sem.run_bind, run_underlying hT, Result.andThen_ok, run_sizeOf hs] at hrun
  by_cases h1 : len * sz > 2 ^ 24
  · simp [h1, Sem.run_bind, unsupported, Sem.run] at hrun
  · by_cases h2 : len * sz = 0
    · simp only [h2, show ¬ (0 > 2 ^ 24) from by omega, if_true, if_false, Sem.run_bind, Sem.run_pure, Result.andThen_ok] at hrun
      split at hrun
      · simp only [Sem.run_bind, Sem.run_pure, Result.andThen_ok, newRow, run_newObj, Sem.run_map] at hrun
        cases hrun
        exact ⟨⟨_, rfl⟩, hC.trans (Ext.alloc w _)⟩
      · simp [stuck, Sem.run] at hrun
    · simp only [h1, h2, if_false, Sem.run_bind, Sem.run_pure, Result.andThen_ok, run_zeroValue hz] at hrun
      split at hrun
      · simp only [Sem.run_bind, Sem.run_pure, Result.andThen_ok, newRow, run_newObj, Sem.run_map] at hrun
        cases hrun
        exact ⟨⟨_, rfl⟩, hC.trans (Ext.alloc w _)⟩
      · simp [stuck, Sem.run] at hrun
end Go.Al

