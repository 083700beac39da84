/- Al: regions that draw their order: where all that they do is to look, or to call what gives a plain value, any order gives the same. -/
import Derived.Test.YtobcdpmjaeflmaaGreatDoorAlAwp
import Derived.Deep.Quiet
set_option linter.unusedVariables false
set_option linter.unusedSimpArgs false
namespace Go.Al
variable {P : Program} {n : Nat} {p : Nat → Prop}

def CallQ (P : Program) (st : St) (fv : AV) (args : List AV) (K : AV → Prop) : Prop :=
  ∃ (f : FuncId) (caps args' : List AV) (R' : List Root) (c : Value), fv = .fn f caps ∧ (∀ (vs : Array Value) (w : World), (callFunc f vs).run P w = .ok (.enter f vs) w) ∧
    fzL (args ++ caps) st.roots = some (args', R') ∧ SCall P f args' [] (fun x r => r = [] ∧ x = .d (.con c)) ∧ K (.d (.con c))

theorem call_args {M : Mem} {β : Where} {a : Act} {w : World} {st : St} (hr : Rel n M β st a w) {g : Operand} {xs : Array Operand} {f : FuncId} {caps : List AV} (hg : ev st g = .fn f caps) :
    ∃ cv, a.eval g = .func (.func f) #[] cv ∧ RelC M β (xs.toList.map (ev st) ++ caps) (xs.map a.eval ++ cv) := by
  have hgv : ∃ cv, a.eval g = .func (.func f) #[] cv ∧ RelC M β caps cv := by
    have h1 := ev_rel hr g
    rw [hg] at h1
    generalize a.eval g = u at h1
    cases h1 with
    | fn _ _ cv hl hR => exact ⟨cv, rfl, hl, hR⟩
  obtain ⟨cv, hcv, hcr⟩ := hgv
  refine ⟨cv, hcv, by simp [hcr.1], ?_⟩
  intro i c x h1 h2
  by_cases hi : i < xs.size
  · rw [List.getElem?_append_left (by simpa using hi)] at h1
    rw [Array.getElem?_append_left (by simpa using hi)] at h2
    simp only [List.getElem?_map, Option.map_eq_some_iff, Array.getElem?_toList, Array.getElem?_map] at h1 h2
    obtain ⟨q, hq, rfl⟩ := h1
    obtain ⟨q', hq', rfl⟩ := h2
    rw [hq] at hq'
    cases hq'
    exact ev_rel hr q
  · rw [List.getElem?_append_right (by simpa using hi)] at h1
    rw [Array.getElem?_append_right (by simpa using hi)] at h2
    simp only [List.length_map, Array.length_toList, Array.size_map] at h1 h2
    exact hcr.2 _ c x h1 h2

/-- A call that only looks: what it is handed is frozen for its time alone. -/
theorem call_look {M : Mem} {β : Where} {a : Act} {w : World} {st : St} (hr : Rel n M β st a w) {f : FuncId} {args args' : List AV} {vs : Array Value} {R' : List Root} {R : AV → List Root → Prop}
    (ha : RelC M β args vs) (hfz : fzL args st.roots = some (args', R')) (h : SCall P f args' [] R) :
    Calls P f vs w fun e w' => ∃ v x r' M' β', e = .returned v ∧ R x r' ∧ RelV M' β' x v ∧ Ext w w' := by
  obtain ⟨M1, hmore, hl1, hv1⟩ := fzL_rel _ _ _ _ hfz M β w hr.holds
  have hh0 : Holds M1 (fun _ => Slot.no) [] w := ⟨hmore.holds.frozen, by simp, (by intro _ _ _ _ h; cases h), (by intro _ _ h; cases h), (by intro _ h; exact absurd rfl h), ⟨hmore.holds.glob.ok, hmore.holds.glob.low, fun _ _ h => by cases h⟩⟩
  have hc := h M1 (fun _ => Slot.no) vs w ⟨hl1.symm.trans ha.1, fun i c x h1 h2 => by
    have hi : i < args.length := by rw [hl1]; exact (List.getElem?_eq_some_iff.1 h1).1
    exact hv1 i _ c x _ (List.getElem?_eq_getElem hi) h1 (ha.2 i _ x (List.getElem?_eq_getElem hi) h2)⟩ hh0
  refine hc.mono ?_
  rintro e w' ⟨v, x, r', M', β', rfl, hR, hx, _, hl⟩
  exact ⟨v, x, r', M', β', rfl, hR, hx, hl.size, fun b hb => (hl.same b hb (by intro r l h; cases h)).1, hl.stream⟩

def runQ (P : Program) (op : Op) (st : St) (K : AV → Prop) : Prop := match op with
  | .call ⟨.value g, xs, _⟩ => CallQ P st (ev st g) (xs.toList.map (ev st)) K
  | op => opP P op st K

/-- A guard. -/
def guardW (v : AV) (want : Bool) (A B C : Prop) : Prop := match v with
  | .d (.con (.bool t)) => (t = want → A) ∧ (t = (!want) → B)
  | .d (.con (.tuple _)) => C
  | _ => False

/-- Operations in the order of the text. -/
def awpQ (P : Program) (ops : Array Oper) : List Oper → (St → Prop) → St → Prop
  | [], K, st => K st
  | o :: rest, K, st => match o.guard with
    | none => runQ P o.op st fun v => awpQ P ops rest K (put st o.dst v)
    | some (j, want) => match (ops[j]?).bind (·.dst) with
      | some s => guardW (look st.env s) want
          (runQ P o.op (put st (some s) (.d (.con (.bool want)))) fun v => awpQ P ops rest K (put (put st (some s) (.d (.con (.bool want)))) o.dst v))
          (awpQ P ops rest K (put (put st (some s) (.d (.con (.bool !want)))) o.dst (.d (.con undef))))
          (awpQ P ops rest K (put st o.dst (.d (.con undef))))
      | none => False

theorem Rel.ext {M : Mem} {β : Where} {st : St} {a : Act} {w w' : World} (h : Rel n M β st a w) (he : Ext w w') : Rel n M β st a w' :=
  ⟨h.size, h.defers, h.env, h.holds.ext he⟩

theorem Later.ext {M : Mem} {β : Where} {w w' : World} (he : Ext w w') : Later p M β w M β w' :=
  ⟨fun _ _ _ h => h, he.size, fun b hb _ => ⟨he.heap b hb, fun _ => rfl⟩, fun r l h => .inl ⟨r, l, h, rfl⟩, fun _ _ _ => rfl, he.stream⟩

/-- One operation, in every world that came since. -/
theorem runQ_sound {M : Mem} {β : Where} {a : Act} {w : World} {st : St} {o : Oper} {K : AV → Prop} (hr : Rel n M β st a w) (h : runQ P o.op st K) :
    ∃ v x, K x ∧ RelV M β x v ∧ ∀ w', Ext w w' → o.quietAt P a (fun w1 => Ext w w1) w' v := by
  unfold runQ at h
  split at h
  · rename_i g xs ats hop
    obtain ⟨f, caps, args', R', c, hf, hc, hfz, hs, hk⟩ := h
    refine ⟨c, .d (.con c), hk, .d _ _ (.con c), fun w' he => ?_⟩
    have hr' := hr.ext he
    obtain ⟨cv, hcv, ha⟩ := call_args (xs := xs) hr' hf
    have hcalls := call_look (P := P) hr' ha hfz hs
    unfold Oper.quietAt
    have hrun : (execOp a.eval o).run P w' = .ok (.enter f (xs.map a.eval ++ cv)) w' := by
      obtain ⟨dst, op, ty, pos, after, gu⟩ := o
      simp only at hop
      subst hop
      simp [execOp, resolve, hcv, Deferred.ofValue, invoke, hc]
    rw [hrun]
    refine ⟨rfl, hcalls.mono ?_⟩
    rintro e w'' ⟨v, x, r', M', β', rfl, ⟨_, rfl⟩, hx, he'⟩
    rw [hx.con_eq]
    exact ⟨rfl, he.trans he'⟩
  · have := opP_sound (P := P) (n := n) (o := o) h
    obtain ⟨v, x, hk, hx, nx, hy, hrun⟩ := this M β a w hr
    refine ⟨v, x, hk, hx, fun w' he => ?_⟩
    unfold Oper.quietAt
    rw [hrun w' he]
    cases nx <;> simp only [Yielded] at hy <;> simp only [Oper.quietUpon]
    · simp [hy]
    · simp [hy]

theorem dstOk_lt {o : Oper} {n : Nat} (h : (match o.dst with | some t => decide (t < n) | none => true) = true) : ∀ t, o.dst = some t → t < n := by
  intro t ht
  rw [ht] at h
  simpa using h

/-- What a guard's temporary holds. -/
theorem wanted_bool {M : Mem} {β : Where} {a : Act} {w : World} {st : St} {ops : Array Oper} {o : Oper} {j s : Nat} {want t : Bool} (hr : Rel n M β st a w) (hg : o.guard = some (j, want)) (hs : (ops[j]?).bind (·.dst) = some s)
    (hv : look st.env s = .d (.con (.bool t))) (hsn : s < n) : Region.wanted o (yielded ops a.tmps) = (t == want) ∧ a.put (some s) (.bool t) = a := by
  have hst := hr.env s
  rw [hv] at hst
  have hst := hst.con_eq
  have hsz : s < a.tmps.size := by rw [hr.size]; exact hsn
  have hget : a.tmps[s]? = some (.bool t) := by
    rw [Array.getElem?_eq_getElem hsz]
    simp only [Array.getD_eq_getD_getElem?, Array.getElem?_eq_getElem hsz, Option.getD_some] at hst
    rw [hst]
  have hy : yielded ops a.tmps j = some t := by
    unfold yielded
    rw [hs]
    simp [hget]
  refine ⟨?_, ?_⟩
  · unfold Region.wanted
    rw [hg]
    simp only [hy]
    cases t <;> cases want <;> rfl
  · unfold Act.put
    simp only
    have : a.tmps.setIfInBounds s (.bool t) = a.tmps := by
      apply Array.ext_getElem?
      intro i
      rw [Array.getElem?_setIfInBounds]
      split
      · rename_i e; subst e; rw [hget]
      · rfl
    rw [this]

theorem wanted_tuple {M : Mem} {β : Where} {a : Act} {w : World} {st : St} {ops : Array Oper} {o : Oper} {j s : Nat} {want : Bool} {us : Array Value} (hr : Rel n M β st a w) (hg : o.guard = some (j, want)) (hs : (ops[j]?).bind (·.dst) = some s)
    (hv : look st.env s = .d (.con (.tuple us))) : Region.wanted o (yielded ops a.tmps) = false := by
  have hst := hr.env s
  rw [hv] at hst
  have hst := hst.con_eq
  unfold Region.wanted yielded
  rw [hg]
  simp only [hs, Option.bind_some]
  cases hq : a.tmps[s]? with
  | none => rfl
  | some u =>
    simp only [Array.getD_eq_getD_getElem?, hq, Option.getD_some] at hst
    subst hst
    rfl

theorem awpQ_sound {ops : Array Oper} (hops : ∀ (j : Nat) s, (ops[j]?).bind (·.dst) = some s → s < n) {M : Mem} {β : Where} {w : World} : ∀ (l : List Oper), (∀ o, o ∈ l → ∀ t, o.dst = some t → t < n) → ∀ {K : St → Prop} {st : St} {a : Act} {Q : Act → Prop},
    Rel n M β st a w → awpQ P ops l K st → (∀ st' a', K st' → Rel n M β st' a' w → Q a') → wpQuiet P ops (fun w' => Ext w w') Q l a
  | [], _, K, st, a, Q, hr, h, hQ => hQ st a h hr
  | o :: rest, hl, K, st, a, Q, hr, h, hQ => by
    have hd := hl o (by simp)
    have ih := fun {st : St} {a : Act} => awpQ_sound hops (M := M) (β := β) (w := w) rest (fun o ho => hl o (by simp [ho])) (K := K) (st := st) (a := a) (Q := Q)
    have plain : ∀ st1, Rel n M β st1 a w → (runQ P o.op st1 fun v => awpQ P ops rest K (put st1 o.dst v)) → o.quiet P a (fun w' => Ext w w') (wpQuiet P ops (fun w' => Ext w w') Q rest) := by
      intro st1 hr1 h1
      obtain ⟨v, x, hk, hx, hq⟩ := runQ_sound hr1 h1
      exact ⟨v, fun w' he => hq w' he, ih (hr1.put o.dst hd hx) hk hQ⟩
    unfold awpQ at h
    unfold wpQuiet
    split at h
    · rename_i hg
      rw [if_pos (by simp [Region.wanted, hg])]
      exact plain st hr h
    · rename_i j want hg
      split at h <;> try (exact h.elim)
      rename_i s hs
      have hsn := hops j s hs
      unfold guardW at h
      split at h <;> try (exact h.elim)
      · rename_i t hv
        obtain ⟨hw, hself⟩ := wanted_bool hr hg hs hv hsn
        have hput : ∀ b : Bool, b = t → Rel n M β (put st (some s) (.d (.con (.bool b)))) a w := by
          intro b hb
          subst hb
          have := hr.put (some s) (fun u hu => by cases hu; exact hsn) (x := .d (.con (.bool b))) (.d _ _ (.con (.bool b)))
          rw [hself] at this
          exact this
        by_cases htw : t = want
        · rw [if_pos (by rw [hw]; simp [htw])]
          exact plain _ (hput want htw.symm) (h.1 htw)
        · have htw' : t = (!want) := by cases t <;> cases want <;> simp_all
          rw [if_neg (by rw [hw]; simpa using htw)]
          exact ih ((hput (!want) htw'.symm).put o.dst hd (x := .d (.con undef)) (.d _ _ (.con undef))) (h.2 htw') hQ
      · rename_i us hv
        rw [if_neg (by rw [wanted_tuple hr hg hs hv]; simp)]
        exact ih (hr.put o.dst hd (x := .d (.con undef)) (.d _ _ (.con undef))) h hQ

theorem SWp.region_quiet {id : Nat} {ops : Array Oper} {Q : Exit → St → Prop} {st : St} (hm : P.follows .mixedOrders = true) (hB : Region.lexB .any ops = true) (hops : ∀ o, o ∈ ops → ∀ t, o.dst = some t → t < n)
    (h : awpQ P ops ops.toList (Q .normal) st) : SWp P n p (.region id ops true) Q st := by
  intro M β a w hr Q' hQ
  have he : Ext w { w with drawn := w.drawn + 1 } := ⟨Nat.le_refl _, fun _ _ => rfl, rfl, rfl, rfl⟩
  refine wp_region_quiet (C := fun w' => Ext w w') hm hB he ?_
  refine awpQ_sound (n := n) (M := M) (β := β) ?_ ops.toList (fun o ho => hops o (by simpa using ho)) hr h ?_
  · intro j s hs
    obtain ⟨o, ho, hs⟩ := Option.bind_eq_some_iff.1 hs
    exact hops o (Array.mem_of_getElem? ho) s hs
  · intro st' a' hk hr' w' hw'
    exact hQ _ st' M β a' w' hk (hr'.ext hw') (.ext hw')
end Go.Al
