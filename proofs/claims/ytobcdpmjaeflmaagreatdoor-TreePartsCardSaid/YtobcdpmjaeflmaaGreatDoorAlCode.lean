/- Al: the precondition of code, worked out: operations in a row, calls, code. -/
import Derived.Test.YtobcdpmjaeflmaaGreatDoorAlQuiet
set_option linter.unusedVariables false
set_option linter.unusedSimpArgs false
namespace Go.Al
variable {P : Program} {n : Nat} {p : Nat → Prop}

/-- A call: of a function that is lent roots, or of one that needs none. -/
def CallW (P : Program) (p : Nat → Prop) (st : St) (fv : AV) (args : List AV) (K : AV → St → Prop) : Prop :=
  ∃ (f : FuncId) (caps : List AV), fv = .fn f caps ∧ (∀ (vs : Array Value) (w : World), (callFunc f vs).run P w = .ok (.enter f vs) w) ∧
    ((∃ (σ : List Nat), σ.Nodup ∧ (∀ q, q ∈ σ → q < st.roots.length) ∧ (∀ q, q ∈ σ → isArr st.roots q = true → ¬ p q) ∧
      SCall P f ((args ++ caps).map (ren (posOf σ))) (lend σ st.roots) fun x roots' => σ.length ≤ roots'.length ∧ K (ren (fun i => some (back σ st.roots.length i)) x) (afterCall st σ roots')) ∨
    (∃ (args' : List AV) (R' : List Root), fzL (args ++ caps) st.roots = some (args', R') ∧ SCall P f args' [] fun x roots' => roots' = [] ∧ K x ⟨st.env, R'⟩) ∨
    (∃ (args' : List AV) (R' : List Root), fzL (args ++ caps) st.roots = some (args', R') ∧ SCall P f args' [] fun x _ => ∃ c, x = .d (.con c) ∧ K x st))

def dstOk (n : Nat) (o : Oper) : Bool := match o.dst with
  | some t => decide (t < n)
  | none => true

/-- An operation that runs. -/
def runOp (P : Program) (p : Nat → Prop) (op : Op) (st : St) (K : AV → St → Prop) : Prop := match op with
  | .call ⟨.value g, xs, _⟩ => CallW P p st (ev st g) (xs.toList.map (ev st)) K
  | op => opA P p op st K

/-- Operations in a row. -/
def awpOps (P : Program) (p : Nat → Prop) (ops : Array Oper) : List Oper → (St → Prop) → St → Prop
  | [], K, st => K st
  | o :: rest, K, st => match o.guard with
    | none => runOp P p o.op st fun v st' => awpOps P p ops rest K (put st' o.dst v)
    | some (j, want) => match (ops[j]?).bind (·.dst) with
      | some s => guardW (look st.env s) want
          (runOp P p o.op (put st (some s) (.d (.con (.bool want)))) fun v st' => awpOps P p ops rest K (put st' o.dst v))
          (awpOps P p ops rest K (put (put st (some s) (.d (.con (.bool !want)))) o.dst (.d (.con undef))))
          (awpOps P p ops rest K (put st o.dst (.d (.con undef))))
      | none => False

/-- Code. -/
def awp (P : Program) (n : Nat) (p : Nat → Prop) : Code → (Exit → St → Prop) → St → Prop
  | .skip, Q, st => Q .normal st
  | .seq a b, Q, st => awp P n p a (thenS (fun st' => awp P n p b Q st') Q) st
  | .region _ ops false, Q, st => awpOps P p ops ops.toList (Q .normal) st
  | .region _ ops true, Q, st => P.follows .mixedOrders = true ∧ awpQ P ops ops.toList (Q .normal) st
  | .cond c a b, Q, st => boolW (ev st c) (awp P n p a Q st) (awp P n p b Q st)
  | .block id c, Q, st => awp P n p c (fun e st' => match e with | .exit id' => if id' = id then Q .normal st' else Q (.exit id') st' | e => Q e st') st
  | .loop c, Q, st => SWp P n p (.loop c) Q st
  | .exit id, Q, st => Q (.exit id) st
  | .ret, Q, st => Q .ret st
  | _, _, _ => False

def codeOk (n : Nat) : Code → Bool
  | .seq a b => codeOk n a && codeOk n b
  | .region _ ops d => ops.all (dstOk n) && (!d || Region.lexB .any ops)
  | .cond _ a b => codeOk n a && codeOk n b
  | .block _ c => codeOk n c
  | .loop c => codeOk n c
  | _ => true

theorem CallW.mono {st : St} {fv : AV} {args : List AV} {K K' : AV → St → Prop} (h : CallW P p st fv args K) (hk : ∀ x st', K x st' → K' x st') : CallW P p st fv args K' := by
  obtain ⟨f, caps, hf, hc, h⟩ := h
  refine ⟨f, caps, hf, hc, ?_⟩
  rcases h with ⟨σ, hn, hσ, hp, hs⟩ | ⟨args', R', hfz, hs⟩ | ⟨args', R', hfz, hs⟩
  · exact .inl ⟨σ, hn, hσ, hp, hs.mono fun x r hx => ⟨hx.1, hk _ _ hx.2⟩⟩
  · exact .inr (.inl ⟨args', R', hfz, hs.mono fun x r hx => ⟨hx.1, hk _ _ hx.2⟩⟩)
  · exact .inr (.inr ⟨args', R', hfz, hs.mono fun x r ⟨c, hx, hK⟩ => ⟨c, hx, hk _ _ hK⟩⟩)

theorem CallW_sound {ops : Array Oper} {rest : List Oper} {K : St → Prop} {st : St} {g : Operand} {xs : Array Operand} {ats : Array TypeId} {dst : Option Tmp} {ty : TypeId} {pos : String} {after : Array Edge}
    (hd : ∀ t, dst = some t → t < n) (h : CallW P p st (ev st g) (xs.toList.map (ev st)) fun v st' => SOps P n p ops rest K (put st' dst v)) :
    SOps P n p ops (⟨dst, .call ⟨.value g, xs, ats⟩, ty, pos, after, none⟩ :: rest) K st := by
  obtain ⟨f, caps, hf, hc, h⟩ := h
  rcases h with ⟨σ, hn, hσ, hp, hs⟩ | ⟨args', R', hfz, hs⟩ | ⟨args', R', hfz, hs⟩
  · exact SOps.call hd f caps (.inl hf) hc σ hn hσ hp hs
  · exact SOps.call_pure hd f caps hf hc args' R' hfz hs
  · intro M β a w hr Q' hQ
    obtain ⟨cv, hcv, ha⟩ := call_args (xs := xs) hr hf
    have hcalls := call_look (P := P) hr ha hfz hs
    refine wpList_plain rfl fun K' hK => ?_
    unfold Oper.wp
    have hrun : (execOp a.eval ⟨dst, .call ⟨.value g, xs, ats⟩, ty, pos, after, none⟩).run P w = .ok (.enter f (xs.map a.eval ++ cv)) w := by
      simp [execOp, resolve, hcv, Deferred.ofValue, invoke, hc]
    rw [hrun]
    refine hcalls.mono ?_
    rintro e w' ⟨v, x, r', M', β', rfl, ⟨c, rfl, hk⟩, hx, he⟩
    rw [hx.con_eq]
    exact hK _ _ (hk M β _ w' ((hr.ext he).put dst hd (.d _ _ (.con c))) Q' fun st2 M2 β2 a2 w2 q r l => hQ st2 M2 β2 a2 w2 q r ((Later.ext he).trans l))

/-- A guarded operation as one without a guard. -/
theorem SOps.guard_run {ops : Array Oper} {rest : List Oper} {K : St → Prop} {st : St} {o : Oper} {j s : Nat} {want t : Bool} (hg : o.guard = some (j, want)) (hs : (ops[j]?).bind (·.dst) = some s)
    (hv : look st.env s = .d (.con (.bool t))) (hsn : s < n)
    (h1 : t = want → SOps P n p ops ({ o with guard := none } :: rest) K (Al.put st (some s) (.d (.con (.bool want)))))
    (h2 : t = (!want) → SOps P n p ops rest K (Al.put (Al.put st (some s) (.d (.con (.bool !want)))) o.dst (.d (.con undef)))) (hd : ∀ u, o.dst = some u → u < n) :
    SOps P n p ops (o :: rest) K st := by
  intro M β a w hr Q' hQ
  have hst := hr.env s
  rw [hv] at hst
  have hst := hst.con_eq
  have hsz : s < a.tmps.size := by rw [hr.size]; exact hsn
  have hget : a.tmps[s]? = some (.bool t) := by
    rw [Array.getElem?_eq_getElem hsz]
    simp only [Array.getD_eq_getD_getElem?, Array.getElem?_eq_getElem hsz, Option.getD_some] at hst
    rw [hst]
  have hy : yielded ops a.tmps j = some t := by
    unfold yielded
    rw [hs]
    simp [hget]
  have hw : Region.wanted o (yielded ops a.tmps) = (t == want) := by
    unfold Region.wanted
    rw [hg]
    simp only [hy]
    cases t <;> cases want <;> rfl
  have hself : a.put (some s) (.bool t) = a := by
    unfold Act.put
    simp only
    have : a.tmps.setIfInBounds s (.bool t) = a.tmps := by
      apply Array.ext_getElem?
      intro i
      rw [Array.getElem?_setIfInBounds]
      split
      · rename_i e; subst e; rw [hget]
      · rfl
    rw [this]
  have hput : ∀ b : Bool, b = t → Rel n M β (Al.put st (some s) (.d (.con (.bool b)))) a w := by
    intro b hb
    subst hb
    have := hr.put (some s) (fun u hu => by cases hu; exact hsn) (x := .d (.con (.bool b))) (.d _ _ (.con (.bool b)))
    rw [hself] at this
    exact this
  unfold wpList
  by_cases htw : t = want
  · have hrun := h1 htw M β a w (hput want htw.symm) Q' hQ
    unfold wpList at hrun
    rw [if_pos (by rw [hw]; simp [htw])]
    rw [if_pos (by simp [Region.wanted])] at hrun
    rcases hrun with hrun | hrun
    · left
      have e1 : execOp a.eval { o with guard := none } = execOp a.eval o := rfl
      unfold Oper.wp at hrun ⊢
      rw [e1] at hrun
      unfold Oper.upon at hrun ⊢
      exact hrun
    · right; exact hrun
  · have htw' : t = (!want) := by cases t <;> cases want <;> simp_all
    rw [if_neg (by rw [hw]; simpa using htw)]
    have hrel := (hput (!want) htw'.symm).put o.dst hd (x := .d (.con undef)) (.d _ _ (.con undef))
    exact h2 htw' M β _ w hrel Q' hQ

theorem SOps.guard_skip {ops : Array Oper} {rest : List Oper} {K : St → Prop} {st : St} {o : Oper} {j s : Nat} {want : Bool} {us : Array Value} (hg : o.guard = some (j, want)) (hs : (ops[j]?).bind (·.dst) = some s)
    (hv : look st.env s = .d (.con (.tuple us))) (h2 : SOps P n p ops rest K (Al.put st o.dst (.d (.con undef)))) (hd : ∀ u, o.dst = some u → u < n) :
    SOps P n p ops (o :: rest) K st := by
  intro M β a w hr Q' hQ
  have hst := hr.env s
  rw [hv] at hst
  have hst := hst.con_eq
  have hw : Region.wanted o (yielded ops a.tmps) = false := by
    unfold Region.wanted yielded
    rw [hg]
    simp only [hs, Option.bind_some]
    cases hq : a.tmps[s]? with
    | none => rfl
    | some u =>
      simp only [Array.getD_eq_getD_getElem?, hq, Option.getD_some] at hst
      subst hst
      rfl
  unfold wpList
  rw [if_neg (by rw [hw]; simp)]
  exact h2 M β _ w (hr.put o.dst hd (.d _ _ (.con undef))) Q' hQ

theorem awpOps_sound {ops : Array Oper} (hops : ops.all (dstOk n) = true) : ∀ (l : List Oper), (∀ o, o ∈ l → dstOk n o = true) → ∀ {K : St → Prop} {st : St}, awpOps P p ops l K st → SOps P n p ops l K st
  | [], _, K, st, h => SOps.nil h
  | o :: rest, hl, K, st, h => by
    have hd : ∀ t, o.dst = some t → t < n := by
      intro t ht
      have := hl o (by simp)
      unfold dstOk at this
      rw [ht] at this
      simpa using this
    have ih := fun {K : St → Prop} {st : St} => awpOps_sound hops rest (fun o ho => hl o (by simp [ho])) (K := K) (st := st)
    have plain : ∀ (o' : Oper), o'.op = o.op → o'.dst = o.dst → o'.guard = none → ∀ st, (runOp P p o.op st fun v st' => awpOps P p ops rest K (put st' o.dst v)) → SOps P n p ops (o' :: rest) K st := by
      intro o' e1 e2 e3 st h
      have hd' : ∀ t, o'.dst = some t → t < n := by rw [e2]; exact hd
      unfold runOp at h
      split at h
      · rename_i g xs ats hop
        obtain ⟨dst, op, ty, pos, after, gu⟩ := o'
        simp only at e1 e2 e3
        subst e3
        rw [hop] at e1
        subst e1; subst e2
        exact CallW_sound hd' (h.mono fun _ _ hx => ih hx)
      · refine SOps.op e3 hd' ?_
        rw [← e1] at h
        have := opA_sound (P := P) (n := n) (p := p) (o := o') h
        intro M β a w hr
        obtain ⟨nx, v, w', x, st', M', β', h1, h2, h3, h4⟩ := this M β a w hr
        exact ⟨nx, v, w', x, st', M', β', h1, h2, e2 ▸ ih h3, h4⟩
    unfold awpOps at h
    split at h
    · rename_i hg
      exact plain o rfl rfl hg st h
    · rename_i j want hg
      split at h <;> try (exact h.elim)
      rename_i s hs
      have hsn : s < n := by
        simp only [Option.bind_eq_some_iff] at hs
        obtain ⟨oj, hoj, hs⟩ := hs
        have hmem : oj ∈ ops := Array.mem_of_getElem? hoj
        have := (Array.all_eq_true'.1 hops) oj hmem
        unfold dstOk at this
        rw [hs] at this
        simpa using this
      unfold guardW at h
      split at h <;> try (exact h.elim)
      · rename_i t hv
        exact SOps.guard_run hg hs hv hsn (fun ht => plain { o with guard := none } rfl rfl rfl _ (h.1 ht)) (fun ht => ih (h.2 ht)) hd
      · rename_i us hv
        exact SOps.guard_skip hg hs hv (ih h) hd

theorem awp_sound : ∀ (c : Code), codeOk n c = true → ∀ {Q : Exit → St → Prop} {st : St}, awp P n p c Q st → SWp P n p c Q st
  | .skip, _, Q, st, h => .skip h
  | .seq a b, hc, Q, st, h => by
    simp only [codeOk, Bool.and_eq_true] at hc
    refine .seq ((awp_sound a hc.1 h).mono ?_)
    intro e st' hq
    cases e
    case normal => exact awp_sound b hc.2 hq
    all_goals exact hq
  | .region i ops false, hc, Q, st, h => by
    simp only [codeOk, Bool.and_eq_true] at hc
    exact .region rfl (awpOps_sound hc.1 ops.toList (fun o ho => (Array.all_eq_true'.1 hc.1) o (by simpa using ho)) h)
  | .region i ops true, hc, Q, st, h => by
    simp only [codeOk, Bool.and_eq_true, Bool.not_true, Bool.false_or] at hc
    exact .region_quiet h.1 hc.2 (fun o ho => dstOk_lt (by have := (Array.all_eq_true'.1 hc.1) o ho; exact this)) h.2
  | .cond c a b, hc, Q, st, h => by
    simp only [codeOk, Bool.and_eq_true] at hc
    unfold awp boolW at h
    split at h
    · rename_i t hv
      exact .cond t hv (fun ht => awp_sound a hc.1 (h.1 ht)) (fun ht => awp_sound b hc.2 (h.2 ht))
    · exact h.elim
  | .block id c, hc, Q, st, h => .block (awp_sound c hc h)
  | .loop c, _, Q, st, h => h
  | .exit id, _, Q, st, h => .exit h
  | .ret, _, Q, st, h => .ret h
  | .rangeFunc .., _, _, _, h => h.elim
  | .scope .., _, _, _, h => h.elim
  | .label .., _, _, _, h => h.elim
  | .goto .., _, _, _, h => h.elim
  | .refuse .., _, _, _, h => h.elim

/-- A function's contract, from its body's precondition. -/
theorem SCall.of_awp {f : FuncId} {fn : Func} {c : Code} {args : List AV} {roots : List Root} {R : AV → List Root → Prop} (hf : P.funcs[f]? = some fn) (hb : fn.body = some c) (hc : codeOk fn.ntmps c = true) (hn : args.length ≤ fn.ntmps)
    (h : awp P fn.ntmps (pinsOf roots) c (retQ P fn R) { env := envOf 0 args, roots }) : SCall P f args roots R := .body hf hb hn (awp_sound c hc h)

end Go.Al
