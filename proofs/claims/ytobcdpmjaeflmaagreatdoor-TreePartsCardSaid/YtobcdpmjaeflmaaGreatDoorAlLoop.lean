/- Al: loops, and what is forgotten at their heads. -/
import Derived.Test.YtobcdpmjaeflmaaGreatDoorAlCode
set_option linter.unusedVariables false
set_option linter.unusedSimpArgs false
namespace Go.Al
variable {P : Program} {n : Nat} {p : Nat → Prop} {Q : Exit → St → Prop} {st : St}

def keepE : List Nat → (Nat → Option Nat) → List (Nat × AV) → List (Nat × AV)
  | [], _, _ => []
  | t :: ts, f, e => (t, ren f (look e t)) :: keepE ts f e

/-- Only these temporaries and these roots are known any more. -/
def keepSt (ks rs : List Nat) (st : St) : St := ⟨keepE ks (posOf rs) st.env, lend rs st.roots⟩

theorem look_keepE (f : Nat → Option Nat) (e : List (Nat × AV)) : ∀ (ks : List Nat) (t : Nat), look (keepE ks f e) t = .d .any ∨ look (keepE ks f e) t = ren f (look e t)
  | [], t => .inl rfl
  | k :: ks, t => by
    simp only [keepE, look]
    split
    · rename_i h; subst h; exact .inr rfl
    · exact look_keepE f e ks t

theorem Weak.keep (ks rs : List Nat) (hn : rs.Nodup) (hr : ∀ r, r ∈ rs → r < st.roots.length) (hp : ∀ q, p q → posOf rs q = some q) : Weak p st (keepSt ks rs st) := by
  intro n M β a w h
  have hh := lend_holds h.holds rs hn hr
  refine ⟨M, _, ⟨h.size, h.defers, fun t => ?_, hh⟩, ⟨fun _ _ _ h => h, Nat.le_refl _, fun _ _ _ => ⟨rfl, fun _ => rfl⟩, ?_, ?_, rfl, rfl, rfl⟩⟩
  · rcases look_keepE (posOf rs) st.env ks t with e | e
    · rw [show look (keepSt ks rs st).env t = .d .any from e]; exact .d _ _ (.any _)
    · rw [show look (keepSt ks rs st).env t = ren (posOf rs) (look st.env t) from e]
      refine (h.env t).ren ?_
      intro q i hq
      obtain ⟨h1, h2⟩ := posOf_some hq
      simp only [if_pos h1, h2]
  · intro i l hl
    try simp only at hl
    split at hl
    · exact .inl ⟨_, l, hl, rfl⟩
    · cases hl
  · intro q hq _
    obtain ⟨h1, h2⟩ := posOf_some (hp q hq)
    simp only [if_pos h1, h2]

/-- A nil slice as an array of the call's own, without memory. -/
theorem Weak.openNil (t sz : Nat) (ht : look st.env t = .d (.con (.slice none 0 0))) : Weak p st ⟨(t, .vs st.roots.length 0 0) :: st.env, st.roots ++ [.arr sz [] 0]⟩ := by
  intro n M β a w h
  have hsame := addW_same h.holds Slot.virt
  have hadd := h.holds.add (Ext.refl w) .virt (.arr sz [] 0) (by intro l hl; cases hl) (.virt sz 0)
  refine ⟨M, _, ⟨h.size, h.defers, fun u => ?_, hadd⟩, Later.add h.holds (Ext.refl w) .virt (by intro l hl; cases hl) (fun _ _ _ h => h) (fun _ _ _ => rfl)⟩
  simp only [look]
  split
  · rename_i e
    subst e
    have := h.env t
    rw [ht] at this
    rw [this.con_eq]
    exact .vsV _ none (by simp [addW])
  · exact (h.env u).mono (fun _ _ _ h => h) hsame

theorem pins_lt {roots : List Root} {q : Nat} (h : pinsOf roots q) : q < roots.length := by
  obtain ⟨cs, h⟩ := h
  exact (List.getElem?_eq_some_iff.1 h).1

/-- Where a round of a loop must lead. -/
def RoundW {α : Type} (ks rs : List Nat) (S : α → St) (J : α → Prop) (μ : α → Nat) (m : Nat) (st : St) : Prop :=
  (∀ r, r ∈ rs → r < st.roots.length) ∧ ∃ a, μ a < m ∧ J a ∧ keepSt ks rs st = S a

/-- A function that needs no roots and gives just this. -/
def SPure (P : Program) (f : FuncId) (args : List AV) (X : AV) : Prop := SCall P f args [] fun x r => r = [] ∧ x = X

theorem CallW.pure {st : St} {f : FuncId} {caps args args' : List AV} {R' : List Root} {K : AV → St → Prop} (hc : ∀ (vs : Array Value) (w : World), (callFunc f vs).run P w = .ok (.enter f vs) w)
    (hfz : fzL (args ++ caps) st.roots = some (args', R')) {R : AV → List Root → Prop} (h : SCall P f args' [] R) (hk : ∀ x r, R x r → r = [] ∧ K x ⟨st.env, R'⟩) : CallW P p st (.fn f caps) args K :=
  ⟨f, caps, rfl, hc, .inr (.inl ⟨args', R', hfz, h.mono hk⟩)⟩
theorem CallW.eq {st : St} {f : FuncId} {caps args args' : List AV} {R' : List Root} {K : AV → St → Prop} {X : AV} (hc : ∀ (vs : Array Value) (w : World), (callFunc f vs).run P w = .ok (.enter f vs) w)
    (hfz : fzL (args ++ caps) st.roots = some (args', R')) (h : SPure P f args' X) (hk : K X ⟨st.env, R'⟩) : CallW P p st (.fn f caps) args K :=
  .pure hc hfz h fun x r hx => ⟨hx.1, hx.2 ▸ hk⟩
/-- A call that gives a plain value: what it is handed is lent for reading alone. -/
theorem CallW.con {st : St} {f : FuncId} {caps args args' : List AV} {R' : List Root} {K : AV → St → Prop} {c : Value} (hc : ∀ (vs : Array Value) (w : World), (callFunc f vs).run P w = .ok (.enter f vs) w)
    (hfz : fzL (args ++ caps) st.roots = some (args', R')) (h : SPure P f args' (.d (.con c))) (hk : K (.d (.con c)) st) : CallW P p st (.fn f caps) args K :=
  ⟨f, caps, rfl, hc, .inr (.inr ⟨args', R', hfz, h.mono fun x r hx => ⟨c, hx.2, hx.2 ▸ hk⟩⟩)⟩
/-- The same in a region that draws its order. -/
theorem CallQ.con {st : St} {f : FuncId} {caps args args' : List AV} {R' : List Root} {K : AV → Prop} {c : Value} (hc : ∀ (vs : Array Value) (w : World), (callFunc f vs).run P w = .ok (.enter f vs) w)
    (hfz : fzL (args ++ caps) st.roots = some (args', R')) (h : SPure P f args' (.d (.con c))) (hk : K (.d (.con c))) : CallQ P st (.fn f caps) args K :=
  ⟨f, caps, args', R', c, rfl, hc, hfz, h, hk⟩
/-- A call of a function that is lent some of the roots. -/
theorem CallW.lend {st : St} {f : FuncId} {caps args : List AV} {K : AV → St → Prop} (hc : ∀ (vs : Array Value) (w : World), (callFunc f vs).run P w = .ok (.enter f vs) w) (σ : List Nat) (hn : σ.Nodup)
    (hσ : ∀ q, q ∈ σ → q < st.roots.length) (hp : ∀ q, q ∈ σ → isArr st.roots q = true → ¬ p q) {R : AV → List Root → Prop} (h : SCall P f ((args ++ caps).map (ren (posOf σ))) (Al.lend σ st.roots) R)
    (hk : ∀ x r, R x r → σ.length ≤ r.length ∧ K (ren (fun i => some (back σ st.roots.length i)) x) (afterCall st σ r)) : CallW P p st (.fn f caps) args K :=
  ⟨f, caps, rfl, hc, .inl ⟨σ, hn, hσ, hp, h.mono hk⟩⟩

/-- What is given back frozen, and the roots that came, alone. -/
def finF (rs : List Nat) (R : AV → List Root → Prop) (x : AV) (r : List Root) : Prop := (∀ q, q ∈ rs → q < r.length) ∧ optW (fz x r) fun y => R y.1 (Al.lend rs y.2)
/-- What is given back with roots of its own. -/
def finK (m : Nat) (rsf : AV → List Nat) (R : AV → List Root → Prop) (x : AV) (r : List Root) : Prop :=
  (rsf x).Nodup ∧ (∀ q, q < m → posOf (rsf x) q = some q) ∧ (∀ q, q ∈ rsf x → q < r.length) ∧ R (ren (posOf (rsf x)) x) (Al.lend (rsf x) r)

theorem lend_later {M : Mem} {β : Where} {w : World} {p : Nat → Prop} (rs : List Nat) (hp : ∀ q, p q → posOf rs q = some q) : Later p M β w M (fun i => if i < rs.length then β (rs.getD i 0) else .no) w := by
  refine ⟨fun _ _ _ h => h, Nat.le_refl _, fun _ _ _ => ⟨rfl, fun _ => rfl⟩, ?_, ?_, rfl, rfl, rfl⟩
  · intro i l hl
    try simp only at hl
    split at hl
    · exact .inl ⟨_, l, hl, rfl⟩
    · cases hl
  · intro q hq _
    obtain ⟨h1, h2⟩ := posOf_some (hp q hq)
    simp only [if_pos h1, h2]

theorem SCall.finF {f : FuncId} {args : List AV} {roots : List Root} {R : AV → List Root → Prop} (rs : List Nat) (hn : rs.Nodup) (hp : ∀ q, q < roots.length → posOf rs q = some q)
    (h : SCall P f args roots (finF rs R)) : SCall P f args roots R := by
  intro M β vs w hv hh
  refine (h M β vs w hv hh).mono ?_
  rintro e w' ⟨v, x, r', M', β', rfl, ⟨hlt, hR⟩, hx, hh', hl⟩
  obtain ⟨⟨y, R1⟩, hy, hR⟩ := optW_iff hR
  obtain ⟨M2, hm, hv2⟩ := fz_rel x r' y R1 hy M' β' w' hh'
  refine ⟨v, y, _, M2, _, rfl, hR, hv2 v _ hx, lend_holds hm.holds rs hn (fun q hq => by rw [hm.len]; exact hlt q hq), ?_⟩
  exact hl.trans (hm.later.trans (lend_later rs fun q hq => hp q (pins_lt hq)))

theorem SCall.finK {f : FuncId} {args : List AV} {roots : List Root} {R : AV → List Root → Prop} (rsf : AV → List Nat)
    (h : SCall P f args roots (finK roots.length rsf R)) : SCall P f args roots R := by
  intro M β vs w hv hh
  refine (h M β vs w hv hh).mono ?_
  rintro e w' ⟨v, x, r', M', β', rfl, ⟨hn, hp, hlt, hR⟩, hx, hh', hl⟩
  refine ⟨v, _, _, M', _, rfl, hR, hx.ren ?_, lend_holds hh' _ hn hlt, hl.trans (lend_later _ fun q hq => hp q (pins_lt hq))⟩
  intro q i hq
  obtain ⟨h1, h2⟩ := posOf_some hq
  simp only [if_pos h1, h2]

theorem finF_def {rs : List Nat} {R : AV → List Root → Prop} {x : AV} {r : List Root} : Al.finF rs R x r = ((∀ q, q ∈ rs → q < r.length) ∧ optW (fz x r) fun y => R y.1 (Al.lend rs y.2)) := (rfl)
theorem finK_def {m : Nat} {rsf : AV → List Nat} {R : AV → List Root → Prop} {x : AV} {r : List Root} : Al.finK m rsf R x r =
  ((rsf x).Nodup ∧ (∀ q, q < m → posOf (rsf x) q = some q) ∧ (∀ q, q ∈ rsf x → q < r.length) ∧ R (ren (posOf (rsf x)) x) (Al.lend (rsf x) r)) := (rfl)
attribute [simp] finF_def fz fzL

theorem RoundW_mk {α : Type} {ks rs : List Nat} {S : α → St} {J : α → Prop} {μ : α → Nat} {m : Nat} {env : List (Nat × AV)} {roots : List Root} :
    RoundW ks rs S J μ m ⟨env, roots⟩ = ((∀ r, r ∈ rs → r < roots.length) ∧ ∃ a, μ a < m ∧ J a ∧ (⟨keepE ks (posOf rs) env, lend rs roots⟩ : St) = S a) := (rfl)

attribute [simp] RoundW_mk keepE keepSt posOf lend ren renL renR renE
end Go.Al
