/- Al: contracts of functions, calls, results. -/
import Derived.Test.YtobcdpmjaeflmaaGreatDoorAlAppend
set_option linter.unusedVariables false
set_option linter.unusedSimpArgs false
namespace Go.Al
variable {P : Program} {n : Nat} {p : Nat → Prop} {st : St} {dst : Option Tmp} {ty : TypeId} {pos : String} {after : Array Edge} {gu : Option (Nat × Bool)}

/-- The roots that stay where they are: the boxes. -/
def pinsOf (roots : List Root) (q : Nat) : Prop := ∃ cs, roots[q]? = some (.box cs)

/-- What a call leaves. -/
def Leaves (roots : List Root) (M : Mem) (β : Where) (w : World) (R : AV → List Root → Prop) (e : Ending) (w' : World) : Prop :=
  ∃ v x roots' M' β', e = .returned v ∧ R x roots' ∧ RelV M' β' x v ∧ Holds M' β' roots' w' ∧ Later (pinsOf roots) M β w M' β' w'

/-- A function's contract: from these arguments and roots: R of what it gives and of the roots then. -/
def SCall (P : Program) (f : FuncId) (args : List AV) (roots : List Root) (R : AV → List Root → Prop) : Prop :=
  ∀ M β vs w, RelC M β args vs → Holds M β roots w → Calls P f vs w (Leaves roots M β w R)

theorem SCall.mono {f : FuncId} {args : List AV} {roots : List Root} {R R' : AV → List Root → Prop} (h : SCall P f args roots R) (hr : ∀ x r, R x r → R' x r) : SCall P f args roots R' :=
  fun M β vs w hv hh => (h M β vs w hv hh).mono fun _ _ ⟨v, x, r', M', β', h1, h2, h3⟩ => ⟨v, x, r', M', β', h1, hr _ _ h2, h3⟩

/-! ### A function's body -/

def envOf : Nat → List AV → List (Nat × AV)
  | _, [] => []
  | k, a :: args => (k, a) :: envOf (k + 1) args

theorem look_envOf : ∀ (args : List AV) (k t : Nat), look (envOf k args) t = if k ≤ t then (args[t - k]?).getD (.d .any) else .d .any
  | [], k, t => by simp [envOf, look]
  | a :: args, k, t => by
    simp only [envOf, look]
    by_cases h : k = t
    · subst h; simp
    · rw [if_neg h, look_envOf args (k + 1) t]
      by_cases h' : k ≤ t
      · rw [if_pos (by omega), if_pos h', show t - k = (t - (k + 1)) + 1 from by omega, List.getElem?_cons_succ]
      · rw [if_neg (by omega), if_neg h']

def resA (P : Program) (st : St) : List ResultVar → Option (List AV)
  | [] => some []
  | .tmp t :: rest => (resA P st rest).map (look st.env t :: ·)
  | .cell a T :: rest => match look st.env a with
    | .ptr r 0 off => match st.roots[r]? with
      | some (.box cs) => (szOf P T).bind fun s => (partA (aggOf P T) s cs off).bind fun x => if (P.underlying T).isSome then (resA P st rest).map (x :: ·) else none
      | _ => none
    | _ => none

def oneOf : List AV → AV
  | [x] => x
  | xs => .tup xs

theorem resA_rel {M : Mem} {β : Where} {a : Act} {w : World} (hr : Rel n M β st a w) : ∀ (l : List ResultVar) (xs : List AV), resA P st l = some xs →
    ∃ vs : List Value, (l.mapM fun | .tmp t => pure (a.tmps.getD t undef) | .cell q t => do loadVar t (← asAddr (a.tmps.getD q undef)) : Sem (List Value)).run P w = .ok vs w ∧ RelC M β xs vs.toArray
  | [], xs, h => by
    simp only [resA, Option.some.injEq] at h
    subst h
    exact ⟨[], by simp, rfl, by simp⟩
  | .tmp t :: rest, xs, h => by
    simp only [resA, Option.map_eq_some_iff] at h
    obtain ⟨ys, hys, rfl⟩ := h
    obtain ⟨vs, hvs, hl, hR⟩ := resA_rel hr rest ys hys
    refine ⟨a.tmps.getD t undef :: vs, ?_, by simpa using hl, ?_⟩
    · rw [List.mapM_cons]
      simp only [Sem.run_bind, Sem.run_pure, Result.andThen_ok]
      rw [hvs]
      simp
    · intro i c x h1 h2
      cases i with
      | zero => simp at h1 h2; subst h1; subst h2; simpa using hr.env t
      | succ i => simp at h1 h2; exact hR i c x h1 (by simpa using h2)
  | .cell q T :: rest, xs, h => by
    simp only [resA] at h
    split at h <;> try (cases h; done)
    rename_i r off hq
    split at h <;> try (cases h; done)
    rename_i cs hroot
    simp only [Option.bind_eq_some_iff] at h
    obtain ⟨s, hs, x, hx, h⟩ := h
    split at h <;> try (cases h; done)
    rename_i hT
    simp only [Option.map_eq_some_iff] at h
    obtain ⟨ys, hys, rfl⟩ := h
    obtain ⟨vs, hvs, hl, hR⟩ := resA_rel hr rest ys hys
    have hrq := hr.env q
    rw [hq] at hrq
    generalize hu : a.tmps.getD q undef = u at hrq
    cases hrq with
    | ptr _ _ _ l hb =>
      have hrr := hr.holds.root r _ hroot
      rw [hb] at hrr
      cases hrr with
      | box b _ vals T' hw hlen hM hR' =>
        have hf : ∀ (j : Nat) c, cs[j]? = some c → vals[j]? = some (vals.getD j undef) := by
          intro j c hj
          have := (List.getElem?_eq_some_iff.1 hj).1
          rw [hlen] at this
          simp [Array.getD, this]
        obtain ⟨v, hv, hl'⟩ := part_rel (P := P) (M := M) (β := β) hx b 0 (fun j => vals.getD j undef) hT hs rfl (by
          intro j c hj
          exact hR' j c _ hj (hf j c hj))
        have hrun := hl' w (by
          intro j c hj
          simp only [World.cell?, hw, Option.isSome_none, Bool.false_eq_true, if_false, Nat.zero_add]
          exact hf j c hj)
        refine ⟨v :: vs, ?_, by simpa using hl, ?_⟩
        · rw [List.mapM_cons]
          simp only [Sem.run_bind, hu, asAddr, Sem.run_pure, Result.andThen_ok, Nat.zero_mul, Nat.zero_add] at *
          rw [hrun]
          simp only [Result.andThen_ok]
          rw [hvs]
          simp
        · intro i c x h1 h2
          cases i with
          | zero => simp at h1 h2; subst h1; subst h2; exact hv
          | succ i => simp at h1 h2; exact hR i c x h1 (by simpa using h2)

theorem results_rel {M : Mem} {β : Where} {a : Act} {w : World} (hr : Rel n M β st a w) (fn : Func) (xs : List AV) (h : resA P st fn.results.toList = some xs) :
    ∃ v, (results fn a.tmps).run P w = .ok v w ∧ RelV M β (oneOf xs) v := by
  obtain ⟨vs, hvs, hl, hR⟩ := resA_rel hr fn.results.toList xs h
  refine ⟨if h : vs.toArray.size = 1 then vs.toArray[0] else .tuple vs.toArray, ?_, ?_⟩
  · unfold results
    simp only [Sem.run_bind, Array.mapM_eq_mapM_toList, Sem.run_map]
    have := hvs
    erw [this]
    rfl
  · by_cases h1 : vs.toArray.size = 1
    · rw [dif_pos h1]
      match xs, hl with
      | [x], hl =>
        exact hR 0 x _ rfl (by simp [h1])
      | [], hl => simp at hl h1; simp [← hl] at h1
      | _ :: _ :: _, hl => simp at hl h1; omega
    · rw [dif_neg h1]
      have : oneOf xs = .tup xs := by
        match xs, hl with
        | [x], hl => exact absurd hl.symm h1
        | [], _ => rfl
        | _ :: _ :: _, _ => rfl
      rw [this]
      exact .tup _ _ hl hR

def retQ (P : Program) (fn : Func) (R : AV → List Root → Prop) : Exit → St → Prop
  | .normal, st => ∃ xs, resA P st fn.results.toList = some xs ∧ R (oneOf xs) st.roots
  | .ret, st => ∃ xs, resA P st fn.results.toList = some xs ∧ R (oneOf xs) st.roots
  | _, _ => False

theorem SCall.body {f : FuncId} {fn : Func} {c : Code} {args : List AV} {roots : List Root} {R : AV → List Root → Prop} (hf : P.funcs[f]? = some fn) (hb : fn.body = some c) (hn : args.length ≤ fn.ntmps)
    (h : SWp P fn.ntmps (pinsOf roots) c (retQ P fn R) { env := envOf 0 args, roots }) : SCall P f args roots R := by
  intro M β vs w hv hh
  refine calls_of_wp hf hb ?_
  refine h M β _ w ⟨?_, rfl, ?_, hh⟩ _ ?_
  · have := hv.1
    simp; omega
  · intro t
    rw [look_envOf]
    simp only [Nat.zero_le, if_true, Nat.sub_zero]
    by_cases ht : t < args.length
    · have ht' : t < vs.size := by rw [← hv.1]; exact ht
      rw [List.getElem?_eq_getElem ht]
      simp only [Option.getD_some]
      refine hv.2 t _ _ (List.getElem?_eq_getElem ht) ?_
      rw [Array.getElem?_eq_getElem ht']
      simp [Array.getD_eq_getD_getElem?, Array.getElem?_append_left ht', Array.getElem?_eq_getElem ht']
    · rw [List.getElem?_eq_none (by omega)]
      exact .d _ _ (.any _)
  · intro e st' M' β' a' w' hq hr' hl
    have fin : ∀ xs, resA P st' fn.results.toList = some xs → R (oneOf xs) st'.roots → a'.defers = [] ∧ ∃ v, (results fn a'.tmps).run P w' = .ok v w' ∧ Leaves roots M β w R (.returned v) w' := by
      intro xs h1 h2
      obtain ⟨v, hv1, hv2⟩ := results_rel (P := P) hr' fn xs h1
      exact ⟨hr'.defers, v, hv1, v, _, _, _, _, rfl, h2, hv2, hr'.holds, hl⟩
    cases e <;> simp only [retQ] at hq
    · obtain ⟨xs, h1, h2⟩ := hq; exact fin xs h1 h2
    · obtain ⟨xs, h1, h2⟩ := hq; exact fin xs h1 h2

/-! ### A call -/

def posOf : List Nat → Nat → Option Nat
  | [], _ => none
  | s :: σ, q => if s = q then some 0 else (posOf σ q).map (· + 1)

theorem posOf_some : ∀ {σ : List Nat} {q i : Nat}, posOf σ q = some i → i < σ.length ∧ σ.getD i 0 = q
  | [], _, _, h => by simp [posOf] at h
  | s :: σ, q, i, h => by
    simp only [posOf] at h
    split at h
    · rename_i e
      cases h
      simp [e]
    · simp only [Option.map_eq_some_iff] at h
      obtain ⟨j, hj, rfl⟩ := h
      obtain ⟨h1, h2⟩ := posOf_some hj
      exact ⟨by simp; omega, by simpa using h2⟩

theorem posOf_mem {σ : List Nat} {q i : Nat} (h : posOf σ q = some i) : q ∈ σ := by
  obtain ⟨h1, h2⟩ := posOf_some h
  rw [← h2]
  simp [List.getD_eq_getElem?_getD, h1]

theorem posOf_none : ∀ {σ : List Nat} {q : Nat}, posOf σ q = none → q ∉ σ
  | [], _, _ => by simp
  | s :: σ, q, h => by
    simp only [posOf] at h
    split at h
    · cases h
    · rename_i e
      simp only [Option.map_eq_none_iff] at h
      simp only [List.mem_cons, not_or]
      exact ⟨fun e' => e e'.symm, posOf_none h⟩

theorem posOf_get : ∀ {σ : List Nat} {i : Nat}, σ.Nodup → i < σ.length → posOf σ (σ.getD i 0) = some i
  | [], _, _, h => by simp at h
  | s :: σ, 0, _, _ => by simp [posOf]
  | s :: σ, i + 1, hn, h => by
    simp only [List.nodup_cons] at hn
    have h' : i < σ.length := by simpa using h
    simp only [posOf, List.getD_cons_succ]
    rw [if_neg, posOf_get hn.2 h']
    · rfl
    · intro e
      apply hn.1
      rw [e]
      simp [List.getD_eq_getElem?_getD, h']

def back (σ : List Nat) (L i : Nat) : Nat := if i < σ.length then σ.getD i 0 else L + (i - σ.length)
def isArr (roots : List Root) (q : Nat) : Bool := match roots[q]? with
  | some (.box _) => false
  | _ => true
/-- What the caller may still hold of the roots that it lends. -/
def killS (σ : List Nat) (roots : List Root) (q : Nat) : Option Nat := if q < roots.length ∧ (q ∈ σ → isArr roots q = false) then some q else none

def mergeR (σ : List Nat) (roots roots' : List Root) : Nat → List Root → List Root
  | _, [] => (roots'.drop σ.length).map (renR fun i => some (back σ roots.length i))
  | q, r :: rs => (match posOf σ q with
    | some i => renR (fun i => some (back σ roots.length i)) (roots'.getD i .dead)
    | none => renR (killS σ roots) r) :: mergeR σ roots roots' (q + 1) rs

theorem mergeR_get (σ : List Nat) (roots roots' : List Root) : ∀ (rs : List Root) (q k : Nat),
    (mergeR σ roots roots' k rs)[q]? = if q < rs.length then (match posOf σ (k + q) with
      | some i => some (renR (fun i => some (back σ roots.length i)) (roots'.getD i .dead))
      | none => (rs[q]?).map (renR (killS σ roots))) else ((roots'.drop σ.length)[q - rs.length]?).map (renR fun i => some (back σ roots.length i)) := by
  intro rs
  induction rs with
  | nil => intro q k; simp [mergeR]
  | cons r rs ih =>
    intro q k
    simp only [mergeR]
    cases q with
    | zero =>
      simp
      cases posOf σ k <;> rfl
    | succ q =>
      simp only [List.getElem?_cons_succ, List.length_cons]
      rw [ih q (k + 1), show k + 1 + q = k + (q + 1) from by omega, show q + 1 - (rs.length + 1) = q - rs.length from by omega]
      simp only [Nat.add_lt_add_iff_right]

theorem mergeR_length (σ : List Nat) (roots roots' : List Root) : ∀ (rs : List Root) (k : Nat), (mergeR σ roots roots' k rs).length = rs.length + (roots'.length - σ.length)
  | [], k => by simp [mergeR]
  | r :: rs, k => by simp only [mergeR, List.length_cons, mergeR_length σ roots roots' rs]; omega

def lend (σ : List Nat) (roots : List Root) : List Root := σ.map fun q => renR (posOf σ) (roots.getD q .dead)

/-- The state behind a call. -/
def afterCall (st : St) (σ : List Nat) (roots' : List Root) : St :=
  { env := renE (killS σ st.roots) st.env, roots := mergeR σ st.roots roots' 0 st.roots }

/-- Where the caller's roots lie behind the call. -/
def whereBack (σ : List Nat) (L : Nat) (β β' : Where) : Where := fun q => match posOf σ q with
  | some i => β' i
  | none => if q < L then β q else β' (σ.length + (q - L))

theorem whereBack_back {σ : List Nat} {L : Nat} {β β' : Where} (hn : σ.Nodup) (hσ : ∀ q, q ∈ σ → q < L) (i : Nat) : whereBack σ L β β' (back σ L i) = β' i := by
  unfold whereBack back
  by_cases h : i < σ.length
  · rw [if_pos h, posOf_get hn h]
  · rw [if_neg h]
    cases hp : posOf σ (L + (i - σ.length)) with
    | some j =>
      have := hσ _ (posOf_mem hp)
      omega
    | none =>
      simp only
      rw [if_neg (by omega)]
      congr 1; omega

theorem RelC.ren {M : Mem} {β β' : Where} {f : Nat → Option Nat} (hf : ∀ r r', f r = some r' → β' r' = β r) {cs : List AV} {vs : Array Value} (h : RelC M β cs vs) : RelC M β' (cs.map (ren f)) vs := by
  refine ⟨by simpa using h.1, ?_⟩
  intro i c x h1 h2
  simp only [List.getElem?_map, Option.map_eq_some_iff] at h1
  obtain ⟨c0, h1, rfl⟩ := h1
  exact (h.2 i c0 x h1 h2).ren hf

/-- What the callee is given. -/
theorem lend_holds {M : Mem} {β : Where} {w : World} {roots : List Root} (h : Holds M β roots w) (σ : List Nat) (hn : σ.Nodup) (hσ : ∀ q, q ∈ σ → q < roots.length) :
    Holds M (fun i => if i < σ.length then β (σ.getD i 0) else .no) (lend σ roots) w := by
  have hf : ∀ q i, posOf σ q = some i → (fun i => if i < σ.length then β (σ.getD i 0) else Slot.no) i = β q := by
    intro q i hq
    obtain ⟨h1, h2⟩ := posOf_some hq
    simp only [if_pos h1, h2]
  refine ⟨h.frozen, ?_, ?_, ?_, ?_, ⟨h.glob.ok, h.glob.low, fun i l hl => by
    try simp only at hl
    split at hl
    · exact h.glob.apart _ l hl
    · cases hl⟩⟩
  · intro i root hi
    unfold lend at hi
    simp only [List.getElem?_map, Option.map_eq_some_iff] at hi
    obtain ⟨q, hq, rfl⟩ := hi
    obtain ⟨hil, hq'⟩ := List.getElem?_eq_some_iff.1 hq
    have hqm : q ∈ σ := List.mem_of_getElem? hq
    have hql := hσ q hqm
    have e1 : σ.getD i 0 = q := by simp [List.getD_eq_getElem?_getD, hq]
    simp only [if_pos hil, e1]
    have hr := h.root q (roots.getD q .dead) (by simp [List.getD_eq_getElem?_getD, hql])
    exact hr.ren hf
  · intro i i' l l' h1 h2 hb
    try simp only at h1 h2
    split at h1 <;> split at h2 <;> try (first | cases h1 | cases h2)
    rename_i hi hi'
    have := h.inj _ _ l l' h1 h2 hb
    have e1 := posOf_get hn hi
    have e2 := posOf_get hn hi'
    rw [this, e2] at e1
    exact (Option.some.inj e1).symm
  · intro i l h1
    try simp only at h1
    split at h1
    · exact h.low _ l h1
    · cases h1
  · intro i hi
    try simp only at hi
    split at hi
    · simpa [lend] using by assumption
    · exact absurd rfl hi

theorem call_back {M M' : Mem} {β β' : Where} {w w' : World} {a : Act} (hr : Rel n M β st a w) (σ : List Nat) (hn : σ.Nodup) (hσ : ∀ q, q ∈ σ → q < st.roots.length)
    (hpin : ∀ q, q ∈ σ → isArr st.roots q = true → ¬ p q) (roots' : List Root) (hlen : σ.length ≤ roots'.length) (hh' : Holds M' β' roots' w')
    (hl : Later (pinsOf (lend σ st.roots)) M (fun i => if i < σ.length then β (σ.getD i 0) else .no) w M' β' w') :
    Rel n M' (whereBack σ st.roots.length β β') (afterCall st σ roots') a w' ∧ Later p M β w M' (whereBack σ st.roots.length β β') w' := by
  have hh := hr.holds
  -- boxes that were lent stay
  have hbox : ∀ q i, posOf σ q = some i → isArr st.roots q = false → β' i = β q := by
    intro q i hq hb
    obtain ⟨h1, h2⟩ := posOf_some hq
    have hql := hσ q (posOf_mem hq)
    unfold isArr at hb
    split at hb <;> try (cases hb; done)
    rename_i cs hcs
    have hr := hh.root q _ hcs
    have hne : β q ≠ .no := by
      intro e
      rw [e] at hr
      cases hr
    have hp : pinsOf (lend σ st.roots) i := by
      refine ⟨renL (posOf σ) cs, ?_⟩
      unfold lend
      simp only [List.getElem?_map]
      rw [List.getElem?_eq_getElem h1]
      have e1 : σ[i] = q := by
        rw [List.getD_eq_getElem?_getD, List.getElem?_eq_getElem h1] at h2
        simpa using h2
      simp [e1, List.getD_eq_getElem?_getD, hcs, renR]
    have := hl.pin i hp (by simp only [if_pos h1, h2]; exact hne)
    rw [this]
    simp only [if_pos h1, h2]
  have hkill : ∀ q q', killS σ st.roots q = some q' → whereBack σ st.roots.length β β' q' = β q := by
    intro q q' hq
    unfold killS at hq
    split at hq <;> try (cases hq; done)
    rename_i hc
    cases hq
    unfold whereBack
    cases hp : posOf σ q with
    | some i => exact hbox q i hp (hc.2 (posOf_mem hp))
    | none => simp only [if_pos hc.1]
  have hback : ∀ i j, (fun i => some (back σ st.roots.length i)) i = some j → whereBack σ st.roots.length β β' j = β' i := by
    intro i j hj
    cases hj
    exact whereBack_back hn hσ i
  have hfree : ∀ q l, posOf σ q = none → β q = .at l → ∀ i l', (if i < σ.length then β (σ.getD i 0) else Slot.no) = .at l' → l'.b ≠ l.b := by
    intro q l hq hlq i l' hl' hb
    split at hl' <;> try (cases hl'; done)
    rename_i hi
    have e := hh.inj _ _ l' l hl' hlq hb
    have := posOf_none hq
    apply this
    rw [← e]
    simp [List.getD_eq_getElem?_getD, hi]
  have hown : ∀ i l', β' i = .at l' → (∃ q l, posOf σ q ≠ none ∧ β q = .at l ∧ l.b = l'.b) ∨ w.heap.size ≤ l'.b := by
    intro i l' hl'
    rcases hl.own i l' hl' with ⟨j, l, hj, e⟩ | e
    · try simp only at hj
      split at hj <;> try (cases hj; done)
      rename_i hjl
      exact .inl ⟨_, l, by rw [posOf_get hn hjl]; simp, hj, e⟩
    · exact .inr e
  refine ⟨⟨hr.size, hr.defers, fun t => ?_, ⟨hh'.frozen, ?_, ?_, ?_, ?_, ⟨hh'.glob.ok, hh'.glob.low, fun q l hq => by
    unfold whereBack at hq
    split at hq
    · exact hh'.glob.apart _ l hq
    · split at hq
      · exact hh.glob.apart q l hq
      · exact hh'.glob.apart _ l hq⟩⟩⟩, ⟨hl.mem, hl.size, ?_, ?_, ?_, hl.stream⟩⟩
  · simp only [afterCall, look_renE]
    exact ((hr.env t).ren hkill).mono hl.mem (fun _ _ => rfl)
  · intro q root hq
    simp only [afterCall] at hq
    rw [mergeR_get] at hq
    simp only [Nat.zero_add] at hq
    by_cases hql : q < st.roots.length
    · rw [if_pos hql] at hq
      cases hp : posOf σ q with
      | some i =>
        simp only [hp, Option.some.injEq] at hq
        subst hq
        obtain ⟨h1, h2⟩ := posOf_some hp
        have hi : i < roots'.length := by omega
        have h3 := hh'.root i (roots'.getD i .dead) (by simp [List.getD_eq_getElem?_getD, hi])
        have h4 := h3.ren hback
        simp only [whereBack, hp]
        exact h4
      | none =>
        simp only [hp, Option.map_eq_some_iff] at hq
        obtain ⟨rt, hrt, rfl⟩ := hq
        have h3 := (hh.root q rt hrt).ren hkill
        simp only [whereBack, hp, if_pos hql]
        have hst : ∀ l, β q = .at l → w'.heap[l.b]? = w.heap[l.b]? ∧ ∀ o, M' l.b o = M l.b o := fun l hlq =>
          hl.same l.b (hh.low q l hlq) (fun i l' hl' => hfree q l hp hlq i l' hl')
        generalize hs : β q = s at h3
        generalize renR (killS σ st.roots) rt = rt' at h3
        cases h3 with
        | dead => exact .dead _
        | virt sz lim => exact .virt sz lim
        | box b cs vals T hw hlen hM hR =>
          obtain ⟨e1, e2⟩ := hst _ hs
          exact .box b cs vals T (e1.trans hw) hlen (fun o => (e2 o).trans (hM o)) (fun i c x h1 h2 => (hR i c x h1 h2).mono hl.mem (fun _ _ => rfl))
        | arr b o sz cap lim rows vals T hw hcap hsize hrow hM hR =>
          obtain ⟨e1, e2⟩ := hst _ hs
          exact .arr b o sz cap lim rows vals T (e1.trans hw) hcap hsize hrow (fun k hk => (e2 k).trans (hM k hk)) (fun i row j c x h1 h2 h3 => (hR i row j c x h1 h2 h3).mono hl.mem)
        | map b mk es arr clock hw hlen hM hR =>
          obtain ⟨e1, e2⟩ := hst _ hs
          exact .map b mk es arr clock (e1.trans hw) hlen (fun o => (e2 o).trans (hM o)) (fun i e x h1 h2 => ⟨(hR i e x h1 h2).1, (hR i e x h1 h2).2.1, (hR i e x h1 h2).2.2.mono hl.mem⟩)
    · rw [if_neg hql] at hq
      simp only [Option.map_eq_some_iff, List.getElem?_drop] at hq
      obtain ⟨rt, hrt, rfl⟩ := hq
      have h3 := (hh'.root _ rt hrt).ren hback
      cases hp : posOf σ q with
      | some i => exact absurd (hσ q (posOf_mem hp)) hql
      | none =>
        simp only [whereBack, hp, if_neg hql]
        exact h3
  · intro q q' l l' h1 h2 hb
    unfold whereBack at h1 h2
    cases hp : posOf σ q with
    | some i =>
      simp only [hp] at h1
      cases hp' : posOf σ q' with
      | some i' =>
        simp only [hp'] at h2
        have e := hh'.inj i i' l l' h1 h2 hb
        subst e
        rw [← (posOf_some hp).2, ← (posOf_some hp').2]
      | none =>
        simp only [hp'] at h2
        split at h2
        · rcases hown i l h1 with ⟨q2, l2, hq2, hl2, e⟩ | e
          · have := hh.inj q2 q' l2 l' hl2 h2 (e.trans hb)
            subst this
            exact absurd hp' hq2
          · have := hh.low q' l' h2; omega
        · have e := hh'.inj i _ l l' h1 h2 hb
          have := (posOf_some hp).1
          omega
    | none =>
      simp only [hp] at h1
      cases hp' : posOf σ q' with
      | some i' =>
        simp only [hp'] at h2
        split at h1
        · rcases hown i' l' h2 with ⟨q2, l2, hq2, hl2, e⟩ | e
          · have := hh.inj q2 q l2 l hl2 h1 (e.trans hb.symm)
            subst this
            exact absurd hp hq2
          · have := hh.low q l h1; omega
        · have e := hh'.inj _ i' l l' h1 h2 hb
          have := (posOf_some hp').1
          omega
      | none =>
        simp only [hp'] at h2
        split at h1 <;> split at h2
        · exact hh.inj q q' l l' h1 h2 hb
        · rcases hown _ l' h2 with ⟨q2, l2, hq2, hl2, e⟩ | e
          · have := hh.inj q2 q l2 l hl2 h1 (e.trans hb.symm)
            subst this
            exact absurd hp hq2
          · have := hh.low q l h1; omega
        · rcases hown _ l h1 with ⟨q2, l2, hq2, hl2, e⟩ | e
          · have := hh.inj q2 q' l2 l' hl2 h2 (e.trans hb)
            subst this
            exact absurd hp' hq2
          · have := hh.low q' l' h2; omega
        · have e := hh'.inj _ _ l l' h1 h2 hb
          omega
  · intro q l h1
    unfold whereBack at h1
    split at h1
    · exact hh'.low _ l h1
    · split at h1
      · exact Nat.lt_of_lt_of_le (hh.low q l h1) hl.size
      · exact hh'.low _ l h1
  · intro q hq
    simp only [afterCall, mergeR_length]
    unfold whereBack at hq
    split at hq
    · rename_i i hp
      have := hσ q (posOf_mem hp)
      omega
    · split at hq
      · omega
      · have := hh'.scope _ hq
        omega
  · intro b hb hne
    refine hl.same b hb ?_
    intro i l hli
    try simp only at hli
    split at hli <;> try (cases hli; done)
    exact hne _ l hli
  · intro q l hq
    unfold whereBack at hq
    have key : ∀ i, β' i = .at l → (∃ r l0, β r = .at l0 ∧ l0.b = l.b) ∨ w.heap.size ≤ l.b := by
      intro i hi
      rcases hown i l hi with ⟨q2, l2, _, hl2, e⟩ | e
      · exact .inl ⟨q2, l2, hl2, e⟩
      · exact .inr e
    split at hq
    · exact key _ hq
    · split at hq
      · exact .inl ⟨q, l, hq, rfl⟩
      · exact key _ hq
  · intro q hq hne
    have hql := hh.scope q hne
    unfold whereBack
    cases hp : posOf σ q with
    | some i =>
      simp only
      refine hbox q i hp ?_
      cases hb : isArr st.roots q with
      | false => rfl
      | true => exact absurd hq (hpin q (posOf_mem hp) hb)
    | none => simp only [if_pos hql]

/-- A call of a function or a function value: its contract serves. -/
theorem SOps.call {ops : Array Oper} {rest : List Oper} {K : St → Prop} {g : Operand} {xs : Array Operand} {ats : Array TypeId} (hd : ∀ t, dst = some t → t < n) (f : FuncId) (caps : List AV)
    (hg : ev st g = .fn f caps ∨ (g = .func f ∧ caps = [])) (hcall : ∀ (vs : Array Value) (w : World), (callFunc f vs).run P w = .ok (.enter f vs) w) (σ : List Nat) (hn : σ.Nodup) (hσ : ∀ q, q ∈ σ → q < st.roots.length)
    (hpin : ∀ q, q ∈ σ → isArr st.roots q = true → ¬ p q)
    (h : SCall P f ((xs.toList.map (ev st) ++ caps).map (ren (posOf σ))) (lend σ st.roots) fun x roots' => σ.length ≤ roots'.length ∧
      SOps P n p ops rest K (put (afterCall st σ roots') dst (ren (fun i => some (back σ st.roots.length i)) x))) :
    SOps P n p ops (⟨dst, .call ⟨.value g, xs, ats⟩, ty, pos, after, none⟩ :: rest) K st := by
  intro M β a w hr Q' hQ
  have hf : ∀ q i, posOf σ q = some i → (fun i => if i < σ.length then β (σ.getD i 0) else Slot.no) i = β q := by
    intro q i hq
    obtain ⟨h1, h2⟩ := posOf_some hq
    simp only [if_pos h1, h2]
  have hgv : ∃ cv, a.eval g = .func (.func f) #[] cv ∧ RelC M β caps cv := by
    rcases hg with hg | ⟨rfl, rfl⟩
    · have h1 := ev_rel hr g
      rw [hg] at h1
      generalize a.eval g = u at h1
      cases h1 with
      | fn _ _ cv hl hR => exact ⟨cv, rfl, hl, hR⟩
    · exact ⟨#[], rfl, rfl, by simp⟩
  obtain ⟨cv, hcv, hcr⟩ := hgv
  have hargs : RelC M β (xs.toList.map (ev st) ++ caps) (xs.map a.eval ++ cv) := by
    refine ⟨by simp [hcr.1], ?_⟩
    intro i c x h1 h2
    by_cases hi : i < xs.size
    · rw [List.getElem?_append_left (by simpa using hi)] at h1
      rw [Array.getElem?_append_left (by simpa using hi)] at h2
      simp only [List.getElem?_map, Option.map_eq_some_iff, Array.getElem?_toList, Array.getElem?_map] at h1 h2
      obtain ⟨q, hq, rfl⟩ := h1
      obtain ⟨q', hq', rfl⟩ := h2
      rw [hq] at hq'
      cases hq'
      exact ev_rel hr q
    · rw [List.getElem?_append_right (by simpa using hi)] at h1
      rw [Array.getElem?_append_right (by simpa using hi)] at h2
      simp only [List.length_map, Array.length_toList, Array.size_map] at h1 h2
      exact hcr.2 _ c x h1 h2
  have hc := h M _ _ w (hargs.ren hf) (lend_holds hr.holds σ hn hσ)
  refine wpList_plain rfl fun K' hK => ?_
  unfold Oper.wp
  have hrun : (execOp a.eval ⟨dst, .call ⟨.value g, xs, ats⟩, ty, pos, after, none⟩).run P w = .ok (.enter f (xs.map a.eval ++ cv)) w := by
    simp [execOp, resolve, hcv, Deferred.ofValue, invoke, hcall]
  rw [hrun]
  refine hc.mono ?_
  rintro e w' ⟨v, x, roots', M', β', rfl, ⟨hlen, hK'⟩, hx, hh', hl⟩
  obtain ⟨hrel', hlater⟩ := call_back (p := p) hr σ hn hσ hpin roots' hlen hh' hl
  have hx' : RelV M' (whereBack σ st.roots.length β β') (ren (fun i => some (back σ st.roots.length i)) x) v := hx.ren (fun i j hj => by cases hj; exact whereBack_back hn hσ i)
  exact hK _ _ (hK' M' _ _ w' (hrel'.put dst hd hx') Q' fun st2 M2 β2 a2 w2 q r l => hQ st2 M2 β2 a2 w2 q r (hlater.trans l))

end Go.Al
