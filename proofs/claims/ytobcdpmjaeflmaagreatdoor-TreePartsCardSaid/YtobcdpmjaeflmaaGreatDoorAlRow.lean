/- Al: from a law's contract to its row. -/
import Derived.Test.YtobcdpmjaeflmaaGreatDoorAlKeep
import Derived.Test.YtobcdpmjaeflmaaGreatDoorAlTree
import Derived.Below
import Derived.ChangeSame
import Derived.RowKit
import Derived.JoinedOf
set_option linter.unusedVariables false
set_option linter.unusedSimpArgs false
namespace Go.Al
open Go.WideShapes Go.ChangeShapes Go.RowKit

def avOf : Ty → Dat → AV
  | .struct _, x => .agg (x.row.map .d)
  | _, x => match x.row with
    | c :: _ => .d c
    | [] => .d .any
def avsOf : List Ty → List Dat → List AV
  | t :: ts, x :: xs => avOf t x :: avsOf ts xs
  | _, _ => []
def tysFor (P : Program) : List Ty → List TypeId → Bool
  | [], [] => true
  | ty :: tys, t :: ts => tyIs P ty t && tysFor P tys ts
  | _, _ => false

section
variable {H : Type} {enc : TypeId × Value → H} {P : Program} {W W' : World}

theorem av_one {ty : Ty} {v : Value} {x : Dat} {β : Where} (hc : v.cells = #[v]) (hw : ty.width = 1) (hl : x.row.length = ty.width)
    (hr : ∀ (i : Nat) c u, x.row[i]? = some c → v.cells.toList[i]? = some u → RelF (memOf W) c u) (ha : avOf ty x = match x.row with | c :: _ => .d c | [] => .d .any) : RelV (memOf W) β (avOf ty x) v := by
  rw [ha]
  rw [hw] at hl
  match hx : x.row, hl with
  | [c], _ => exact .d c v (hr 0 c v (by rw [hx]; rfl) (by rw [hc]; rfl))

theorem av_rel {ty : Ty} {t : TypeId} {v : Value} {base : Nat} {β : Where} (ht : tyIs P ty t = true) (hv : Value.okWide P W .any base t v) (h : ReadOk W ty v.cells.toList) :
    ∃ x, okD ty x ∧ RelV (memOf W) β (avOf ty x) v := by
  obtain ⟨x, ok, hl, hcl, hr⟩ := h
  refine ⟨x, ok, ?_⟩
  cases ty with
  | int k =>
    simp only [tyIs] at ht
    split at ht <;> try (cases ht; done)
    rename_i k' hu
    obtain ⟨n, rfl⟩ := okWide_int hu hv
    exact av_one rfl rfl hl hr rfl
  | bool =>
    simp only [tyIs] at ht
    split at ht <;> try (cases ht; done)
    rename_i hu
    obtain ⟨n, rfl⟩ := okWide_bool hu hv
    exact av_one rfl rfl hl hr rfl
  | str =>
    simp only [tyIs] at ht
    split at ht <;> try (cases ht; done)
    rename_i hu
    obtain ⟨n, rfl⟩ := okWide_string hu hv
    exact av_one rfl rfl hl hr rfl
  | slice e bytes =>
    simp only [tyIs] at ht
    split at ht <;> try (cases ht; done)
    rename_i e' hu
    obtain ⟨a, len, cap, rfl⟩ := okWide_slice hu hv
    exact av_one rfl rfl hl hr rfl
  | struct ts =>
    simp only [tyIs] at ht
    split at ht <;> try (cases ht; done)
    rename_i fs hu
    obtain ⟨cs, rfl, hs⟩ := okWide_struct hu hv
    have hcl' : cs.size = (Ty.struct ts).width := by simpa [Value.cells] using hcl
    refine .agg _ cs (by simp [hl, hcl']) ?_
    intro i c u h1 h2
    simp only [List.getElem?_map, Option.map_eq_some_iff] at h1
    obtain ⟨d, h1, rfl⟩ := h1
    exact .d d u (hr i d u h1 (by simpa [Value.cells] using h2))

theorem args_read {sp : Nat → Bool} {base : Nat} {β : Where} : ∀ (tys : List Ty) (ts : List TypeId) (vs : List Value) (ds : List (DataW H)) (ps : List MemPlace), tysFor P tys ts = true →
    DataW.TrodAll enc P W 0 sp true ts vs ds ps → (∀ (j : Nat) t v, ts[j]? = some t → vs[j]? = some v → Value.okWide P W .any base t v) → (∀ n, n ∈ DataW.weightsEach P ts ds → n ≤ reachBytes) →
    ∃ xs, okEach tys xs ∧ (avsOf tys xs).length = vs.length ∧ ds.length = tys.length ∧ ∀ (i : Nat) c x, (avsOf tys xs)[i]? = some c → vs[i]? = some x → RelV (memOf W) β c x
  | [], [], [], [], _, _, _, _, _ => ⟨[], trivial, rfl, rfl, by simp [avsOf]⟩
  | [], [], _ :: _, _, _, _, h, _, _ => by simp [DataW.TrodAll] at h
  | [], [], [], _ :: _, _, _, h, _, _ => by simp [DataW.TrodAll] at h
  | [], _ :: _, _, _, _, h, _, _, _ => by simp [tysFor] at h
  | _ :: _, [], _, _, _, h, _, _, _ => by simp [tysFor] at h
  | ty :: tys, t :: ts, [], ds, _, _, h, _, _ => by simp [DataW.TrodAll] at h
  | ty :: tys, t :: ts, _ :: _, [], _, _, h, _, _ => by simp [DataW.TrodAll] at h
  | ty :: tys, t :: ts, v :: vs, d :: ds, ps, ht, ⟨p, q, ⟨fuel, hf⟩, h2, _⟩, hv, hw => by
    simp only [tysFor, Bool.and_eq_true] at ht
    simp only [DataW.weightsEach, List.mem_append] at hw
    obtain ⟨x, ok, hx⟩ := av_rel (β := β) ht.1 (hv 0 t v rfl rfl) (read fuel ty t _ d p ht.1 hf fun n hn => hw n (.inl hn))
    obtain ⟨xs, oks, hl, hdl, hxs⟩ := args_read (base := base) (β := β) tys ts vs ds q ht.2 h2 (fun j t' v' h1 h2 => hv (j + 1) t' v' (by simpa using h1) (by simpa using h2)) fun n hn => hw n (.inr hn)
    refine ⟨x :: xs, ⟨ok, oks⟩, by simp [avsOf, hl], by simp [hdl], ?_⟩
    intro i c u h1 h2
    cases i with
    | zero => simp [avsOf] at h1 h2; subst h1; subst h2; exact hx
    | succ i => exact hxs i c u (by simpa [avsOf] using h1) (by simpa using h2)

theorem args_keep {sp : Nat → Bool} (hs : ∀ p : MemPlace, p.block < W.heap.size → W.sameAt W' p) : ∀ (tys : List Ty) (ts : List TypeId) (vs : List Value) (ds : List (DataW H)) (ps : List MemPlace), tysFor P tys ts = true →
    DataW.TrodAll enc P W 0 (fun _ => true) true ts vs ds ps → (∀ p, p ∈ ps → sp p.block = true) → DataW.TrodAll enc P W' 0 sp true ts vs ds ps
  | [], [], [], [], _, _, h, _ => h
  | [], [], _ :: _, _, _, _, h, _ => by simp [DataW.TrodAll] at h
  | [], [], [], _ :: _, _, _, h, _ => by simp [DataW.TrodAll] at h
  | [], _ :: _, _, _, _, h, _, _ => by simp [tysFor] at h
  | _ :: _, [], _, _, _, h, _, _ => by simp [tysFor] at h
  | ty :: tys, t :: ts, [], ds, _, _, h, _ => by simp [DataW.TrodAll] at h
  | ty :: tys, t :: ts, _ :: _, [], _, _, h, _ => by simp [DataW.TrodAll] at h
  | ty :: tys, t :: ts, v :: vs, d :: ds, ps, ht, ⟨p, q, ⟨fuel, hf⟩, h2, e⟩, hp => by
    simp only [tysFor, Bool.and_eq_true] at ht
    subst e
    have h3 := keep (sp := sp) fuel ty t _ _ ht.1 hf fun r hr => hp r (List.mem_append_left _ hr)
    exact ⟨p, q, ⟨fuel, DataW.trod_carry fuel t _ _ h3 fun r hr => hs r (DataW.trod_lt fuel t _ _ hf r hr)⟩, args_keep hs tys ts vs ds q ht.2 h2 (fun r hr => hp r (List.mem_append_right _ hr)), rfl⟩

theorem post_below {f : Func} {s : ChangeSpec} {apart fresh handsOn again : Bool} {args : Array Value} {v : Value} {ds gs : List (DataW H)} {before pa pv : List MemPlace}
    (hW : DataW.Whole enc P f.params.toList s.vars apart W args.toList ds gs before)
    (hres : ∀ (b : Nat) (sp : Nat → Bool) (hd : Bool), DataW.TrodAll enc P W' b sp hd f.resultTypes.toList (v.resultList f.resultTypes.size) (s.fn H (ds ++ gs)).results [])
    (hargs : ∀ sp : Nat → Bool, (∀ p ∈ before, sp p.block = true) → DataW.TrodAll enc P W' 0 sp true f.params.toList args.toList (s.fn H (ds ++ gs)).args pa)
    (hvars : ∀ sp : Nat → Bool, (∀ p ∈ before, sp p.block = true) → DataW.TrodVars enc P W' sp s.vars (s.fn H (ds ++ gs)).vars pv)
    (hps : before = pa ++ pv) (hb : Below W.heap.size W W')
    (hok : ∀ (j : Nat) (t : TypeId) (r : Value), f.resultTypes[j]? = some t → (v.resultList f.resultTypes.size)[j]? = some r → Value.okWide P W' .any 0 t r) :
    s.post enc P f apart fresh handsOn again W args v W' := by
  have hlt : ∀ p ∈ before, p.block < W.heap.size := fun p hp => hW.lt p hp
  have hold : ∀ p ∈ before, (fun b => decide (b < W.heap.size)) p.block = true := fun p hp => by simpa using hlt p hp
  refine ⟨ds, gs, before, [], pa, pv, hW, hres _ _ _, hargs _ hold, hvars _ hold, World.keptBut_mono (fun p hp => ⟨hp, ?_⟩) (hb.frame (· ∈ before)), fun _ => ?_⟩
  · rw [hps, List.mem_append] at hp
    exact Or.inr hp
  · obtain ⟨_, _, _, _, _, hz, hn⟩ := hW
    refine ⟨hok, _, _, ([] ++ pa) ++ pv, ⟨[] ++ pa, pv, trodAll_append (hargs _ (fun _ _ => rfl)) (hres _ _ _), hvars _ (fun _ _ => rfl), rfl, ?_, ?_⟩, ?_⟩
    · intro b off hp
      have hin : MemPlace.cell b off ∈ before := by rw [hps]; simpa using hp
      rw [hb.frozen (hlt _ hin)]
      exact hz b off hin
    · intro ha
      have := hn ha
      rw [hps] at this
      simpa using this
    · intro p hp _
      rw [hps]
      simpa using hp

/-- What frozen cells there are at first: all. -/
theorem holds_all {W : World} (hg : GlobOK (fun _ => .no) W) : Holds (memOf W) (fun _ => .no) [] W :=
  ⟨fun _ _ _ h => h, by simp, (by intro _ _ _ _ h; cases h), (by intro _ _ h; cases h), (by intro _ h; exact absurd rfl h), hg⟩

theorem law_post {f : FuncId} {fn : Func} {s : ChangeSpec} {apart fresh handsOn again : Bool} {args : Array Value} {ds gs : List (DataW H)} {before : List MemPlace} {base : Nat} {tb : TypeId} {tys : List Ty}
    (hty : tysFor P tys fn.params.toList = true) (hrt : fn.resultTypes = #[tb]) (htb : P.underlying tb = some .bool) (hvars : s.vars = [])
    (hs : ∀ ds : List (DataW H), ds.length = tys.length → s.fn H ds = { results := [.lit (.bool true)], args := ds })
    (law : ∀ xs, okEach tys xs → SPure P f (avsOf tys xs) (B true)) (hg : GlobOK (fun _ => .no) W)
    (hval : ∀ (j : Nat) t v, fn.params[j]? = some t → args[j]? = some v → Value.okWide P W .any base t v)
    (hW : DataW.Whole enc P fn.params.toList s.vars apart W args.toList ds gs before)
    (hw : (DataW.weightsEach P (fn.params.toList ++ s.plain.varTypes P) (ds ++ gs)).all (· ≤ reachBytes) = true) :
    Calls P f args W fun e W' => ∃ v, e = .returned v ∧ s.post enc P fn apart fresh handsOn again W args v W' := by
  have hW0 := hW
  obtain ⟨p, q, hA, hV, rfl, _, _⟩ := hW
  obtain ⟨rfl, rfl⟩ : gs = [] ∧ q = [] := by
    rw [hvars] at hV
    cases gs with
    | nil => exact ⟨rfl, hV⟩
    | cons g r => exact absurd hV (by intro h; cases h)
  have hvt : s.plain.varTypes P = [] := by
    have : s.plain.vars = [] := hvars
    simp [DataSpec.varTypes, this]
  rw [hvt, List.append_nil, List.append_nil] at hw
  obtain ⟨xs, ok, hl, hdl, hr⟩ := args_read (base := base) (β := fun _ => .no) tys _ _ _ _ hty hA (fun j t v h1 h2 => hval j t v (by simpa using h1) (by simpa using h2)) fun n hn => by
    have := List.all_eq_true.1 hw n hn
    simpa using this
  refine (law xs ok (memOf W) (fun _ => .no) args W ⟨by simpa using hl, fun i c x h1 h2 => hr i c x h1 (by simpa using h2)⟩ (holds_all hg)).mono ?_
  rintro e W' ⟨v, x, r', M', β', rfl, ⟨_, rfl⟩, hx, _, hlt⟩
  have hv : v = .bool true := hx.con_eq
  subst hv
  have hb : Below W.heap.size W W' := ⟨hlt.stream.1, hlt.stream.2.1, hlt.stream.2.2, hlt.size, fun k hk => (hlt.same k hk (by intro r l h; cases h)).1⟩
  refine ⟨_, rfl, post_below (pa := p) (pv := []) hW0 ?_ ?_ ?_ (by simp) hb ?_⟩
  · intro b sp hd
    rw [List.append_nil, hs ds hdl, hrt]
    exact trodAll_mk1 (shut_bool htb true)
  · intro sp hsp
    rw [List.append_nil, hs ds hdl]
    exact args_keep (fun p hp => hb.same hp) tys _ _ _ _ hty hA fun r hr => hsp r (by simpa using hr)
  · intro sp _
    rw [List.append_nil, hs ds hdl, hvars]
    rfl
  · exact ok_one hrt rfl (okWide_bool_mk htb true)

theorem returns_law {C : Checked} {os : Os} {f : FuncId} {fn : Func} {s : ChangeSpec} {apart fresh handsOn again : Bool} {X : World → Array Value → Prop} {tb : TypeId} {tys : List Ty}
    (hX : ∀ (w w' : World) (args : Array Value), w.heap = w'.heap → X w args → X w' args)
    (own : ownKnob C.prog.godebug = none) (started : os.Started) (noInit : C.prog.inits.idxOf? f = none) (hfn : C.prog.funcs[f]? = some fn)
    (witness : ∃ (w : World) (tape : Tape) (i : Input), w.os = os ∧ (w.forCall tape i).Shaped C.prog ∧ i.vars = [] ∧ Input.okWide C.prog (w.forCall tape i) .any w.heap.size f i ∧
      ((s.pre enc C.prog fn [] apart (w.forCall tape i).memory i.args ∧ X (w.forCall tape i).memory i.args) ∧ sizedMet enc C.prog fn (OpenSpec.ofChange s) apart (w.forCall tape i).memory i.args) ∧
        Assume.holds {} C.prog (lone (Frame.enter C.prog f i.args .normal) [] (w.forCall tape i)))
    (hty : tysFor C.prog tys fn.params.toList = true) (hrt : fn.resultTypes = #[tb]) (htb : C.prog.underlying tb = some .bool) (hvars : s.vars = [])
    (hs : ∀ ds : List (DataW H), ds.length = tys.length → s.fn H ds = { results := [.lit (.bool true)], args := ds })
    (law : ∀ xs, okEach tys xs → SPure C.prog f (avsOf tys xs) (B true))
    (hg : ∀ (W : World) args, W.ShapedOpen C.prog → X W args → GlobOK (fun _ => .no) W) :
    ReturnsInHanded {} C os f .any (fun w args => (s.pre enc C.prog fn [] apart w args ∧ X w args) ∧ sizedMet enc C.prog fn (OpenSpec.ofChange s) apart w args) (s.post enc C.prog fn apart fresh handsOn again) := by
  refine returnsInHanded_of_calls own started noInit witness ?_
  intro w tape i _ hsh _ hok hpre _
  obtain ⟨_, _, _, fn', hfn', _, _, _, _, hval⟩ := hok
  have e : fn' = fn := Option.some.inj (hfn'.symm.trans hfn)
  subst e
  obtain ⟨⟨⟨ds, gs, before, hw, hc⟩, hx⟩, hz⟩ := hpre
  have hw' := DataW.Whole.of_heap (w' := w.forCall tape i) (by rfl) hw
  refine (law_post (fresh := fresh) (handsOn := handsOn) (again := again) hty hrt htb hvars hs law (hg _ _ hsh (hX _ _ _ (by rfl) hx)) hval hw' (hz.weights hw)).mono fun e W' ⟨v, he, hp⟩ => ?_
  subst he
  exact ChangeSpec.post_blind hp

end
end Go.Al
