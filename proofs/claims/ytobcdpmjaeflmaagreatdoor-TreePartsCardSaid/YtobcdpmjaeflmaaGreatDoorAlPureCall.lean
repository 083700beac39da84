/- Al: calls of functions that need none of the caller's roots. -/
import Derived.Test.YtobcdpmjaeflmaaGreatDoorAlCall
set_option linter.unusedVariables false
set_option linter.unusedSimpArgs false
namespace Go.Al
variable {P : Program} {n : Nat} {p : Nat → Prop} {st : St}

mutual
/-- A value whose arrays are never written again from here on. -/
def fz : AV → List Root → Option (AV × List Root)
  | .d x, R => some (.d x, R)
  | .vs r off len, R => (asD (.vs r off len) R).map fun x => (.d x.1, x.2)
  | .fptr row off, R => some (.fptr row off, R)
  | .agg cs, R => (fzL cs R).map fun x => (.agg x.1, x.2)
  | .tup cs, R => (fzL cs R).map fun x => (.tup x.1, x.2)
  | .fn f cs, R => (fzL cs R).map fun x => (.fn f x.1, x.2)
  | _, _ => none
def fzL : List AV → List Root → Option (List AV × List Root)
  | [], R => some ([], R)
  | c :: cs, R => (fz c R).bind fun x => (fzL cs x.2).map fun y => (x.1 :: y.1, y.2)
end

mutual
theorem fz_rel : ∀ (a : AV) (R : List Root) (x : AV) (R' : List Root), fz a R = some (x, R') → ∀ (M : Mem) (β : Where) (w : World), Holds M β R w →
    ∃ M', More M β R M' R' w ∧ ∀ v β', RelV M β a v → RelV M' β' x v
  | .d y, R, x, R', h, M, β, w, hh => by
    simp only [fz, Option.some.injEq, Prod.mk.injEq] at h
    obtain ⟨rfl, rfl⟩ := h
    exact ⟨M, More.refl hh, fun v β' hv => by cases hv; exact .d _ _ (by assumption)⟩
  | .vs r off len, R, x, R', h, M, β, w, hh => by
    simp only [fz, Option.map_eq_some_iff, Prod.mk.injEq] at h
    obtain ⟨⟨d, R1⟩, h1, rfl, rfl⟩ := h
    obtain ⟨M', hm, hv⟩ := asD_rel _ _ _ _ h1 M β w hh
    exact ⟨M', hm, fun v β' hv' => .d _ _ (hv v hv')⟩
  | .fptr row off, R, x, R', h, M, β, w, hh => by
    simp only [fz, Option.some.injEq, Prod.mk.injEq] at h
    obtain ⟨rfl, rfl⟩ := h
    refine ⟨M, More.refl hh, fun v β' hv => ?_⟩
    cases hv with
    | fptr _ _ b o f hM hR => exact .fptr row off b o f hM hR
  | .agg cs, R, x, R', h, M, β, w, hh => by
    simp only [fz, Option.map_eq_some_iff, Prod.mk.injEq] at h
    obtain ⟨⟨ds, R1⟩, h1, rfl, rfl⟩ := h
    obtain ⟨M', hm, hl, hv⟩ := fzL_rel cs R ds R1 h1 M β w hh
    refine ⟨M', hm, ?_⟩
    intro v β' hv'
    cases hv' with
    | agg _ vs hlen hR =>
      refine .agg ds vs (hl.symm.trans hlen) ?_
      intro i c x h1 h2
      have hi : i < cs.length := by rw [hl]; exact (List.getElem?_eq_some_iff.1 h1).1
      exact hv i _ c x β' (List.getElem?_eq_getElem hi) h1 (hR i _ x (List.getElem?_eq_getElem hi) h2)
  | .tup cs, R, x, R', h, M, β, w, hh => by
    simp only [fz, Option.map_eq_some_iff, Prod.mk.injEq] at h
    obtain ⟨⟨ds, R1⟩, h1, rfl, rfl⟩ := h
    obtain ⟨M', hm, hl, hv⟩ := fzL_rel cs R ds R1 h1 M β w hh
    refine ⟨M', hm, ?_⟩
    intro v β' hv'
    cases hv' with
    | tup _ vs hlen hR =>
      refine .tup ds vs (hl.symm.trans hlen) ?_
      intro i c x h1 h2
      have hi : i < cs.length := by rw [hl]; exact (List.getElem?_eq_some_iff.1 h1).1
      exact hv i _ c x β' (List.getElem?_eq_getElem hi) h1 (hR i _ x (List.getElem?_eq_getElem hi) h2)
  | .fn g cs, R, x, R', h, M, β, w, hh => by
    simp only [fz, Option.map_eq_some_iff, Prod.mk.injEq] at h
    obtain ⟨⟨ds, R1⟩, h1, rfl, rfl⟩ := h
    obtain ⟨M', hm, hl, hv⟩ := fzL_rel cs R ds R1 h1 M β w hh
    refine ⟨M', hm, ?_⟩
    intro v β' hv'
    cases hv' with
    | fn _ _ vs hlen hR =>
      refine .fn g ds vs (hl.symm.trans hlen) ?_
      intro i c x h1 h2
      have hi : i < cs.length := by rw [hl]; exact (List.getElem?_eq_some_iff.1 h1).1
      exact hv i _ c x β' (List.getElem?_eq_getElem hi) h1 (hR i _ x (List.getElem?_eq_getElem hi) h2)
  | .ptr .., _, _, _, h, _, _, _, _ => by simp [fz] at h
  | .gd .., _, _, _, h, _, _, _, _ => by simp [fz] at h
  | .mp .., _, _, _, h, _, _, _, _ => by simp [fz] at h
theorem fzL_rel : ∀ (cs : List AV) (R : List Root) (ds : List AV) (R' : List Root), fzL cs R = some (ds, R') → ∀ (M : Mem) (β : Where) (w : World), Holds M β R w →
    ∃ M', More M β R M' R' w ∧ cs.length = ds.length ∧ ∀ (i : Nat) c d v β', cs[i]? = some c → ds[i]? = some d → RelV M β c v → RelV M' β' d v
  | [], R, ds, R', h, M, β, w, hh => by
    simp only [fzL, Option.some.injEq, Prod.mk.injEq] at h
    obtain ⟨rfl, rfl⟩ := h
    exact ⟨M, More.refl hh, rfl, by simp⟩
  | c :: cs, R, ds, R', h, M, β, w, hh => by
    simp only [fzL, Option.bind_eq_some_iff, Option.map_eq_some_iff, Prod.mk.injEq] at h
    obtain ⟨⟨x, R1⟩, h1, ⟨ys, R2⟩, h2, rfl, rfl⟩ := h
    obtain ⟨M1, hm1, hv1⟩ := fz_rel c R x R1 h1 M β w hh
    obtain ⟨M2, hm2, hl, hv2⟩ := fzL_rel cs R1 ys R2 h2 M1 β w hm1.holds
    refine ⟨M2, hm1.trans hm2, by simp [hl], ?_⟩
    intro i c' d v β' hc hd hv
    cases i with
    | zero =>
      simp at hc hd
      subst hc; subst hd
      have := hv1 v (fun _ => .no) hv
      exact this.mono hm2.le (fun r hr => absurd rfl hr)
    | succ i =>
      simp at hc hd
      exact hv2 i c' d v β' hc hd (hv.mono hm1.le (fun _ _ => rfl))
end

/-- A call that needs none of the caller's roots: its arguments are frozen. -/
theorem SOps.call_pure {ops : Array Oper} {rest : List Oper} {K : St → Prop} {g : Operand} {xs : Array Operand} {ats : Array TypeId} {dst : Option Tmp} {ty : TypeId} {pos : String} {after : Array Edge}
    (hd : ∀ t, dst = some t → t < n) (f : FuncId) (caps : List AV) (hg : ev st g = .fn f caps) (hcall : ∀ (vs : Array Value) (w : World), (callFunc f vs).run P w = .ok (.enter f vs) w)
    (args : List AV) (R' : List Root) (hfz : fzL (xs.toList.map (ev st) ++ caps) st.roots = some (args, R'))
    (h : SCall P f args [] fun x roots' => roots' = [] ∧ SOps P n p ops rest K (put { st with roots := R' } dst x)) :
    SOps P n p ops (⟨dst, .call ⟨.value g, xs, ats⟩, ty, pos, after, none⟩ :: rest) K st := by
  intro M β a w hr Q' hQ
  have hgv : ∃ cv, a.eval g = .func (.func f) #[] cv ∧ RelC M β caps cv := by
    have h1 := ev_rel hr g
    rw [hg] at h1
    generalize a.eval g = u at h1
    cases h1 with
    | fn _ _ cv hl hR => exact ⟨cv, rfl, hl, hR⟩
  obtain ⟨cv, hcv, hcr⟩ := hgv
  have hargs : RelC M β (xs.toList.map (ev st) ++ caps) (xs.map a.eval ++ cv) := by
    refine ⟨by simp [hcr.1], ?_⟩
    intro i c x h1 h2
    by_cases hi : i < xs.size
    · rw [List.getElem?_append_left (by simpa using hi)] at h1
      rw [Array.getElem?_append_left (by simpa using hi)] at h2
      simp only [List.getElem?_map, Option.map_eq_some_iff, Array.getElem?_toList, Array.getElem?_map] at h1 h2
      obtain ⟨q, hq, rfl⟩ := h1
      obtain ⟨q', hq', rfl⟩ := h2
      rw [hq] at hq'
      cases hq'
      exact ev_rel hr q
    · rw [List.getElem?_append_right (by simpa using hi)] at h1
      rw [Array.getElem?_append_right (by simpa using hi)] at h2
      simp only [List.length_map, Array.length_toList, Array.size_map] at h1 h2
      exact hcr.2 _ c x h1 h2
  obtain ⟨M1, hmore, hl1, hv1⟩ := fzL_rel _ _ _ _ hfz M β w hr.holds
  have hr1 := More.rel hr hmore
  have hh0 : Holds M1 (fun _ => Slot.no) [] w := ⟨hmore.holds.frozen, by simp, (by intro _ _ _ _ h; cases h), (by intro _ _ h; cases h), (by intro _ h; exact absurd rfl h), ⟨hmore.holds.glob.ok, hmore.holds.glob.low, fun _ _ h => by cases h⟩⟩
  have hc := h M1 (fun _ => Slot.no) _ w ⟨hl1.symm.trans hargs.1, fun i c x h1 h2 => by
    have hi : i < (xs.toList.map (ev st) ++ caps).length := by rw [hl1]; exact (List.getElem?_eq_some_iff.1 h1).1
    exact hv1 i _ c x _ (List.getElem?_eq_getElem hi) h1 (hargs.2 i _ x (List.getElem?_eq_getElem hi) h2)⟩ hh0
  refine wpList_plain rfl fun K' hK => ?_
  unfold Oper.wp
  have hrun : (execOp a.eval ⟨dst, .call ⟨.value g, xs, ats⟩, ty, pos, after, none⟩).run P w = .ok (.enter f (xs.map a.eval ++ cv)) w := by
    simp [execOp, resolve, hcv, Deferred.ofValue, invoke, hcall]
  rw [hrun]
  refine hc.mono ?_
  rintro e w' ⟨v, x, roots', M', β', rfl, ⟨rfl, hK'⟩, hx, hh', hl⟩
  have hno : ∀ r, β' r = .no := by
    intro r
    cases hs : β' r with
    | no => rfl
    | _ => exact absurd (hh'.scope r (by rw [hs]; simp)) (by simp)
  have hsame : ∀ b, b < w.heap.size → w'.heap[b]? = w.heap[b]? ∧ ∀ o, M' b o = M1 b o := fun b hb => hl.same b hb (by intro r l h; cases h)
  have hext : Ext w w' := ⟨hl.size, fun b hb => (hsame b hb).1, hl.stream⟩
  have hh1 := hmore.holds.ext hext
  have hrel' : Rel n M' β { st with roots := R' } a w' := by
    refine ⟨hr.size, hr.defers, fun t => (hr1.env t).mono hl.mem (fun _ _ => rfl), ⟨hh'.frozen, ?_, hh1.inj, hh1.low, hh1.scope, hh1.glob⟩⟩
    intro q root hq
    have h1 := hh1.root q root hq
    generalize hs : β q = s at h1
    cases h1 with
    | dead => exact .dead _
    | virt sz lim => exact .virt sz lim
    | box b cs vals T hw hlen hM hR => exact .box b cs vals T hw hlen (fun o => ((hsame b (hmore.holds.low q _ hs)).2 o).trans (hM o)) (fun i c x h1 h2 => (hR i c x h1 h2).mono hl.mem (fun _ _ => rfl))
    | arr b o sz cap lim rows vals T hw hcap hsize hrow hM hR => exact .arr b o sz cap lim rows vals T hw hcap hsize hrow (fun k hk => ((hsame b (hmore.holds.low q _ hs)).2 k).trans (hM k hk)) (fun i row j c x h1 h2 h3 => (hR i row j c x h1 h2 h3).mono hl.mem)
    | map b mk es arr clock hw hlen hM hR => exact .map b mk es arr clock hw hlen (fun o => ((hsame b (hmore.holds.low q _ hs)).2 o).trans (hM o)) (fun i e x h1 h2 => ⟨(hR i e x h1 h2).1, (hR i e x h1 h2).2.1, (hR i e x h1 h2).2.2.mono hl.mem⟩)
  have hlater : Later p M β w M' β w' := hmore.later.trans ⟨hl.mem, hl.size, fun b hb _ => hsame b hb, fun r l h => .inl ⟨r, l, h, rfl⟩, fun _ _ _ => rfl, hl.stream⟩
  have hx' : RelV M' β x v := hx.mono (fun _ _ _ h => h) (fun r hr => absurd (hno r) hr)
  exact hK _ _ (hK' M' _ _ w' (hrel'.put dst hd hx') Q' fun st2 M2 β2 a2 w2 q r l => hQ st2 M2 β2 a2 w2 q r (hlater.trans l))

end Go.Al
