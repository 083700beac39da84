/- Al: what was read is read again, whatever spare places are asked. -/
import Derived.Test.YtobcdpmjaeflmaaGreatDoorAlRead
import Derived.ChangeOld
import Derived.ChangeReads
set_option linter.unusedVariables false
set_option linter.unusedSimpArgs false
namespace Go.Al
open Go.WideShapes
variable {H : Type} {enc : TypeId × Value → H} {P : Program} {W : World} {base : Nat} {held : Bool}

theorem keep_fields {sp : Nat → Bool} (fuel : Nat) (cs : List Value) (ih : ∀ (ty : Ty) (t : TypeId) (cs : List Value) (x : DataW H × List MemPlace), tyIs P ty t = true → DataW.trod enc P W base (fun _ => true) held fuel t cs = some x →
      (∀ p, p ∈ x.2 → sp p.block = true) → DataW.trod enc P W base sp held fuel t cs = some x) :
    ∀ (ts : List Ty) (fs : List Field) (off : Nat) (xs : List (DataW H × List MemPlace)), tysAre P off ts fs = true →
      fs.mapM (fun f => DataW.trod enc P W base (fun _ => true) held fuel f.type ((cs.drop f.offset).take (P.cellsOf f.type))) = some xs → (∀ x, x ∈ xs → ∀ p, p ∈ x.2 → sp p.block = true) →
      fs.mapM (fun f => DataW.trod enc P W base sp held fuel f.type ((cs.drop f.offset).take (P.cellsOf f.type))) = some xs
  | [], [], _, xs, _, h, _ => h
  | [], _ :: _, _, _, h, _, _ => by simp [tysAre] at h
  | _ :: _, [], _, _, h, _, _ => by simp [tysAre] at h
  | t :: ts, f :: fs, off, xs, h, hm, hp => by
    simp only [tysAre, Bool.and_eq_true, decide_eq_true_eq] at h
    simp only [List.mapM_cons, Option.bind_eq_bind, Option.bind_eq_some_iff, Option.pure_def, Option.some.injEq] at hm ⊢
    obtain ⟨x, hd, xs', hxs, rfl⟩ := hm
    exact ⟨x, ih t f.type _ x h.1.2 hd (hp x (by simp)), xs', keep_fields fuel cs ih ts fs _ xs' h.2 hxs (fun y hy => hp y (by simp [hy])), rfl⟩

theorem keep {sp : Nat → Bool} : ∀ (fuel : Nat) (ty : Ty) (t : TypeId) (cs : List Value) (x : DataW H × List MemPlace), tyIs P ty t = true → DataW.trod enc P W base (fun _ => true) held fuel t cs = some x →
    (∀ p, p ∈ x.2 → sp p.block = true) → DataW.trod enc P W base sp held fuel t cs = some x
  | 0, _, _, _, _, _, h, _ => by simp [DataW.trod] at h
  | fuel + 1, ty, t, cs, x, ht, h, hp => by
    cases ty with
    | int k =>
      simp only [tyIs] at ht
      split at ht <;> try (cases ht; done)
      rename_i k' hu
      obtain ⟨n, rfl, rfl, hwf⟩ := DataW.trod_int hu h
      rw [DataW.trod.eq_def]
      simp only [hu, hwf, and_self, if_true]
    | bool =>
      simp only [tyIs] at ht
      split at ht <;> try (cases ht; done)
      rename_i hu
      obtain ⟨b, rfl, rfl⟩ := DataW.trod_bool hu h
      rw [DataW.trod.eq_def]
      simp only [hu]
    | str =>
      simp only [tyIs] at ht
      split at ht <;> try (cases ht; done)
      rename_i hu
      obtain ⟨s, rfl, rfl, hs⟩ := DataW.trod_string hu h
      rw [DataW.trod.eq_def]
      simp only [hu, hs, if_true]
    | slice e bytes =>
      simp only [tyIs] at ht
      split at ht <;> try (cases ht; done)
      rename_i e' hu
      simp only [Bool.and_eq_true, decide_eq_true_eq] at ht
      obtain ⟨⟨⟨hc, hpos⟩, hb⟩, hte⟩ := ht
      rcases DataW.trod_slice hu h with ⟨rfl, rfl⟩ | ⟨a, len, cap, elems, rest, n, hn, rfl, hx, hba, hlc, hcm, hel, hel2, hsp, _⟩
      · rw [DataW.trod.eq_def]
        simp only [hu]
      · obtain rfl : fuel = n := by omega
        subst hx
        rw [DataW.trod.eq_def] at h ⊢
        simp only [hu, hba, hlc, hcm, and_self, if_true] at h ⊢
        obtain ⟨el, h1, h2⟩ := Option.bind_eq_some_iff.1 h
        obtain ⟨re, h3, h4⟩ := Option.map_eq_some_iff.1 h2
        have hall : ∀ y, y ∈ el ++ re → ∀ p, p ∈ y.2 → sp p.block = true := by
          intro y hy p hpy
          have h5 := congrArg Prod.snd h4
          simp only at h5
          refine hp p ?_
          simp only
          rw [← h5]
          exact List.mem_append_right _ (List.mem_flatMap.2 ⟨y, hy, hpy⟩)
        have step : ∀ (i : Nat) (y : DataW H × List MemPlace), y ∈ el ++ re → (w : (W.cells? base (a.add (i * P.cellsOf e')) (P.cellsOf e')).bind (DataW.trod enc P W base (fun _ => true) held fuel e') = some y) →
            (W.cells? base (a.add (i * P.cellsOf e')) (P.cellsOf e')).bind (DataW.trod enc P W base sp held fuel e') = some y := by
          intro i y hy hw
          obtain ⟨vs, hvs, htr⟩ := Option.bind_eq_some_iff.1 hw
          exact Option.bind_eq_some_iff.2 ⟨vs, hvs, keep fuel e e' vs y hte htr (hall y hy)⟩
        have e1 := mapM_carry h1 fun i y _ hy hw => step i y (List.mem_append_left _ hy) hw
        rw [e1]
        simp only [Option.bind_some]
        rw [← h4]
        cases hs : sp a.block with
        | true =>
          have e2 := mapM_carry h3 fun i y _ hy hw => step (len + i) y (List.mem_append_right _ hy) hw
          simp only [if_true]
          rw [e2]
          rfl
        | false =>
          have hre : re.length = cap - len := by simpa using (mapM_spec h3).1
          have hel' : el.length = len := by simpa using (mapM_spec h1).1
          have h0 : re = [] := by
            rcases Nat.eq_zero_or_pos (cap - len) with h0 | h0
            · exact List.length_eq_zero_iff.1 (hre.trans h0)
            · exfalso
              have h5 := congrArg Prod.snd h4
              simp only at h5
              have := hp (.cell a.block a.off) (by
                simp only
                rw [← h5]
                refine List.mem_append_left _ (MemPlace.mem_row.2 ⟨0, ?_, rfl⟩)
                rw [hc]
                exact Nat.mul_pos (by omega) hpos)
              simp only [MemPlace.block] at this
              rw [hs] at this
              cases this
          subst h0
          simp
    | struct ts =>
      simp only [tyIs] at ht
      split at ht <;> try (cases ht; done)
      rename_i fs hu
      simp only [Bool.and_eq_true, decide_eq_true_eq] at ht
      obtain ⟨xs, n, hn, hx, hcl, hxl, hall⟩ := DataW.trod_struct hu h
      obtain rfl : fuel = n := by omega
      rw [DataW.trod.eq_def] at h ⊢
      simp only [hu, hcl, if_true] at h ⊢
      obtain ⟨ys, h1, h2⟩ := Option.map_eq_some_iff.1 h
      refine Option.map_eq_some_iff.2 ⟨ys, keep_fields fuel cs (keep fuel) ts fs.toList 0 ys ht.2 h1 (fun y hy p hpy => hp p ?_), h2⟩
      rw [← h2]
      exact List.mem_flatMap.2 ⟨y, hy, hpy⟩
end Go.Al
