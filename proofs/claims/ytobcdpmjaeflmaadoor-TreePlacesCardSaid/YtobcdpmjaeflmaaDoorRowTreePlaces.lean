/- Proved: for every tree and number that a call may be handed, patina/patinalaw13.TreePlaces gives true and leaves its arguments as they were (the card TreePlacesCardSaid). Conditions: those that the given statement itself bears; none of its own. -/
import Derived.Test.YtobcdpmjaeflmaaDoorRowG
import Derived.Test.YtobcdpmjaeflmaaDoorPlaceD
import Derived.Test.YtobcdpmjaeflmaaDoorTie
import Derived.Test.YtobcdpmjaeflmaaDoorCards
import Derived.SevenTiedAt
set_option pp.deepTerms false
set_option pp.deepTerms.threshold 9
set_option linter.unusedVariables false
set_option linter.unusedSimpArgs false
namespace Go.Proofs.YtobcdpmjaeflmaaDoor
open Go Go.Al

theorem law_TreePlaces (xs : List Dat) (h : okEach [tTree, .int .i64] xs) : SPure Tryd.prog 4 (avsOf [tTree, .int .i64] xs) (B true) := by
  obtain ⟨x0, l, rfl, h0, h⟩ := each_read h
  obtain ⟨x1, l, rfl, h1, h⟩ := each_read h
  obtain rfl := nil_read h
  obtain ⟨a0, e0, o0⟩ := tree_read h0
  obtain ⟨a1, rfl, o1⟩ := int_read h1
  simp only [avsOf, e0]
  exact Tryd.treePlaces_ok a0 o0 a1 o1

set_option maxRecDepth 100000 in
theorem lifted (os : Os) (started : os.Started) (H : Type) (enc : TypeId × Value → H) :
    ReturnsInHanded {} Tryd.checked os 4 .any (fun w args => (Rows.treePlacesSpec.pre enc Tryd.prog Tryd.f4 [] false w args ∧ laidMetH Tryd.prog laid w) ∧ sizedMet enc Tryd.prog Tryd.f4 (OpenSpec.ofChange Rows.treePlacesSpec) false w args)
      (Rows.treePlacesSpec.post enc Tryd.prog Tryd.f4 false true false false) :=
  returns_law (C := Tryd.checked) (X := fun w _ => laidMetH Tryd.prog laid w) (tys := [tTree, .int .i64]) (tb := 4) (fun _ _ _ hh h => h.of_heap hh) own started (by kernel_rfl) Tryd.func4
    (ChangeSpec.witness_shaped (enc := enc) (C := Tryd.checked) (os := os) (X := fun w _ => laidMetH Tryd.prog laid w) false (World.laidAll Tryd.prog os laid) #[.agg #[.slice none 0 0], .int .i64 0] 8 (World.laidAll_os _ _ _)
      (World.shaped_of_ZipB (by kernel_rfl) (by kernel_rfl)) (by kernel_rfl) (by kernel_rfl) (by kernel_rfl)
      (by rw [MakeChecks.laidMetH_plain _ _ _ (by kernel_rfl)]; exact laidMet_laidAll _ (by kernel_rfl) (by kernel_rfl)))
    (by kernel_rfl) (by kernel_rfl) (by kernel_rfl) rfl (fun ds hd => by match ds, hd with | [_, _], _ => rfl) law_TreePlaces (fun _ _ hs h => globOK_of hs h)

theorem row_holds : Rows.TreePlacesSaid :=
  OpenClaim.holds_of_wide 4 Tryd.f4 rfl rfl rfl rfl rfl rfl rfl ⟨rfl, rfl, rfl, rfl, rfl⟩ rfl rfl rfl rfl rfl (by kernel_rfl) Tryd.func4 (by kernel_rfl)
    (of_decide_eq_true (by kernel_rfl)) (by unfold Func.isWrapper; rw [if_neg (of_decide_eq_false (by kernel_rfl))]; exact ⟨rfl, rfl⟩)
    (fun os started H enc _ => lifted os started H enc)

theorem card_holds : Rows.TreePlacesCardSaid :=
  Claim7.holds_tied_plain_at .later [] [.data, .data, .data] true (true, "b2dda8220d221bc51f6b76375cf48cd59a9d879a4dab120ffc500f0b477bea68") false
    row_holds (fun _ h => by cases h) (by kernel_rfl) (fun _ h => by cases h) treePlaces_row_tie rfl ⟨rfl, rfl⟩ (by kernel_rfl) rfl
    (fun f fn hf hfn => by
      obtain rfl : f = 4 := Option.some.inj ((show Tryd.prog.funcNamed "patina/patinalaw13.TreePlaces" = some 4 by kernel_rfl).symm.trans hf) |>.symm
      obtain rfl : fn = Tryd.f4 := (Option.some.inj (Tryd.func4.symm.trans hfn)).symm
      exact ⟨by kernel_rfl, fun j t ht => by
        rw [Tryd.params4] at ht
        rcases j with _ | _ | j
        · simp at ht; subst ht; exact (show Tryd.prog.wantsStandIn 24 = false by kernel_rfl)
        · simp at ht; subst ht; exact (show Tryd.prog.wantsStandIn 3 = false by kernel_rfl)
        · simp at ht⟩)
    (by kernel_rfl)
#print axioms card_holds
end Go.Proofs.YtobcdpmjaeflmaaDoor
