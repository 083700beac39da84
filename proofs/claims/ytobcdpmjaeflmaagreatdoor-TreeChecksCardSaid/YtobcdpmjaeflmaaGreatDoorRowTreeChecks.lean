/- Proved: for every tree that a call may be handed, patina/patinalaw13.TreeChecks gives true and leaves its argument as it was (the card TreeChecksCardSaid). Conditions: those that the given statement itself bears; none of its own. -/
import Derived.Test.YtobcdpmjaeflmaaGreatDoorRowG
import Derived.Test.YtobcdpmjaeflmaaGreatDoorRrE
import Derived.Test.YtobcdpmjaeflmaaGreatDoorTie
import Derived.Test.YtobcdpmjaeflmaaGreatDoorCards
import Derived.SevenTiedAt
set_option linter.unusedVariables false
set_option linter.unusedSimpArgs false
namespace Go.Proofs.YtobcdpmjaeflmaaGreatDoor
open Go Go.Al

theorem law_TreeChecks (xs : List Dat) (h : okEach [tTree] xs) : SPure Tryz.prog 3 (avsOf [tTree] xs) (B true) := by
  obtain ⟨x0, l, rfl, h0, h⟩ := each_read h
  obtain rfl := nil_read h
  obtain ⟨a0, e0, o0⟩ := tree_read h0
  simp only [avsOf, e0]
  exact Tryz.treeChecks_ok a0 o0

set_option maxRecDepth 100000 in
theorem lifted (os : Os) (started : os.Started) (H : Type) (enc : TypeId × Value → H) :
    ReturnsInHanded {} Tryz.checked os 3 .any (fun w args => (Rows.treeChecksSpec.pre enc Tryz.prog Tryz.f3 [] false w args ∧ laidMetH Tryz.prog laid w) ∧ sizedMet enc Tryz.prog Tryz.f3 (OpenSpec.ofChange Rows.treeChecksSpec) false w args)
      (Rows.treeChecksSpec.post enc Tryz.prog Tryz.f3 false true false false) :=
  returns_law (C := Tryz.checked) (X := fun w _ => laidMetH Tryz.prog laid w) (tys := [tTree]) (tb := 4) (fun _ _ _ hh h => h.of_heap hh) own started (by kernel_rfl) Tryz.func3
    (ChangeSpec.witness_shaped (enc := enc) (C := Tryz.checked) (os := os) (X := fun w _ => laidMetH Tryz.prog laid w) false (World.laidAll Tryz.prog os laid) #[.agg #[.slice none 0 0]] 8 (World.laidAll_os _ _ _)
      (World.shaped_of_ZipB (by kernel_rfl) (by kernel_rfl)) (by kernel_rfl) (by kernel_rfl) (by kernel_rfl)
      (by rw [MakeChecks.laidMetH_plain _ _ _ (by kernel_rfl)]; exact laidMet_laidAll _ (by kernel_rfl) (by kernel_rfl)))
    (by kernel_rfl) (by kernel_rfl) (by kernel_rfl) rfl (fun ds hd => by match ds, hd with | [_], _ => rfl) law_TreeChecks (fun _ _ hs h => globOK_of hs h)

theorem row_holds : Rows.TreeChecksSaid :=
  OpenClaim.holds_of_wide 3 Tryz.f3 rfl rfl rfl rfl rfl rfl rfl ⟨rfl, rfl, rfl, rfl, rfl⟩ rfl rfl rfl rfl rfl (by kernel_rfl) Tryz.func3 (by kernel_rfl)
    (of_decide_eq_true (by kernel_rfl)) (by unfold Func.isWrapper; rw [if_neg (of_decide_eq_false (by kernel_rfl))]; exact ⟨rfl, rfl⟩)
    (fun os started H enc _ => lifted os started H enc)

theorem card_holds : Rows.TreeChecksCardSaid :=
  Claim7.holds_tied_plain_at .later [] [.data, .data, .data] true (true, "6abfdbef9a9a88e9cec3ca168bff37ecc15d1df6ffc8f125e6fd2131b1404715") false
    row_holds (fun _ h => by cases h) (by kernel_rfl) (fun _ h => by cases h) treeChecks_row_tie rfl ⟨rfl, rfl⟩ (by kernel_rfl) rfl
    (fun f fn hf hfn => by
      obtain rfl : f = 3 := Option.some.inj ((show Tryz.prog.funcNamed "patina/patinalaw13.TreeChecks" = some 3 by kernel_rfl).symm.trans hf) |>.symm
      obtain rfl : fn = Tryz.f3 := (Option.some.inj (Tryz.func3.symm.trans hfn)).symm
      exact ⟨by kernel_rfl, fun j t ht => by
        rw [Tryz.params3] at ht
        rcases j with _ | j
        · simp at ht; subst ht; exact (show Tryz.prog.wantsStandIn 24 = false by kernel_rfl)
        · simp at ht⟩)
    (by kernel_rfl)
#print axioms card_holds
end Go.Proofs.YtobcdpmjaeflmaaGreatDoor
