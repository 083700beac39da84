/- Proved: for every two trees that a call may be handed, patina/patinalaw13.TreeSames gives true and leaves its arguments as they were (the card TreeSamesCardSaid). Conditions: those that the given statement itself bears; none of its own. -/
import Derived.Test.YtobcdpmjaeflmaaDoorRowG
import Derived.Test.YtobcdpmjaeflmaaDoorSmallD
import Derived.Test.YtobcdpmjaeflmaaDoorSameD
import Derived.Test.YtobcdpmjaeflmaaDoorTie
import Derived.Test.YtobcdpmjaeflmaaDoorCards
import Derived.SevenTiedAt
set_option linter.unusedVariables false
set_option linter.unusedSimpArgs false
namespace Go.Proofs.YtobcdpmjaeflmaaDoor
open Go Go.Al

theorem law_TreeSames (xs : List Dat) (h : okEach [tTree, tTree] xs) : SPure Tryd.prog 3 (avsOf [tTree, tTree] xs) (B true) := by
  obtain ⟨x, l, rfl, h1, h⟩ := each_read h
  obtain ⟨y, l, rfl, h2, h⟩ := each_read h
  obtain rfl := nil_read h
  obtain ⟨a, ea, oa⟩ := tree_read h1
  obtain ⟨b, eb, ob⟩ := tree_read h2
  have ha := oa.len
  simp only [avsOf, ea, eb]
  exact Tryd.treeSames_ok Tryd.small_ok a b (by omega) fun x hx => by
    have := (oa.node x hx).len
    show x.kids.length ≤ 140737488355328
    omega

set_option maxRecDepth 100000 in
theorem lifted (os : Os) (started : os.Started) (H : Type) (enc : TypeId × Value → H) :
    ReturnsInHanded {} Tryd.checked os 3 .any (fun w args => (Rows.treeSamesSpec.pre enc Tryd.prog Tryd.f3 [] false w args ∧ laidMetH Tryd.prog laid w) ∧ sizedMet enc Tryd.prog Tryd.f3 (OpenSpec.ofChange Rows.treeSamesSpec) false w args)
      (Rows.treeSamesSpec.post enc Tryd.prog Tryd.f3 false true false false) :=
  returns_law (C := Tryd.checked) (X := fun w _ => laidMetH Tryd.prog laid w) (tys := [tTree, tTree]) (tb := 4) (fun _ _ _ hh h => h.of_heap hh) own started (by kernel_rfl) Tryd.func3
    (ChangeSpec.witness_shaped (enc := enc) (C := Tryd.checked) (os := os) (X := fun w _ => laidMetH Tryd.prog laid w) false (World.laidAll Tryd.prog os laid) #[.agg #[.slice none 0 0], .agg #[.slice none 0 0]] 8 (World.laidAll_os _ _ _)
      (World.shaped_of_ZipB (by kernel_rfl) (by kernel_rfl)) (by kernel_rfl) (by kernel_rfl) (by kernel_rfl)
      (by rw [MakeChecks.laidMetH_plain _ _ _ (by kernel_rfl)]; exact laidMet_laidAll _ (by kernel_rfl) (by kernel_rfl)))
    (by kernel_rfl) (by kernel_rfl) (by kernel_rfl) rfl (fun ds hd => by match ds, hd with | [_, _], _ => rfl) law_TreeSames (fun _ _ hs h => globOK_of hs h)

theorem row_holds : Rows.TreeSamesSaid :=
  OpenClaim.holds_of_wide 3 Tryd.f3 rfl rfl rfl rfl rfl rfl rfl ⟨rfl, rfl, rfl, rfl, rfl⟩ rfl rfl rfl rfl rfl (by kernel_rfl) Tryd.func3 (by kernel_rfl)
    (of_decide_eq_true (by kernel_rfl)) (by unfold Func.isWrapper; rw [if_neg (of_decide_eq_false (by kernel_rfl))]; exact ⟨rfl, rfl⟩)
    (fun os started H enc _ => lifted os started H enc)

theorem card_holds : Rows.TreeSamesCardSaid :=
  Claim7.holds_tied_plain_at .later [] [.data, .data, .data] true (true, "b2dda8220d221bc51f6b76375cf48cd59a9d879a4dab120ffc500f0b477bea68") false
    row_holds (fun _ h => by cases h) (by kernel_rfl) (fun _ h => by cases h) treeSames_row_tie rfl ⟨rfl, rfl⟩ (by kernel_rfl) rfl
    (fun f fn hf hfn => by
      obtain rfl : f = 3 := Option.some.inj ((show Tryd.prog.funcNamed "patina/patinalaw13.TreeSames" = some 3 by kernel_rfl).symm.trans hf) |>.symm
      obtain rfl : fn = Tryd.f3 := (Option.some.inj (Tryd.func3.symm.trans hfn)).symm
      exact ⟨by kernel_rfl, fun j t ht => by
        rw [Tryd.params3] at ht
        rcases j with _ | _ | j <;> simp at ht
        all_goals subst ht; exact (show Tryd.prog.wantsStandIn 24 = false by kernel_rfl)⟩)
    (by kernel_rfl)
#print axioms card_holds
end Go.Proofs.YtobcdpmjaeflmaaDoor
