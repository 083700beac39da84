/- The law TreeKids. -/
import Derived.Test.YtobcdpmjaeflmaaDoorSubB
import Derived.Test.YtobcdpmjaeflmaaDoorPlainA
import Derived.Test.YtobcdpmjaeflmaaDoorSmallD
set_option pp.deepTerms false
set_option pp.deepTerms.threshold 9
set_option linter.unusedVariables false
set_option linter.unusedSimpArgs false
namespace Go.Proofs.Tryd
open Go Go.Al
set_option maxRecDepth 20000
set_option linter.unusedVariables false
theorem treeKids_ok (t : List Al.Node) (ht : okTree t) : SPure prog 5 [aTree t] (B true) := by
  have hp := Parents_ok t ht
  cases hlong : longS t with
  | true =>
    refine .run ttab_ok func5 rfl (by kernel_rfl) (by simp [f5]) rfl ?_
    conv => whnf
    repeat' first
      | (intro h; exfalso; revert h; simp; done)
      | (intro _; conv => whnf)
      | (apply And.intro <;> (conv => whnf))
      | (refine AllRow.of rfl ?_; conv => whnf)
      | (apply AllRow.map; intro _ _; conv => whnf)
      | (refine CallG.con call9 rfl (hlong ▸ long_ok t ht) ?_; conv => whnf)
      | (refine CallQG.con call9 rfl (hlong ▸ long_ok t ht) ?_; conv => whnf)
      | (refine CallG.con call8 rfl (small_ok) ?_; conv => whnf)
      | (refine CallQG.con call8 rfl (small_ok) ?_; conv => whnf)
      | exact ⟨rfl⟩
      | fail
    all_goals exact ⟨rfl⟩
  | false =>
    cases hc : checkS t with
    | false =>
      rw [hc] at hp
      simp only [Bool.false_eq_true, if_false] at hp
      refine .run ttab_ok func5 rfl (by kernel_rfl) (by simp [f5]) rfl ?_
      conv => whnf
      repeat' first
        | (intro h; exfalso; revert h; simp; done)
        | (intro _; conv => whnf)
        | (apply And.intro <;> (conv => whnf))
        | (refine AllRow.of rfl ?_; conv => whnf)
        | (apply AllRow.map; intro _ _; conv => whnf)
        | (refine CallG.con call9 rfl (hlong ▸ long_ok t ht) ?_; conv => whnf)
        | (refine CallQG.con call9 rfl (hlong ▸ long_ok t ht) ?_; conv => whnf)
        | (refine CallG.con call8 rfl (small_ok) ?_; conv => whnf)
        | (refine CallQG.con call8 rfl (small_ok) ?_; conv => whnf)
        | (refine CallG.eq call11 rfl (hp) ?_; conv => whnf)
        | exact ⟨rfl⟩
        | fail
      all_goals exact ⟨rfl⟩
    | true =>
      have hg := good_of hc
      have hl := hg.len
      have hm := hg.most
      have hu := hg.up
      have hsub := Sub_good t ht (t.length - 1) hc (by omega)
      rw [subS_last hg] at hsub
      have hsame := ptree_ok t t (by omega) (fun x hx => Nat.le_trans (ht.node x hx).len (by omega))
      rw [decide_eq_true rfl] at hsame
      rw [hc] at hp
      simp only [if_true] at hp
      refine .run ttab_ok func5 rfl (by kernel_rfl) (by simp [f5]) rfl ?_
      conv => whnf
      repeat' first
        | (intro _; conv => whnf)
        | (apply And.intro <;> (conv => whnf))
        | (refine AllRow.of rfl ?_; conv => whnf)
        | (apply AllRow.map; intro _ _; conv => whnf)
        | (refine CallG.con call9 rfl (hlong ▸ long_ok t ht) ?_; conv => whnf)
        | (refine CallQG.con call9 rfl (hlong ▸ long_ok t ht) ?_; conv => whnf)
        | (refine CallG.con call8 rfl (small_ok) ?_; conv => whnf)
        | (refine CallQG.con call8 rfl (small_ok) ?_; conv => whnf)
        | (refine CallG.eq call11 rfl (hp) ?_; conv => whnf)
        | exact ⟨rfl⟩
        | fail
      all_goals try simp only [List.length_map] at *
      all_goals try (exfalso; first | contradiction | omega)
      refine LoopG.of ttab_ok [1, 3, 31, 32, 33] [0] (fun (i : Nat) => ⟨[(1, .ptr 0 0 0), (3, .d (dInts (upS t))), (31, .d (dInts (upS t))), (32, I (upS t).length), (33, I i)], [.box [.d (dNodes t)]]⟩) (fun i => i ≤ t.length) (fun i => t.length - i) 0 (by kernel_rfl) (by simp) (by simp) (by simp) ?hs (by omega) ?_
      case hs =>
        first
          | (simp only [keepSt, keepE, Al.look, envOf, lend, ren, renL, renR, posOf, List.map_cons, List.map_nil]; done)
          | (simp only [keepSt, keepE, Al.look, envOf, lend, ren, renL, renR, posOf, List.map_cons, List.map_nil]; simp [I, S, B, U8, dI, dS, dB, dU8, dInts, dStrs, dNodes, ren, renL, renR, posOf, Al.look, envOf])
          | (simp [keepSt, keepE, lend, I, S, B, U8, dI, dS, dB, dU8, dInts, dStrs, dNodes, ren, renL, renR, posOf, Al.look, envOf])
      intro i hi
      by_cases hlt : i < t.length
      · obtain ⟨u, hui⟩ : ∃ u, (upS t)[i]? = some u := ⟨_, List.getElem?_eq_getElem (by omega)⟩
        have hrow : lat (List.map rI (upS t)) (i : Int).toNat = some (rI u) := by rw [lat_eq, List.getElem?_map, Int.toNat_natCast, hui]; rfl
        have hlast : i + 1 = t.length → u = -1 := fun e => by
          have := hg.upLast
          rw [show t.length - 1 = i by omega, hui] at this
          exact Option.some.inj this
        have hone : i + 1 < t.length → 0 ≤ u ∧ i < u := fun e => by
          have h1 := hg.upOne e hui
          refine ⟨h1, ?_⟩
          rcases hg.upKid hui with e | ⟨m, x, e, _, _, hlt⟩ <;> omega
        conv => whnf
        repeat' first
          | (refine AllRow.of hrow ?_; conv => whnf)
          | (intro _; conv => whnf)
          | (apply And.intro <;> (conv => whnf))
          | (refine AllRow.of rfl ?_; conv => whnf)
          | (apply AllRow.map; intro _ _; conv => whnf)
          | exact ⟨rfl⟩
          | fail
        all_goals try simp only [Int.toNat_natCast, List.length_map] at *
        all_goals try (refine Side.mk ?_; omega)
        all_goals try (exfalso; omega)
        all_goals
          refine RoundG.mk' (i + 1) (by simp) ?_ (by omega) (by omega)
          first
            | (simp only [keepSt, keepE, Al.look, envOf, lend, ren, renL, renR, posOf, List.map_cons, List.map_nil]; done)
            | (simp only [keepSt, keepE, Al.look, envOf, lend, ren, renL, renR, posOf, List.map_cons, List.map_nil]; simp [I, S, B, U8, dI, dS, dB, dU8, dInts, dStrs, dNodes, ren, renL, renR, posOf, Al.look, envOf])
            | (simp [keepSt, keepE, lend, I, S, B, U8, dI, dS, dB, dU8, dInts, dStrs, dNodes, ren, renL, renR, posOf, Al.look, envOf])
      · conv => whnf
        repeat' first
          | (intro _; conv => whnf)
          | (apply And.intro <;> (conv => whnf))
          | (refine AllRow.of rfl ?_; conv => whnf)
          | (apply AllRow.map; intro _ _; conv => whnf)
          | exact ⟨rfl⟩
          | fail
        all_goals try simp only [Int.toNat_natCast, List.length_map] at *
        all_goals try (exfalso; omega)
        all_goals try (refine Side.mk ?_; omega)
        refine CallG.at [aTree t, I ((t.length - 1 : Nat) : Int)] ?ha ?_
        case ha =>
          rw [show (t.length : Int) - 1 = ((t.length - 1 : Nat) : Int) by omega]
          rfl
        refine CallG.eq call12 rfl hsub ?_
        conv => whnf
        repeat' first
          | (intro _; conv => whnf)
          | (apply And.intro <;> (conv => whnf))
          | (refine AllRow.of rfl ?_; conv => whnf)
          | (apply AllRow.map; intro _ _; conv => whnf)
          | (refine CallG.con call13 rfl (hsame) ?_; conv => whnf)
          | (refine CallQG.con call13 rfl (hsame) ?_; conv => whnf)
          | (refine CallG.con call8 rfl (small_ok) ?_; conv => whnf)
          | (refine CallQG.con call8 rfl (small_ok) ?_; conv => whnf)
          | exact ⟨rfl⟩
          | fail
        all_goals try (exfalso; first | contradiction | omega)
        all_goals trace_state
end Go.Proofs.Tryd
