/- The law TreeChecks. -/
import Derived.Test.YtobcdpmjaeflmaaGreatDoorRrD
import Derived.Test.YtobcdpmjaeflmaaGreatDoorPrF
set_option linter.unusedVariables false
set_option linter.unusedSimpArgs false
namespace Go.Proofs.Tryz
open Go Go.Al
set_option maxRecDepth 20000
set_option linter.unusedVariables false
theorem putAll_tail : ∀ (s : Bytes) (ts : List Bytes), s ≠ [] → putAll s ts = s ++ Lib.joinTail [32] ts
  | s, [], _ => by simp [putAll, Lib.joinTail]
  | s, x :: ts, h => by
    show putAll (putOne s x) ts = _
    have e : putOne s x = s ++ 32 :: x := by unfold putOne; rw [if_neg h]
    rw [e, putAll_tail _ ts (by simp)]
    simp [Lib.joinTail]
theorem putAll_join {x : Bytes} {ts : List Bytes} (h : x ≠ []) : putAll [] (x :: ts) = Lib.join (x :: ts) [32] := by
  show putAll (putOne [] x) ts = _
  have e : putOne [] x = x := by unfold putOne; rw [if_pos rfl]
  rw [e, putAll_tail x ts h, Lib.join_cons]
theorem Good.root {t : List Al.Node} (h : Good t) : putAll [] (toksT t) = printT t := by
  have hl := h.len
  unfold printT toksT
  obtain ⟨x, hx⟩ : ∃ x, t[t.length - 1]? = some x := ⟨_, List.getElem?_eq_getElem (by omega)⟩
  have hk : x.kind = 1 := by
    have := h.last
    rw [kindAt_eq (y := x) (by rw [show ((t.length : Int) - 1).toNat = t.length - 1 by omega]; exact hx)] at this
    exact this
  obtain ⟨f, hf⟩ : ∃ f, t.length = f + 1 := ⟨t.length - 1, by omega⟩
  have hfx : t[((t.length - 1 : Nat) : Int).toNat]? = some x := by rw [Int.toNat_natCast]; exact hx
  have e : nodeT t t.length ((t.length - 1 : Nat) : Int) = allT (nodeT t f) x.kids := by
    generalize ((t.length - 1 : Nat) : Int) = i at hfx
    rw [hf, nodeT, hfx]
    simp [tokT, itemT, hk]
  rw [e]
  obtain ⟨_, _, _, hfit⟩ := h.parts hx
  match hks : x.kids with
  | [] => rfl
  | k :: ks =>
    have hkk := h.kids hx k (by simp [hks])
    unfold fitsS at hfit
    rw [show shapeS x.kind x.num = [42, 105] by rw [hk]; rfl, hks] at hfit
    simp [fitsW, kidsS] at hfit
    obtain ⟨g, hg⟩ : ∃ g, f = g + 1 := ⟨f - 1, by omega⟩
    obtain ⟨y, hy⟩ : ∃ y, t[k.toNat]? = some y := ⟨_, List.getElem?_eq_getElem (by omega)⟩
    have hyk : y.kind = 2 ∨ y.kind = 3 ∨ y.kind = 4 := by
      have := hfit.1
      rw [kindAt_eq hy] at this
      simpa [isS, bu] using this
    have e2 : ∃ u us, nodeT t f k = u :: us ∧ u ≠ [] := by
      rw [hg, nodeT, hy]
      rcases hyk with h2 | h2 | h2
      · exact ⟨_, _, by simp [tokT, itemT, fnT, h2]; exact ⟨rfl, rfl⟩, by simp⟩
      · exact ⟨_, _, by simp [tokT, itemT, h2]; exact ⟨rfl, rfl⟩, by simp⟩
      · exact ⟨_, _, by simp [tokT, itemT, h2]; exact ⟨rfl, rfl⟩, by simp⟩
    obtain ⟨u, us, e3, hu⟩ := e2
    unfold allT
    rw [List.map_cons, List.flatten_cons, e3, List.cons_append]
    exact putAll_join hu
theorem rnodeTop (t : List Al.Node) (ht : okTree t) (hg : Good t) : SCall prog 26 [.ptr 0 0 0, I ((t.length - 1 : Nat) : Int)] [.box [.d (dNodes t), .d (dS [])]] (fun x r => x = .tup [] ∧ r = rrR t (printT t)) := by
  have hl := hg.len
  have h := (rnode_all t ht hg t.length ((t.length - 1 : Nat) : Int) (by omega) (by omega) (by omega)).put [] (by
    have h1 := hg.tokens ht t.length (t.length - 1) (by omega) (by omega)
    simp only [List.length_nil]
    omega)
  have e := hg.root
  unfold toksT at e
  rw [e] at h
  exact h
theorem rPrint_bad (t : List Al.Node) (ht : okTree t) (h : checkS t = false) : SPure prog 9 [aTree t] (.tup [S [], I 3]) := by
  refine .run ttab_ok func9 rfl (by kernel_rfl) (by simp [f9]) rfl ?_
  conv => whnf
  repeat' first
    | (intro h; exfalso; revert h; simp; done)
    | (intro _; conv => whnf)
    | (apply And.intro <;> (conv => whnf))
    | (refine AllRow.of rfl ?_; conv => whnf)
    | (apply AllRow.map; intro _ _; conv => whnf)
    | (refine CallG.con call25 rfl (rightGood_ok ht h) ?_; conv => whnf)
    | (refine CallQG.con call25 rfl (rightGood_ok ht h) ?_; conv => whnf)
    | exact ⟨rfl⟩
    | fail
  all_goals exact ⟨rfl⟩
theorem rPrint_good (t : List Al.Node) (ht : okTree t) (h : checkS t = true) : SPure prog 9 [aTree t] (.tup [S (printT t), I 0]) := by
  have hg := good_of h
  have hl := hg.len
  have hm := hg.most
  refine .run ttab_ok func9 rfl (by kernel_rfl) (by simp [f9]) rfl ?_
  conv => whnf
  repeat' first
    | (intro h; exfalso; revert h; simp; done)
    | (intro _; conv => whnf)
    | (apply And.intro <;> (conv => whnf))
    | (refine AllRow.of rfl ?_; conv => whnf)
    | (apply AllRow.map; intro _ _; conv => whnf)
    | (refine CallG.con call25 rfl (rightGood_ok ht h) ?_; conv => whnf)
    | (refine CallQG.con call25 rfl (rightGood_ok ht h) ?_; conv => whnf)
    | exact ⟨rfl⟩
    | fail
  all_goals try simp only [List.length_map] at *
  all_goals try (exact ⟨by omega⟩)
  refine CallG.at [.ptr 1 0 0, I ((t.length - 1 : Nat) : Int)] ?ha ?_
  case ha =>
    rw [show (t.length : Int) - 1 = ((t.length - 1 : Nat) : Int) by omega]
    rfl
  refine CallG.lend call26 [1] (by simp) (by simp) (by simp [isArr]) (rnodeTop t ht hg) ?_
  rintro _ _ ⟨rfl, rfl⟩
  refine ⟨by simp [rrR], ?_⟩
  conv => whnf
  repeat' first
    | (intro h; exfalso; revert h; simp; done)
    | (intro _; conv => whnf)
    | (apply And.intro <;> (conv => whnf))
    | (refine AllRow.of rfl ?_; conv => whnf)
    | (apply AllRow.map; intro _ _; conv => whnf)
    | exact ⟨rfl⟩
    | fail
  all_goals (refine Side.mk ?_; rfl)
theorem rCheck_ok (t : List Al.Node) (ht : okTree t) : SPure prog 11 [aTree t] (I (if checkS t then 0 else 3)) := by
  cases hc : checkS t with
  | false =>
    refine .run ttab_ok func11 rfl (by kernel_rfl) (by simp [f11]) rfl ?_
    conv => whnf
    repeat' first
      | (intro h; exfalso; revert h; simp; done)
      | (intro _; conv => whnf)
      | (apply And.intro <;> (conv => whnf))
      | (refine AllRow.of rfl ?_; conv => whnf)
      | (apply AllRow.map; intro _ _; conv => whnf)
      | (refine CallG.con call25 rfl (rightGood_ok ht hc) ?_; conv => whnf)
      | (refine CallQG.con call25 rfl (rightGood_ok ht hc) ?_; conv => whnf)
      | exact ⟨rfl⟩
      | fail
    all_goals exact ⟨rfl⟩
  | true =>
    refine .run ttab_ok func11 rfl (by kernel_rfl) (by simp [f11]) rfl ?_
    conv => whnf
    repeat' first
      | (intro h; exfalso; revert h; simp; done)
      | (intro _; conv => whnf)
      | (apply And.intro <;> (conv => whnf))
      | (refine AllRow.of rfl ?_; conv => whnf)
      | (apply AllRow.map; intro _ _; conv => whnf)
      | (refine CallG.con call25 rfl (rightGood_ok ht hc) ?_; conv => whnf)
      | (refine CallQG.con call25 rfl (rightGood_ok ht hc) ?_; conv => whnf)
      | exact ⟨rfl⟩
      | fail
    all_goals exact ⟨rfl⟩
theorem bytesEq_self (s : ByteArray) : bytesEq s s = true := by simp [bytesEq]
theorem treeChecks_ok (t : List Al.Node) (ht : okTree t) : SPure prog 3 [aTree t] (B true) := by
  have hk := rCheck_ok t ht
  cases hlong : longS t with
  | true =>
    refine .run ttab_ok func3 rfl (by kernel_rfl) (by simp [f3]) rfl ?_
    conv => whnf
    repeat' first
      | (intro h; exfalso; revert h; simp; done)
      | (intro _; conv => whnf)
      | (apply And.intro <;> (conv => whnf))
      | (refine AllRow.of rfl ?_; conv => whnf)
      | (apply AllRow.map; intro _ _; conv => whnf)
      | (refine CallG.con call6 rfl (hlong ▸ long_ok t ht) ?_; conv => whnf)
      | (refine CallQG.con call6 rfl (hlong ▸ long_ok t ht) ?_; conv => whnf)
      | (refine CallG.con call7 rfl (small_ok) ?_; conv => whnf)
      | (refine CallQG.con call7 rfl (small_ok) ?_; conv => whnf)
      | exact ⟨rfl⟩
      | fail
    all_goals exact ⟨rfl⟩
  | false =>
    cases hc : checkS t with
    | false =>
      rw [hc] at hk
      refine .run ttab_ok func3 rfl (by kernel_rfl) (by simp [f3]) rfl ?_
      conv => whnf
      repeat' first
        | (intro h; exfalso; revert h; simp; done)
        | (intro _; conv => whnf)
        | (apply And.intro <;> (conv => whnf))
        | (refine AllRow.of rfl ?_; conv => whnf)
        | (apply AllRow.map; intro _ _; conv => whnf)
        | (refine CallG.con call6 rfl (hlong ▸ long_ok t ht) ?_; conv => whnf)
        | (refine CallQG.con call6 rfl (hlong ▸ long_ok t ht) ?_; conv => whnf)
        | (refine CallG.con call7 rfl (small_ok) ?_; conv => whnf)
        | (refine CallQG.con call7 rfl (small_ok) ?_; conv => whnf)
        | (refine CallG.eq call8 rfl (Print_bad t ht hc) ?_; conv => whnf)
        | (refine CallG.eq call9 rfl (rPrint_bad t ht hc) ?_; conv => whnf)
        | (refine CallG.con call10 rfl (checkBad_ok ht hc) ?_; conv => whnf)
        | (refine CallQG.con call10 rfl (checkBad_ok ht hc) ?_; conv => whnf)
        | (refine CallG.con call11 rfl (hk) ?_; conv => whnf)
        | (refine CallQG.con call11 rfl (hk) ?_; conv => whnf)
        | exact ⟨rfl⟩
        | fail
    | true =>
      rw [hc] at hk
      refine .run ttab_ok func3 rfl (by kernel_rfl) (by simp [f3]) rfl ?_
      conv => whnf
      repeat' first
        | (intro _; conv => whnf)
        | (apply And.intro <;> (conv => whnf))
        | (refine AllRow.of rfl ?_; conv => whnf)
        | (apply AllRow.map; intro _ _; conv => whnf)
        | (refine CallG.con call6 rfl (hlong ▸ long_ok t ht) ?_; conv => whnf)
        | (refine CallQG.con call6 rfl (hlong ▸ long_ok t ht) ?_; conv => whnf)
        | (refine CallG.con call7 rfl (small_ok) ?_; conv => whnf)
        | (refine CallQG.con call7 rfl (small_ok) ?_; conv => whnf)
        | (refine CallG.eq call8 rfl (Print_good t ht hc) ?_; conv => whnf)
        | (refine CallG.eq call9 rfl (rPrint_good t ht hc) ?_; conv => whnf)
        | (refine CallG.con call10 rfl (checkGood_ok ht hc) ?_; conv => whnf)
        | (refine CallQG.con call10 rfl (checkGood_ok ht hc) ?_; conv => whnf)
        | (refine CallG.con call11 rfl (hk) ?_; conv => whnf)
        | (refine CallQG.con call11 rfl (hk) ?_; conv => whnf)
        | exact ⟨rfl⟩
        | fail
      all_goals first | exact ⟨rfl⟩ | (exfalso; rename_i h; first | (cases h; done) | exact h rfl | exact h (bytesEq_self _))
end Go.Proofs.Tryz
