/- Contracts on types' texts, and the law TreeParts. -/
import Derived.Test.YtobcdpmjaeflmaaGreatDoorSubC
import Derived.Test.YtobcdpmjaeflmaaGreatDoorPrP
import Derived.Test.YtobcdpmjaeflmaaGreatDoorSmallD
set_option pp.deepTerms false
set_option pp.deepTerms.threshold 4
set_option linter.unusedVariables false
set_option linter.unusedSimpArgs false
namespace Go.Proofs.Tryz
open Go Go.Al
set_option maxRecDepth 20000
set_option linter.unusedVariables false
theorem Good.nodeAt {t : List Al.Node} (h : Good t) {i : Nat} {x : Al.Node} (hx : t[i]? = some x) : nodeS t i x = true := nodesS_node h.node (List.getElem?_eq_some_iff.1 hx).1 hx
theorem Good.parts {t : List Al.Node} (h : Good t) {i : Nat} {x : Al.Node} (hx : t[i]? = some x) : knownS x.kind = true ∧ nameS x = true ∧ numS x (params t x.kids) = true ∧ fitsS x (x.kids.map (kindAt t)) = true := by
  have := h.nodeAt hx
  rw [nodeS_good (h.kids hx)] at this
  simp only [Bool.and_eq_true] at this
  exact ⟨this.1, this.2.1, this.2.2.1, this.2.2.2.2.2⟩
theorem one_kid {t : List Al.Node} {x : Al.Node} {c : UInt8} (h : fitsS x (x.kids.map (kindAt t)) = true) (hs : shapeS x.kind x.num = [c]) : ∃ k, x.kids = [k] := by
  unfold fitsS at h
  rw [hs] at h
  have := kidsS_len 1 [c] (x.kids.map (kindAt t)) (by simp) (by unfold fitsW at h; split at h <;> simp_all)
  simp only [minK, maxK, List.length_map] at this
  exact List.length_eq_one_iff.1 (by omega)
def textT (t : List Al.Node) : Nat → Int → Bytes
  | 0, _ => []
  | f + 1, i => match t[i.toNat]? with
    | some x => if x.kind = 10 then [105, 54, 52] else if x.kind = 11 then [98, 111, 111, 108] else if x.kind = 12 then [40, 41] else if x.kind = 14 then 38 :: textT t f (nth x 0)
      else if x.kind = 15 then [38, 109, 117, 116, 32] ++ textT t f (nth x 0) else if x.kind = 16 then [66, 111, 120, 60] ++ textT t f (nth x 0) ++ [62] else x.name
    | none => []
theorem textT_len {t : List Al.Node} (ht : okTree t) : ∀ (f : Nat) (i : Int), (textT t f i).length ≤ 140737488351232 + 6 * f
  | 0, _ => by simp [textT]
  | f + 1, i => by
    unfold textT
    split
    · rename_i x hx
      have hn := (ht.node x (List.mem_of_getElem? hx)).name
      have ih := textT_len ht f (nth x 0)
      repeat' split
      all_goals try simp only [List.length_cons, List.length_append, List.length_nil]
      all_goals omega
    · simp
theorem type_kid {t : List Al.Node} (h : Good t) {i : Nat} {x : Al.Node} (hx : t[i]? = some x) (hk : x.kind = 14 ∨ x.kind = 15 ∨ x.kind = 16) : ∃ k, x.kids = [k] ∧ 0 ≤ k ∧ k < i := by
  obtain ⟨_, _, _, hf⟩ := h.parts hx
  obtain ⟨k, hkk⟩ := one_kid (c := 116) hf (by rcases hk with e | e | e <;> rw [e] <;> rfl)
  have := h.kids hx k (by simp [hkk])
  exact ⟨k, hkk, this.1, this.2⟩
theorem size_lit (b : Array UInt8) : ByteArray.size ⟨b⟩ = b.size := rfl
theorem text_ok (t : List Al.Node) (ht : okTree t) (hg : Good t) : ∀ (f : Nat) (i : Int), 0 ≤ i → i < f → i < t.length → f ≤ 20000 → SPure prog 34 [aTree t, I i] (S (textT t f i))
  | 0, i, h0, h1, _, _ => by omega
  | f + 1, i, h0, h1, h2, hf => by
    obtain ⟨x, hx⟩ : ∃ x, t[i.toNat]? = some x := ⟨_, List.getElem?_eq_getElem (by omega)⟩
    have hrow : lat (List.map rNode t) i.toNat = some (rNode x) := by rw [lat_eq, List.getElem?_map, hx]; rfl
    have hlen : ∀ k, (textT t f k).length ≤ 140737488351232 + 6 * f := textT_len ht f
    have hspec : textT t (f + 1) i = (if x.kind = 10 then [105, 54, 52] else if x.kind = 11 then [98, 111, 111, 108] else if x.kind = 12 then [40, 41] else if x.kind = 14 then 38 :: textT t f (nth x 0)
      else if x.kind = 15 then [38, 109, 117, 116, 32] ++ textT t f (nth x 0) else if x.kind = 16 then [66, 111, 120, 60] ++ textT t f (nth x 0) ++ [62] else x.name) := by rw [textT, hx]
    by_cases hk : x.kind = 14 ∨ x.kind = 15 ∨ x.kind = 16
    · obtain ⟨k, hkk, hk0, hki⟩ := type_kid hg hx hk
      have ih := text_ok t ht hg f k hk0 (by omega) (by omega) (by omega)
      have hnth : nth x 0 = k := by simp [nth, hkk]
      have hl := hlen k
      rw [hspec, hnth]
      obtain ⟨kd, nm, num, ks, fr, to⟩ := x
      dsimp only at hk hkk hrow ⊢
      subst hkk
      rcases hk with rfl | rfl | rfl
      all_goals
        refine .run ttab_ok func34 rfl (by kernel_rfl) (by simp [f34]) rfl ?_
        conv => whnf
        repeat' first
          | (refine AllRow.of hrow ?_; conv => whnf)
          | (intro h; exfalso; revert h; simp; done)
          | (intro _; conv => whnf)
          | (apply And.intro <;> (conv => whnf))
          | (refine AllRow.of rfl ?_; conv => whnf)
          | (apply AllRow.map; intro _ _; conv => whnf)
          | (refine CallG.con call34 rfl (ih) ?_; conv => whnf)
          | (refine CallQG.con call34 rfl (ih) ?_; conv => whnf)
          | exact ⟨rfl⟩
          | fail
      all_goals refine Side.mk ?_
      all_goals first
        | (simp only [List.length_map]; omega)
        | (simp; done)
        | (simp only [size_lit, size_ba, lit_append, append_lit, List.size_toArray, List.length_append, List.length_cons, List.length_nil]; omega)
        | (simp [S, dS]; done)
    · rw [hspec]
      refine .run ttab_ok func34 rfl (by kernel_rfl) (by simp [f34]) rfl ?_
      conv => whnf
      repeat' first
        | (refine AllRow.of hrow ?_; conv => whnf)
        | (intro _; conv => whnf)
        | (apply And.intro <;> (conv => whnf))
        | (refine AllRow.of rfl ?_; conv => whnf)
        | (apply AllRow.map; intro _ _; conv => whnf)
        | exact ⟨rfl⟩
        | fail
      all_goals try (refine Side.mk ?_; simp only [List.length_map]; omega)
      all_goals try (exfalso; omega)
      all_goals (refine Side.mk ?_; simp_all [S, dS, ba])
theorem rtext_ok (t : List Al.Node) (ht : okTree t) (hg : Good t) : ∀ (f : Nat) (i : Int), 0 ≤ i → i < f → i < t.length → f ≤ 20000 → SPure prog 36 [aTree t, I i] (S (textT t f i))
  | 0, i, h0, h1, _, _ => by omega
  | f + 1, i, h0, h1, h2, hf => by
    obtain ⟨x, hx⟩ : ∃ x, t[i.toNat]? = some x := ⟨_, List.getElem?_eq_getElem (by omega)⟩
    have hrow : lat (List.map rNode t) i.toNat = some (rNode x) := by rw [lat_eq, List.getElem?_map, hx]; rfl
    have hlen : ∀ k, (textT t f k).length ≤ 140737488351232 + 6 * f := textT_len ht f
    have hspec : textT t (f + 1) i = (if x.kind = 10 then [105, 54, 52] else if x.kind = 11 then [98, 111, 111, 108] else if x.kind = 12 then [40, 41] else if x.kind = 14 then 38 :: textT t f (nth x 0)
      else if x.kind = 15 then [38, 109, 117, 116, 32] ++ textT t f (nth x 0) else if x.kind = 16 then [66, 111, 120, 60] ++ textT t f (nth x 0) ++ [62] else x.name) := by rw [textT, hx]
    by_cases hk : x.kind = 14 ∨ x.kind = 15 ∨ x.kind = 16
    · obtain ⟨k, hkk, hk0, hki⟩ := type_kid hg hx hk
      have ih := rtext_ok t ht hg f k hk0 (by omega) (by omega) (by omega)
      have hnth : nth x 0 = k := by simp [nth, hkk]
      have hl := hlen k
      rw [hspec, hnth]
      obtain ⟨kd, nm, num, ks, fr, to⟩ := x
      dsimp only at hk hkk hrow ⊢
      subst hkk
      rcases hk with rfl | rfl | rfl
      all_goals
        refine .run ttab_ok func36 rfl (by kernel_rfl) (by simp [f36]) rfl ?_
        conv => whnf
        repeat' first
          | (refine AllRow.of hrow ?_; conv => whnf)
          | (intro h; exfalso; revert h; simp; done)
          | (intro _; conv => whnf)
          | (apply And.intro <;> (conv => whnf))
          | (refine AllRow.of rfl ?_; conv => whnf)
          | (apply AllRow.map; intro _ _; conv => whnf)
          | (refine CallG.con call36 rfl (ih) ?_; conv => whnf)
          | (refine CallQG.con call36 rfl (ih) ?_; conv => whnf)
          | exact ⟨rfl⟩
          | fail
      all_goals refine Side.mk ?_
      all_goals first
        | (simp only [List.length_map]; omega)
        | (simp; done)
        | (simp only [size_lit, size_ba, lit_append, append_lit, List.size_toArray, List.length_append, List.length_cons, List.length_nil]; omega)
        | (simp [S, dS]; done)
    · rw [hspec]
      refine .run ttab_ok func36 rfl (by kernel_rfl) (by simp [f36]) rfl ?_
      conv => whnf
      repeat' first
        | (refine AllRow.of hrow ?_; conv => whnf)
        | (intro _; conv => whnf)
        | (apply And.intro <;> (conv => whnf))
        | (refine AllRow.of rfl ?_; conv => whnf)
        | (apply AllRow.map; intro _ _; conv => whnf)
        | exact ⟨rfl⟩
        | fail
      all_goals try (refine Side.mk ?_; simp only [List.length_map]; omega)
      all_goals try (exfalso; omega)
      all_goals (refine Side.mk ?_; simp_all [S, dS, ba])
theorem treeNil_ok : SPure prog 21 [aNil, aNil] (B true) :=
  .reckon (tab := ttab) (ext := ext) (r := []) ttab_ok follows_mixed funs_ok ext_ok 100 10 (by kernel_rfl)
theorem subTo_kids {t : List Al.Node} (ht : okTree t) (m : Nat) (ins : List Bool) : ∀ i x, x ∈ (subTo t m ins i).2 → x.kids.length ≤ 17592186043904
  | 0, x, h => by simp [subTo] at h
  | i + 1, x, h => by
    have ih := subTo_kids ht m ins i
    simp only [subTo] at h
    split at h
    · rename_i y hy
      split at h
      · simp only [subStep, List.mem_append, List.mem_singleton] at h
        rcases h with h | rfl
        · exact ih x h
        · simp only [List.length_map]
          exact (ht.node y (List.mem_of_getElem? hy)).len
      · exact ih x h
    · exact ih x h
theorem subTree_ok {t : List Al.Node} (ht : okTree t) (n : Nat) (hn : n < t.length) : SPure prog 21 [aTree (subS t n), aTree (subS t n)] (B true) := by
  have h1 := (subTo_len t (n + 1) (inS (upS t) n) (n + 1)).2
  have h2 := ht.len
  have h := ptree_ok (subS t n) (subS t n) (by unfold subS; omega) (fun x hx => Nat.le_trans (subTo_kids ht _ _ _ x hx) (by omega))
  rwa [decide_eq_true rfl] at h
theorem Type_bad (t : List Al.Node) (ht : okTree t) (n : Int) (h : checkS t = false) : SPure prog 19 [aTree t, I n] (.tup [S [], I 3]) := by
  refine .run ttab_ok func19 rfl (by kernel_rfl) (by simp [f19]) rfl ?_
  conv => whnf
  repeat' first
    | (intro h; exfalso; revert h; simp; done)
    | (intro _; conv => whnf)
    | (apply And.intro <;> (conv => whnf))
    | (refine AllRow.of rfl ?_; conv => whnf)
    | (apply AllRow.map; intro _ _; conv => whnf)
    | (refine CallG.con call10 rfl (checkBad_ok ht h) ?_; conv => whnf)
    | (refine CallQG.con call10 rfl (checkBad_ok ht h) ?_; conv => whnf)
    | exact ⟨rfl⟩
    | fail
  all_goals exact ⟨rfl⟩
theorem Type_out (t : List Al.Node) (ht : okTree t) (n : Int) (h : checkS t = true) (hn : n < 0 ∨ n ≥ t.length) : SPure prog 19 [aTree t, I n] (.tup [S [], I 9]) := by
  refine .run ttab_ok func19 rfl (by kernel_rfl) (by simp [f19]) rfl ?_
  conv => whnf
  repeat' first
    | (intro h; exfalso; revert h; simp; done)
    | (intro _; conv => whnf)
    | (apply And.intro <;> (conv => whnf))
    | (refine AllRow.of rfl ?_; conv => whnf)
    | (apply AllRow.map; intro _ _; conv => whnf)
    | (refine CallG.con call10 rfl (checkGood_ok ht h) ?_; conv => whnf)
    | (refine CallQG.con call10 rfl (checkGood_ok ht h) ?_; conv => whnf)
    | exact ⟨rfl⟩
    | fail
  all_goals first | exact ⟨rfl⟩ | (exfalso; simp only [List.length_map] at *; omega)
theorem Type_not (t : List Al.Node) (ht : okTree t) (n : Int) (h : checkS t = true) (h0 : 0 ≤ n) (x : Al.Node) (hx : t[n.toNat]? = some x) (hk : ¬ (10 ≤ x.kind ∧ x.kind ≤ 16)) : SPure prog 19 [aTree t, I n] (.tup [S [], I 1]) := by
  have hrow : lat (List.map rNode t) n.toNat = some (rNode x) := by rw [lat_eq, List.getElem?_map, hx]; rfl
  have hlt := (List.getElem?_eq_some_iff.1 hx).1
  refine .run ttab_ok func19 rfl (by kernel_rfl) (by simp [f19]) rfl ?_
  conv => whnf
  repeat' first
    | (refine AllRow.of hrow ?_; conv => whnf)
    | (intro _; conv => whnf)
    | (apply And.intro <;> (conv => whnf))
    | (refine AllRow.of rfl ?_; conv => whnf)
    | (apply AllRow.map; intro _ _; conv => whnf)
    | (refine CallG.con call10 rfl (checkGood_ok ht h) ?_; conv => whnf)
    | (refine CallQG.con call10 rfl (checkGood_ok ht h) ?_; conv => whnf)
    | (refine CallG.con call33 rfl (isType_ok _) ?_; conv => whnf)
    | (refine CallQG.con call33 rfl (isType_ok _) ?_; conv => whnf)
    | exact ⟨rfl⟩
    | fail
  all_goals try (exact ⟨rfl⟩)
  all_goals try (exfalso; simp only [List.length_map] at *; omega)
  all_goals try (exact ⟨by simp only [List.length_map]; omega⟩)
  all_goals (exfalso; first | omega | (rename_i hd; exact absurd (of_decide_eq_true hd) hk) | (rename_i hd; exact absurd hk (of_decide_eq_false hd)) | (simp_all; done))
theorem Type_good (t : List Al.Node) (ht : okTree t) (n : Int) (h : checkS t = true) (h0 : 0 ≤ n) (x : Al.Node) (hx : t[n.toNat]? = some x) (hk : 10 ≤ x.kind ∧ x.kind ≤ 16) : SPure prog 19 [aTree t, I n] (.tup [S (textT t (n.toNat + 1) n), I 0]) := by
  have hg := good_of h
  have hm := hg.most
  have hrow : lat (List.map rNode t) n.toNat = some (rNode x) := by rw [lat_eq, List.getElem?_map, hx]; rfl
  have hlt := (List.getElem?_eq_some_iff.1 hx).1
  have htx := text_ok t ht hg (n.toNat + 1) n h0 (by omega) (by omega) (by omega)
  refine .run ttab_ok func19 rfl (by kernel_rfl) (by simp [f19]) rfl ?_
  conv => whnf
  repeat' first
    | (refine AllRow.of hrow ?_; conv => whnf)
    | (intro _; conv => whnf)
    | (apply And.intro <;> (conv => whnf))
    | (refine AllRow.of rfl ?_; conv => whnf)
    | (apply AllRow.map; intro _ _; conv => whnf)
    | (refine CallG.con call10 rfl (checkGood_ok ht h) ?_; conv => whnf)
    | (refine CallQG.con call10 rfl (checkGood_ok ht h) ?_; conv => whnf)
    | (refine CallG.con call33 rfl (isType_ok _) ?_; conv => whnf)
    | (refine CallQG.con call33 rfl (isType_ok _) ?_; conv => whnf)
    | (refine CallG.con call34 rfl (htx) ?_; conv => whnf)
    | (refine CallQG.con call34 rfl (htx) ?_; conv => whnf)
    | exact ⟨rfl⟩
    | fail
  all_goals try (exact ⟨rfl⟩)
  all_goals try (exfalso; simp only [List.length_map] at *; omega)
  all_goals try (exact ⟨by simp only [List.length_map]; omega⟩)
  all_goals (exfalso; first | omega | (rename_i hd; exact absurd (of_decide_eq_true hd) hk) | (rename_i hd; exact absurd hk (of_decide_eq_false hd)) | (simp_all; done))
theorem rType_bad (t : List Al.Node) (ht : okTree t) (n : Int) (h : checkS t = false) : SPure prog 20 [aTree t, I n] (.tup [S [], I 3]) := by
  refine .run ttab_ok func20 rfl (by kernel_rfl) (by simp [f20]) rfl ?_
  conv => whnf
  repeat' first
    | (intro h; exfalso; revert h; simp; done)
    | (intro _; conv => whnf)
    | (apply And.intro <;> (conv => whnf))
    | (refine AllRow.of rfl ?_; conv => whnf)
    | (apply AllRow.map; intro _ _; conv => whnf)
    | (refine CallG.con call25 rfl (rightGood_ok ht h) ?_; conv => whnf)
    | (refine CallQG.con call25 rfl (rightGood_ok ht h) ?_; conv => whnf)
    | exact ⟨rfl⟩
    | fail
  all_goals exact ⟨rfl⟩
theorem rType_out (t : List Al.Node) (ht : okTree t) (n : Int) (h : checkS t = true) (hn : n < 0 ∨ n ≥ t.length) : SPure prog 20 [aTree t, I n] (.tup [S [], I 9]) := by
  refine .run ttab_ok func20 rfl (by kernel_rfl) (by simp [f20]) rfl ?_
  conv => whnf
  repeat' first
    | (intro h; exfalso; revert h; simp; done)
    | (intro _; conv => whnf)
    | (apply And.intro <;> (conv => whnf))
    | (refine AllRow.of rfl ?_; conv => whnf)
    | (apply AllRow.map; intro _ _; conv => whnf)
    | (refine CallG.con call25 rfl (rightGood_ok ht h) ?_; conv => whnf)
    | (refine CallQG.con call25 rfl (rightGood_ok ht h) ?_; conv => whnf)
    | exact ⟨rfl⟩
    | fail
  all_goals first | exact ⟨rfl⟩ | (exfalso; simp only [List.length_map] at *; omega)
theorem rType_not (t : List Al.Node) (ht : okTree t) (n : Int) (h : checkS t = true) (h0 : 0 ≤ n) (x : Al.Node) (hx : t[n.toNat]? = some x) (hk : ¬ (10 ≤ x.kind ∧ x.kind ≤ 16)) : SPure prog 20 [aTree t, I n] (.tup [S [], I 1]) := by
  have hrow : lat (List.map rNode t) n.toNat = some (rNode x) := by rw [lat_eq, List.getElem?_map, hx]; rfl
  have hlt := (List.getElem?_eq_some_iff.1 hx).1
  refine .run ttab_ok func20 rfl (by kernel_rfl) (by simp [f20]) rfl ?_
  conv => whnf
  repeat' first
    | (refine AllRow.of hrow ?_; conv => whnf)
    | (intro _; conv => whnf)
    | (apply And.intro <;> (conv => whnf))
    | (refine AllRow.of rfl ?_; conv => whnf)
    | (apply AllRow.map; intro _ _; conv => whnf)
    | (refine CallG.con call25 rfl (rightGood_ok ht h) ?_; conv => whnf)
    | (refine CallQG.con call25 rfl (rightGood_ok ht h) ?_; conv => whnf)
    | (refine CallG.con call35 rfl (rType_ok _) ?_; conv => whnf)
    | (refine CallQG.con call35 rfl (rType_ok _) ?_; conv => whnf)
    | exact ⟨rfl⟩
    | fail
  all_goals try (exact ⟨rfl⟩)
  all_goals try (exfalso; simp only [List.length_map] at *; omega)
  all_goals try (exact ⟨by simp only [List.length_map]; omega⟩)
  all_goals (exfalso; first | omega | (rename_i hd; exact absurd (of_decide_eq_true hd) hk) | (rename_i hd; exact absurd hk (of_decide_eq_false hd)) | (simp_all; done))
theorem rType_good (t : List Al.Node) (ht : okTree t) (n : Int) (h : checkS t = true) (h0 : 0 ≤ n) (x : Al.Node) (hx : t[n.toNat]? = some x) (hk : 10 ≤ x.kind ∧ x.kind ≤ 16) : SPure prog 20 [aTree t, I n] (.tup [S (textT t (n.toNat + 1) n), I 0]) := by
  have hg := good_of h
  have hm := hg.most
  have hrow : lat (List.map rNode t) n.toNat = some (rNode x) := by rw [lat_eq, List.getElem?_map, hx]; rfl
  have hlt := (List.getElem?_eq_some_iff.1 hx).1
  have htx := rtext_ok t ht hg (n.toNat + 1) n h0 (by omega) (by omega) (by omega)
  refine .run ttab_ok func20 rfl (by kernel_rfl) (by simp [f20]) rfl ?_
  conv => whnf
  repeat' first
    | (refine AllRow.of hrow ?_; conv => whnf)
    | (intro _; conv => whnf)
    | (apply And.intro <;> (conv => whnf))
    | (refine AllRow.of rfl ?_; conv => whnf)
    | (apply AllRow.map; intro _ _; conv => whnf)
    | (refine CallG.con call25 rfl (rightGood_ok ht h) ?_; conv => whnf)
    | (refine CallQG.con call25 rfl (rightGood_ok ht h) ?_; conv => whnf)
    | (refine CallG.con call35 rfl (rType_ok _) ?_; conv => whnf)
    | (refine CallQG.con call35 rfl (rType_ok _) ?_; conv => whnf)
    | (refine CallG.con call36 rfl (htx) ?_; conv => whnf)
    | (refine CallQG.con call36 rfl (htx) ?_; conv => whnf)
    | exact ⟨rfl⟩
    | fail
  all_goals try (exact ⟨rfl⟩)
  all_goals try (exfalso; simp only [List.length_map] at *; omega)
  all_goals try (exact ⟨by simp only [List.length_map]; omega⟩)
  all_goals (exfalso; first | omega | (rename_i hd; exact absurd (of_decide_eq_true hd) hk) | (rename_i hd; exact absurd hk (of_decide_eq_false hd)) | (simp_all; done))
theorem treeParts_ok (t : List Al.Node) (ht : okTree t) (n : Int) (hn : okI n) : SPure prog 5 [aTree t, I n] (B true) := by
  cases hlong : longS t with
  | true =>
    refine .run ttab_ok func5 rfl (by kernel_rfl) (by simp [f5]) rfl ?_
    conv => whnf
    repeat' first
      | (intro h; exfalso; revert h; simp; done)
      | (intro _; conv => whnf)
      | (apply And.intro <;> (conv => whnf))
      | (refine AllRow.of rfl ?_; conv => whnf)
      | (apply AllRow.map; intro _ _; conv => whnf)
      | (refine CallG.con call6 rfl (hlong ▸ long_ok t ht) ?_; conv => whnf)
      | (refine CallQG.con call6 rfl (hlong ▸ long_ok t ht) ?_; conv => whnf)
      | (refine CallG.con call7 rfl (small_ok) ?_; conv => whnf)
      | (refine CallQG.con call7 rfl (small_ok) ?_; conv => whnf)
      | exact ⟨rfl⟩
      | fail
    all_goals exact ⟨rfl⟩
  | false =>
    cases hc : checkS t with
    | false =>
      refine .run ttab_ok func5 rfl (by kernel_rfl) (by simp [f5]) rfl ?_
      conv => whnf
      repeat' first
        | (intro h; exfalso; revert h; simp; done)
        | (intro _; conv => whnf)
        | (apply And.intro <;> (conv => whnf))
        | (refine AllRow.of rfl ?_; conv => whnf)
        | (apply AllRow.map; intro _ _; conv => whnf)
        | (refine CallG.con call6 rfl (hlong ▸ long_ok t ht) ?_; conv => whnf)
        | (refine CallQG.con call6 rfl (hlong ▸ long_ok t ht) ?_; conv => whnf)
        | (refine CallG.con call7 rfl (small_ok) ?_; conv => whnf)
        | (refine CallQG.con call7 rfl (small_ok) ?_; conv => whnf)
        | (refine CallG.eq call17 rfl (Sub_bad t ht n hc) ?_; conv => whnf)
        | (refine CallG.eq call18 rfl (rSub_bad t ht n hc) ?_; conv => whnf)
        | (refine CallG.eq call19 rfl (Type_bad t ht n hc) ?_; conv => whnf)
        | (refine CallG.eq call20 rfl (rType_bad t ht n hc) ?_; conv => whnf)
        | (refine CallG.con call21 rfl (treeNil_ok) ?_; conv => whnf)
        | (refine CallQG.con call21 rfl (treeNil_ok) ?_; conv => whnf)
        | exact ⟨rfl⟩
        | fail
    | true =>
      by_cases ho : n < 0 ∨ n ≥ t.length
      ·
        refine .run ttab_ok func5 rfl (by kernel_rfl) (by simp [f5]) rfl ?_
        conv => whnf
        repeat' first
          | (intro h; exfalso; revert h; simp; done)
          | (intro _; conv => whnf)
          | (apply And.intro <;> (conv => whnf))
          | (refine AllRow.of rfl ?_; conv => whnf)
          | (apply AllRow.map; intro _ _; conv => whnf)
          | (refine CallG.con call6 rfl (hlong ▸ long_ok t ht) ?_; conv => whnf)
          | (refine CallQG.con call6 rfl (hlong ▸ long_ok t ht) ?_; conv => whnf)
          | (refine CallG.con call7 rfl (small_ok) ?_; conv => whnf)
          | (refine CallQG.con call7 rfl (small_ok) ?_; conv => whnf)
          | (refine CallG.eq call17 rfl (Sub_out t ht n hc ho) ?_; conv => whnf)
          | (refine CallG.eq call18 rfl (rSub_out t ht n hc ho) ?_; conv => whnf)
          | (refine CallG.eq call19 rfl (Type_out t ht n hc ho) ?_; conv => whnf)
          | (refine CallG.eq call20 rfl (rType_out t ht n hc ho) ?_; conv => whnf)
          | (refine CallG.con call21 rfl (treeNil_ok) ?_; conv => whnf)
          | (refine CallQG.con call21 rfl (treeNil_ok) ?_; conv => whnf)
          | exact ⟨rfl⟩
          | fail
      · obtain ⟨m, rfl⟩ : ∃ m : Nat, n = m := ⟨n.toNat, by omega⟩
        have hm : m < t.length := by omega
        obtain ⟨x, hx⟩ : ∃ x, t[(m : Int).toNat]? = some x := ⟨_, List.getElem?_eq_getElem (by omega)⟩
        have hst := subTree_ok ht m hm
        by_cases hk : 10 ≤ x.kind ∧ x.kind ≤ 16
        ·
          refine .run ttab_ok func5 rfl (by kernel_rfl) (by simp [f5]) rfl ?_
          conv => whnf
          repeat' first
            | (intro h; exfalso; revert h; simp; done)
            | (intro _; conv => whnf)
            | (apply And.intro <;> (conv => whnf))
            | (refine AllRow.of rfl ?_; conv => whnf)
            | (apply AllRow.map; intro _ _; conv => whnf)
            | (refine CallG.con call6 rfl (hlong ▸ long_ok t ht) ?_; conv => whnf)
            | (refine CallQG.con call6 rfl (hlong ▸ long_ok t ht) ?_; conv => whnf)
            | (refine CallG.con call7 rfl (small_ok) ?_; conv => whnf)
            | (refine CallQG.con call7 rfl (small_ok) ?_; conv => whnf)
            | (refine CallG.eq call17 rfl (Sub_good t ht m hc hm) ?_; conv => whnf)
            | (refine CallG.eq call18 rfl (rSub_good t ht m hc hm) ?_; conv => whnf)
            | (refine CallG.eq call19 rfl (Type_good t ht m hc (by omega) x hx hk) ?_; conv => whnf)
            | (refine CallG.eq call20 rfl (rType_good t ht m hc (by omega) x hx hk) ?_; conv => whnf)
            | (refine CallG.con call21 rfl (hst) ?_; conv => whnf)
            | (refine CallQG.con call21 rfl (hst) ?_; conv => whnf)
            | exact ⟨rfl⟩
            | fail
        ·
          refine .run ttab_ok func5 rfl (by kernel_rfl) (by simp [f5]) rfl ?_
          conv => whnf
          repeat' first
            | (intro h; exfalso; revert h; simp; done)
            | (intro _; conv => whnf)
            | (apply And.intro <;> (conv => whnf))
            | (refine AllRow.of rfl ?_; conv => whnf)
            | (apply AllRow.map; intro _ _; conv => whnf)
            | (refine CallG.con call6 rfl (hlong ▸ long_ok t ht) ?_; conv => whnf)
            | (refine CallQG.con call6 rfl (hlong ▸ long_ok t ht) ?_; conv => whnf)
            | (refine CallG.con call7 rfl (small_ok) ?_; conv => whnf)
            | (refine CallQG.con call7 rfl (small_ok) ?_; conv => whnf)
            | (refine CallG.eq call17 rfl (Sub_good t ht m hc hm) ?_; conv => whnf)
            | (refine CallG.eq call18 rfl (rSub_good t ht m hc hm) ?_; conv => whnf)
            | (refine CallG.eq call19 rfl (Type_not t ht m hc (by omega) x hx hk) ?_; conv => whnf)
            | (refine CallG.eq call20 rfl (rType_not t ht m hc (by omega) x hx hk) ?_; conv => whnf)
            | (refine CallG.con call21 rfl (hst) ?_; conv => whnf)
            | (refine CallQG.con call21 rfl (hst) ?_; conv => whnf)
            | exact ⟨rfl⟩
            | fail
end Go.Proofs.Tryz
