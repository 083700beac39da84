/- Package tree's printers: node, and a tree that is right. -/
import Derived.Test.YtobcdpmjaeflmaaDoorPrC
set_option linter.unusedVariables false
set_option linter.unusedSimpArgs false
namespace Go.Proofs.Tryd
open Go Go.Al
set_option maxRecDepth 20000
set_option linter.unusedVariables false
theorem arity {t : List Al.Node} {x : Al.Node} {s : Bytes} (h : fitsS x (x.kids.map (kindAt t)) = true) (hs : shapeS x.kind x.num = s) (hW : ∀ ks, fitsW s ks = kidsS s ks) : minK s ≤ x.kids.length ∧ x.kids.length ≤ maxK s := by
  unfold fitsS at h
  rw [hs, hW] at h
  have := kidsS_len s.length s _ (Nat.le_refl _) h
  simpa using this
theorem len_two {l : List Int} (h : l.length = 2) : ∃ a b, l = [a, b] := by
  match l, h with
  | [a, b], _ => exact ⟨a, b, rfl⟩
theorem len_three {l : List Int} (h : l.length = 3) : ∃ a b c, l = [a, b, c] := by
  match l, h with
  | [a, b, c], _ => exact ⟨a, b, c, rfl⟩
/-- How many kids a right node has. -/
structure Arity (x : Al.Node) : Prop where
  one : x.kind = 5 ∨ x.kind = 7 ∨ x.kind = 14 ∨ x.kind = 15 ∨ x.kind = 16 ∨ x.kind = 22 ∨ x.kind = 36 ∨ x.kind = 39 ∨ x.kind = 40 ∨ x.kind = 41 ∨ x.kind = 42 ∨ x.kind = 43 ∨ x.kind = 44 → ∃ k, x.kids = [k]
  two : x.kind = 23 ∨ x.kind = 24 ∨ x.kind = 38 ∨ x.kind = 47 → ∃ a b, x.kids = [a, b]
  let_ : x.kind = 21 → (∃ a, x.kids = [a]) ∨ ∃ a b, x.kids = [a, b]
  if_ : x.kind = 45 → (∃ a b, x.kids = [a, b]) ∨ ∃ a b c, x.kids = [a, b, c]
  match_ : x.kind = 46 → ∃ a l, x.kids = a :: l
  fn : x.kind = 2 → ∃ n : Nat, x.num = n ∧ x.kids.length = n + 2
  num : x.kind = 30 → 0 ≤ x.num
  least : x.kind = 52 → -9223372036854775808 < x.num
  pick : x.kind = 37 ∨ x.kind = 54 → x.name.length < 4294967281
  parts : x.kind = 37 ∨ x.kind = 54 → pickS x.name = true
  opt : x.kind = 25 → x.kids = [] ∨ ∃ k, x.kids = [k]
theorem Good.arity {t : List Al.Node} (h : Good t) {i : Nat} {x : Al.Node} (hx : t[i]? = some x) : Arity x := by
  obtain ⟨_, hname, hnum, hf⟩ := h.parts hx
  refine ⟨fun hk => ?_, fun hk => ?_, fun hk => ?_, fun hk => ?_, fun hk => ?_, fun hk => ?_, fun hk => ?_, fun hk => ?_, fun hk => ?_, fun hk => ?_, fun hk => ?_⟩
  · rcases hk with hk | hk | hk | hk | hk | hk | hk | hk | hk | hk | hk | hk | hk
    all_goals first
      | exact one_kid (c := 116) hf (by rw [hk]; rfl)
      | exact one_kid (c := 101) hf (by rw [hk]; rfl)
  · have : x.kids.length = 2 := by
      rcases hk with hk | hk | hk | hk
      · have := Tryd.arity (s := [101, 101]) hf (by rw [hk]; rfl) (fun ks => rfl); simp [minK, maxK, bu] at this; omega
      · have := Tryd.arity (s := [101, 98]) hf (by rw [hk]; rfl) (fun ks => rfl); simp [minK, maxK, bu] at this; omega
      · have := Tryd.arity (s := [101, 101]) hf (by rw [hk]; rfl) (fun ks => rfl); simp [minK, maxK, bu] at this; omega
      · have := Tryd.arity (s := [112, 101]) hf (by rw [hk]; rfl) (fun ks => rfl); simp [minK, maxK, bu] at this; omega
    exact len_two this
  · have := Tryd.arity (s := [63, 116, 101]) hf (by rw [hk]; rfl) (fun ks => rfl)
    simp [minK, maxK, bu] at this
    by_cases h1 : x.kids.length = 1
    · exact .inl (List.length_eq_one_iff.1 h1)
    · exact .inr (len_two (by omega))
  · have := Tryd.arity (s := [101, 98, 63, 111]) hf (by rw [hk]; rfl) (fun ks => rfl)
    simp [minK, maxK, bu] at this
    by_cases h1 : x.kids.length = 2
    · exact .inl (len_two h1)
    · exact .inr (len_three (by omega))
  · unfold fitsS at hf
    rw [show shapeS x.kind x.num = [101, 42, 97] by rw [hk]; rfl] at hf
    simp only [fitsW, Bool.and_eq_true, decide_eq_true_eq, List.length_map] at hf
    match hks : x.kids with
    | [] => rw [hks] at hf; simp at hf
    | a :: l => exact ⟨a, l, rfl⟩
  · have h1 : x.num = (paramsK (x.kids.map (kindAt t)) : Nat) := by
      unfold numS at hnum
      rw [if_pos hk, decide_eq_true_eq, params_eq] at hnum
      exact hnum
    have h2 := fn_eq x (x.kids.map (kindAt t)) hk
    rw [decide_eq_true h1, hf] at h2
    simp only [fnR, Bool.and_eq_true, decide_eq_true_eq, List.length_map, Bool.true_and, Bool.and_self] at h2
    exact ⟨x.kids.length - 2, by omega, by omega⟩
  · unfold numS at hnum
    simp [hk] at hnum
    exact hnum
  · unfold numS at hnum
    simp [hk] at hnum
    exact hnum
  · unfold nameS at hname
    have h1 : pickS x.name = true := by
      rcases hk with hk | hk <;> simpa [hk] using hname
    simp only [pickS, Bool.and_eq_true, decide_eq_true_eq] at h1
    omega
  · unfold nameS at hname
    rcases hk with hk | hk <;> simpa [hk] using hname
  · have := Tryd.arity (s := [63, 101]) hf (by rw [hk]; rfl) (fun ks => rfl)
    simp [minK, maxK, bu] at this
    match hks : x.kids with
    | [] => exact .inl rfl
    | [k] => exact .inr ⟨k, rfl⟩
    | _ :: _ :: _ => rw [hks] at this; simp at this
theorem node_block (t : List Al.Node) (i : Int) (x : Al.Node) (h0 : 0 ≤ i) (hx : t[i.toNat]? = some x) (hk : x.kind = 20) (ts : List Bytes) (hs : Puts t 28 [aNode x] ts) : Puts t 20 [I i] ts := by
  have hrow : lat (List.map rNode t) i.toNat = some (rNode x) := by rw [lat_eq, List.getElem?_map, hx]; rfl
  have hlt := (List.getElem?_eq_some_iff.1 hx).1
  refine Puts.of fun out hb => ?_
  refine .run ttab_ok func20 rfl (by kernel_rfl) (by simp [f20]) rfl ?_
  conv => whnf
  repeat' first
    | (refine AllRow.of hrow ?_; conv => whnf)
    | (intro _; conv => whnf)
    | (apply And.intro <;> (conv => whnf))
    | (refine AllRow.of rfl ?_; conv => whnf)
    | (apply AllRow.map; intro _ _; conv => whnf)
    | (refine CallG.con call30 rfl (isType_ok _) ?_; conv => whnf)
    | (refine CallQG.con call30 rfl (isType_ok _) ?_; conv => whnf)
    | (refine CallG.con call32 rfl (isStmt_ok _) ?_; conv => whnf)
    | (refine CallQG.con call32 rfl (isStmt_ok _) ?_; conv => whnf)
    | (refine CallG.lend call28 [0, 1] (by simp) (by simp) (by simp [isArr, pinsOf, prR]) (hs _ (by first | omega | (simp only [List.length_append, List.length_cons, List.length_nil]; omega) | (simp at *; omega))) ?_; rintro _ _ ⟨rfl, rfl⟩; refine ⟨by simp [prR], ?_⟩; conv => whnf)
    | exact ⟨rfl⟩
    | fail
  all_goals try (refine Side.mk ?_; first | omega | (simp only [List.length_map]; omega))
  all_goals try (exfalso; first | omega | (simp only [decide_eq_true_eq, decide_eq_false_iff_not] at *; omega))
  all_goals exact FinPr.mk' (by simp) (by simp)
theorem node_item (t : List Al.Node) (i : Int) (x : Al.Node) (h0 : 0 ≤ i) (hx : t[i.toNat]? = some x) (hk : x.kind ≤ 7) (ts : List Bytes) (hs : Puts t 29 [aNode x] ts) : Puts t 20 [I i] ts := by
  have hrow : lat (List.map rNode t) i.toNat = some (rNode x) := by rw [lat_eq, List.getElem?_map, hx]; rfl
  have hlt := (List.getElem?_eq_some_iff.1 hx).1
  refine Puts.of fun out hb => ?_
  refine .run ttab_ok func20 rfl (by kernel_rfl) (by simp [f20]) rfl ?_
  conv => whnf
  repeat' first
    | (refine AllRow.of hrow ?_; conv => whnf)
    | (intro _; conv => whnf)
    | (apply And.intro <;> (conv => whnf))
    | (refine AllRow.of rfl ?_; conv => whnf)
    | (apply AllRow.map; intro _ _; conv => whnf)
    | (refine CallG.con call30 rfl (isType_ok _) ?_; conv => whnf)
    | (refine CallQG.con call30 rfl (isType_ok _) ?_; conv => whnf)
    | (refine CallG.con call32 rfl (isStmt_ok _) ?_; conv => whnf)
    | (refine CallQG.con call32 rfl (isStmt_ok _) ?_; conv => whnf)
    | (refine CallG.lend call29 [0, 1] (by simp) (by simp) (by simp [isArr, pinsOf, prR]) (hs _ (by first | omega | (simp only [List.length_append, List.length_cons, List.length_nil]; omega) | (simp at *; omega))) ?_; rintro _ _ ⟨rfl, rfl⟩; refine ⟨by simp [prR], ?_⟩; conv => whnf)
    | exact ⟨rfl⟩
    | fail
  all_goals try (refine Side.mk ?_; first | omega | (simp only [List.length_map]; omega))
  all_goals try (exfalso; first | omega | (simp only [decide_eq_true_eq, decide_eq_false_iff_not] at *; omega))
  all_goals exact FinPr.mk' (by simp) (by simp)
theorem node_typ (t : List Al.Node) (i : Int) (x : Al.Node) (h0 : 0 ≤ i) (hx : t[i.toNat]? = some x) (hk : 10 ≤ x.kind ∧ x.kind ≤ 16) (ts : List Bytes) (hs : Puts t 31 [aNode x] ts) : Puts t 20 [I i] ts := by
  have hrow : lat (List.map rNode t) i.toNat = some (rNode x) := by rw [lat_eq, List.getElem?_map, hx]; rfl
  have hlt := (List.getElem?_eq_some_iff.1 hx).1
  refine Puts.of fun out hb => ?_
  refine .run ttab_ok func20 rfl (by kernel_rfl) (by simp [f20]) rfl ?_
  conv => whnf
  repeat' first
    | (refine AllRow.of hrow ?_; conv => whnf)
    | (intro _; conv => whnf)
    | (apply And.intro <;> (conv => whnf))
    | (refine AllRow.of rfl ?_; conv => whnf)
    | (apply AllRow.map; intro _ _; conv => whnf)
    | (refine CallG.con call30 rfl (isType_ok _) ?_; conv => whnf)
    | (refine CallQG.con call30 rfl (isType_ok _) ?_; conv => whnf)
    | (refine CallG.con call32 rfl (isStmt_ok _) ?_; conv => whnf)
    | (refine CallQG.con call32 rfl (isStmt_ok _) ?_; conv => whnf)
    | (refine CallG.lend call31 [0, 1] (by simp) (by simp) (by simp [isArr, pinsOf, prR]) (hs _ (by first | omega | (simp only [List.length_append, List.length_cons, List.length_nil]; omega) | (simp at *; omega))) ?_; rintro _ _ ⟨rfl, rfl⟩; refine ⟨by simp [prR], ?_⟩; conv => whnf)
    | exact ⟨rfl⟩
    | fail
  all_goals try (refine Side.mk ?_; first | omega | (simp only [List.length_map]; omega))
  all_goals try (exfalso; first | omega | (simp only [decide_eq_true_eq, decide_eq_false_iff_not] at *; omega))
  all_goals exact FinPr.mk' (by simp) (by simp)
theorem node_stmt (t : List Al.Node) (i : Int) (x : Al.Node) (h0 : 0 ≤ i) (hx : t[i.toNat]? = some x) (hk : 21 ≤ x.kind ∧ x.kind ≤ 27) (ts : List Bytes) (hs : Puts t 33 [aNode x] ts) : Puts t 20 [I i] ts := by
  have hrow : lat (List.map rNode t) i.toNat = some (rNode x) := by rw [lat_eq, List.getElem?_map, hx]; rfl
  have hlt := (List.getElem?_eq_some_iff.1 hx).1
  refine Puts.of fun out hb => ?_
  refine .run ttab_ok func20 rfl (by kernel_rfl) (by simp [f20]) rfl ?_
  conv => whnf
  repeat' first
    | (refine AllRow.of hrow ?_; conv => whnf)
    | (intro _; conv => whnf)
    | (apply And.intro <;> (conv => whnf))
    | (refine AllRow.of rfl ?_; conv => whnf)
    | (apply AllRow.map; intro _ _; conv => whnf)
    | (refine CallG.con call30 rfl (isType_ok _) ?_; conv => whnf)
    | (refine CallQG.con call30 rfl (isType_ok _) ?_; conv => whnf)
    | (refine CallG.con call32 rfl (isStmt_ok _) ?_; conv => whnf)
    | (refine CallQG.con call32 rfl (isStmt_ok _) ?_; conv => whnf)
    | (refine CallG.lend call33 [0, 1] (by simp) (by simp) (by simp [isArr, pinsOf, prR]) (hs _ (by first | omega | (simp only [List.length_append, List.length_cons, List.length_nil]; omega) | (simp at *; omega))) ?_; rintro _ _ ⟨rfl, rfl⟩; refine ⟨by simp [prR], ?_⟩; conv => whnf)
    | exact ⟨rfl⟩
    | fail
  all_goals try (refine Side.mk ?_; first | omega | (simp only [List.length_map]; omega))
  all_goals try (exfalso; first | omega | (simp only [decide_eq_true_eq, decide_eq_false_iff_not] at *; omega))
  all_goals exact FinPr.mk' (by simp) (by simp)
theorem node_expr (t : List Al.Node) (i : Int) (x : Al.Node) (h0 : 0 ≤ i) (hx : t[i.toNat]? = some x) (hk : 38 ≤ x.kind ∧ x.kind ≤ 43 ∨ x.kind = 45 ∨ x.kind = 46) (ts : List Bytes) (hs : Puts t 34 [aNode x] ts) : Puts t 20 [I i] ts := by
  have hrow : lat (List.map rNode t) i.toNat = some (rNode x) := by rw [lat_eq, List.getElem?_map, hx]; rfl
  have hlt := (List.getElem?_eq_some_iff.1 hx).1
  refine Puts.of fun out hb => ?_
  refine .run ttab_ok func20 rfl (by kernel_rfl) (by simp [f20]) rfl ?_
  conv => whnf
  repeat' first
    | (refine AllRow.of hrow ?_; conv => whnf)
    | (intro _; conv => whnf)
    | (apply And.intro <;> (conv => whnf))
    | (refine AllRow.of rfl ?_; conv => whnf)
    | (apply AllRow.map; intro _ _; conv => whnf)
    | (refine CallG.con call30 rfl (isType_ok _) ?_; conv => whnf)
    | (refine CallQG.con call30 rfl (isType_ok _) ?_; conv => whnf)
    | (refine CallG.con call32 rfl (isStmt_ok _) ?_; conv => whnf)
    | (refine CallQG.con call32 rfl (isStmt_ok _) ?_; conv => whnf)
    | (refine CallG.lend call34 [0, 1] (by simp) (by simp) (by simp [isArr, pinsOf, prR]) (hs _ (by first | omega | (simp only [List.length_append, List.length_cons, List.length_nil]; omega) | (simp at *; omega))) ?_; rintro _ _ ⟨rfl, rfl⟩; refine ⟨by simp [prR], ?_⟩; conv => whnf)
    | exact ⟨rfl⟩
    | fail
  all_goals try (refine Side.mk ?_; first | omega | (simp only [List.length_map]; omega))
  all_goals try (exfalso; first | omega | (simp only [decide_eq_true_eq, decide_eq_false_iff_not] at *; omega))
  all_goals exact FinPr.mk' (by simp) (by simp)
theorem node_prim (t : List Al.Node) (i : Int) (x : Al.Node) (h0 : 0 ≤ i) (hx : t[i.toNat]? = some x) (hk : 30 ≤ x.kind ∧ x.kind ≤ 37 ∨ x.kind = 44 ∨ 47 ≤ x.kind) (ts : List Bytes) (hs : Puts t 35 [aNode x] ts) : Puts t 20 [I i] ts := by
  have hrow : lat (List.map rNode t) i.toNat = some (rNode x) := by rw [lat_eq, List.getElem?_map, hx]; rfl
  have hlt := (List.getElem?_eq_some_iff.1 hx).1
  refine Puts.of fun out hb => ?_
  refine .run ttab_ok func20 rfl (by kernel_rfl) (by simp [f20]) rfl ?_
  conv => whnf
  repeat' first
    | (refine AllRow.of hrow ?_; conv => whnf)
    | (intro _; conv => whnf)
    | (apply And.intro <;> (conv => whnf))
    | (refine AllRow.of rfl ?_; conv => whnf)
    | (apply AllRow.map; intro _ _; conv => whnf)
    | (refine CallG.con call30 rfl (isType_ok _) ?_; conv => whnf)
    | (refine CallQG.con call30 rfl (isType_ok _) ?_; conv => whnf)
    | (refine CallG.con call32 rfl (isStmt_ok _) ?_; conv => whnf)
    | (refine CallQG.con call32 rfl (isStmt_ok _) ?_; conv => whnf)
    | (refine CallG.lend call35 [0, 1] (by simp) (by simp) (by simp [isArr, pinsOf, prR]) (hs _ (by first | omega | (simp only [List.length_append, List.length_cons, List.length_nil]; omega) | (simp at *; omega))) ?_; rintro _ _ ⟨rfl, rfl⟩; refine ⟨by simp [prR], ?_⟩; conv => whnf)
    | exact ⟨rfl⟩
    | fail
  all_goals try (refine Side.mk ?_; first | omega | (simp only [List.length_map]; omega))
  all_goals try (exfalso; first | omega | (simp only [decide_eq_true_eq, decide_eq_false_iff_not] at *; omega))
  all_goals exact FinPr.mk' (by simp) (by simp)
end Go.Proofs.Tryd
