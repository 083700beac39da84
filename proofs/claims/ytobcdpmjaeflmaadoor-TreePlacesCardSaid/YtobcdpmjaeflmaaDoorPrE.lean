/- Package tree's printers: the kinds joined; a node's tokens. -/
import Derived.Test.YtobcdpmjaeflmaaDoorPrD
set_option linter.unusedVariables false
set_option linter.unusedSimpArgs false
namespace Go.Proofs.Tryd
open Go Go.Al
set_option maxRecDepth 20000
set_option linter.unusedVariables false
theorem typ_all (t : List Al.Node) (T : Int → List Bytes) (x : Al.Node) (ha : Arity x) (hl : x.kids.length ≤ 17592186043904) (ih : ∀ k, k ∈ x.kids → Kid t T k) (hk : 10 ≤ x.kind ∧ x.kind ≤ 16) : Puts t 31 [aNode x] (typT T x) := by
  obtain ⟨kd, nm, num, ks, fr, to⟩ := x
  dsimp only at hk hl
  have hk2 : kd = 10 ∨ kd = 11 ∨ kd = 12 ∨ kd = 13 ∨ kd = 14 ∨ kd = 15 ∨ kd = 16 := by omega
  rcases hk2 with rfl | rfl | rfl | rfl | rfl | rfl | rfl
  · simpa [typT, nth] using typ10_ok t T nm num ks fr to
  · simpa [typT, nth] using typ11_ok t T nm num ks fr to
  · simpa [typT, nth] using typ12_ok t T nm num ks fr to
  · simpa [typT, nth] using typ13_ok t T nm num ks fr to
  · obtain ⟨k, rfl⟩ : ∃ k, ks = [k] := ha.one (by simp)
    simpa [typT, nth] using typ14_ok t T nm num fr to k (ih k (by simp))
  · obtain ⟨k, rfl⟩ : ∃ k, ks = [k] := ha.one (by simp)
    simpa [typT, nth] using typ15_ok t T nm num fr to k (ih k (by simp))
  · obtain ⟨k, rfl⟩ : ∃ k, ks = [k] := ha.one (by simp)
    simpa [typT, nth] using typ16_ok t T nm num fr to k (ih k (by simp))
theorem let_all (t : List Al.Node) (T : Int → List Bytes) (x : Al.Node) (ha : Arity x) (hl : x.kids.length ≤ 17592186043904) (ih : ∀ k, k ∈ x.kids → Kid t T k) (hk : x.kind = 21) : Puts t 48 [aNode x] (letT T x) := by
  obtain ⟨kd, nm, num, ks, fr, to⟩ := x
  dsimp only at hk hl
  have hk2 : kd = 21 := by omega
  rcases hk2 with rfl
  · obtain ⟨k, rfl⟩ | ⟨k, m, rfl⟩ : (∃ k, ks = [k]) ∨ ∃ k m, ks = [k, m] := ha.let_ rfl
    · by_cases hn : num = 1
      · subst hn
        simpa [letT, nth] using leta1_ok t T nm fr to k (ih k (by simp))
      · simpa [letT, nth, hn] using leta0_ok t T nm num fr to hn k (ih k (by simp))
    · by_cases hn : num = 1
      · subst hn
        simpa [letT, nth] using letb1_ok t T nm fr to k m (ih k (by simp)) (ih m (by simp))
      · simpa [letT, nth, hn] using letb0_ok t T nm num fr to hn k m (ih k (by simp)) (ih m (by simp))
theorem stmt_all (t : List Al.Node) (T : Int → List Bytes) (x : Al.Node) (ha : Arity x) (hl : x.kids.length ≤ 17592186043904) (ih : ∀ k, k ∈ x.kids → Kid t T k) (hk : 21 ≤ x.kind ∧ x.kind ≤ 27) : Puts t 33 [aNode x] (stmtT t T x) := by
  obtain ⟨kd, nm, num, ks, fr, to⟩ := x
  dsimp only at hk hl
  have hk2 : kd = 21 ∨ kd = 22 ∨ kd = 23 ∨ kd = 24 ∨ kd = 25 ∨ kd = 26 ∨ kd = 27 := by omega
  rcases hk2 with rfl | rfl | rfl | rfl | rfl | rfl | rfl
  · simpa [stmtT, nth] using stmt21_ok t T nm num ks fr to _ (let_all t T _ ha hl ih rfl)
  · obtain ⟨k, rfl⟩ : ∃ k, ks = [k] := ha.one (by simp)
    simpa [stmtT, nth] using stmt22_ok t T nm num fr to k (ih k (by simp))
  · obtain ⟨k, m, rfl⟩ : ∃ k m, ks = [k, m] := ha.two (by simp)
    simpa [stmtT, nth] using stmt23_ok t T nm num fr to k m (ih k (by simp)) (ih m (by simp))
  · obtain ⟨k, m, rfl⟩ : ∃ k m, ks = [k, m] := ha.two (by simp)
    simpa [stmtT, nth] using stmt24_ok t T nm num fr to k m (ih k (by simp)) (ih m (by simp))
  · simpa [stmtT, nth] using stmt25_ok t T nm num ks fr to hl ih
  · simpa [stmtT, nth] using stmt26_ok t T nm num ks fr to
  · simpa [stmtT, nth] using stmt27_ok t T nm num ks fr to
theorem expr_all (t : List Al.Node) (T : Int → List Bytes) (x : Al.Node) (ha : Arity x) (hl : x.kids.length ≤ 17592186043904) (ih : ∀ k, k ∈ x.kids → Kid t T k) (hk : 38 ≤ x.kind ∧ x.kind ≤ 43 ∨ x.kind = 45 ∨ x.kind = 46) : Puts t 34 [aNode x] (exprT t T x) := by
  obtain ⟨kd, nm, num, ks, fr, to⟩ := x
  dsimp only at hk hl
  have hk2 : kd = 38 ∨ kd = 39 ∨ kd = 40 ∨ kd = 41 ∨ kd = 42 ∨ kd = 43 ∨ kd = 45 ∨ kd = 46 := by omega
  rcases hk2 with rfl | rfl | rfl | rfl | rfl | rfl | rfl | rfl
  · obtain ⟨k, m, rfl⟩ : ∃ k m, ks = [k, m] := ha.two (by simp)
    simpa [exprT, nth] using expr38_ok t T nm num fr to k m (ih k (by simp)) (ih m (by simp))
  · obtain ⟨k, rfl⟩ : ∃ k, ks = [k] := ha.one (by simp)
    simpa [exprT, nth] using expr39_ok t T nm num fr to k (ih k (by simp))
  · obtain ⟨k, rfl⟩ : ∃ k, ks = [k] := ha.one (by simp)
    simpa [exprT, nth] using expr40_ok t T nm num fr to k (ih k (by simp))
  · obtain ⟨k, rfl⟩ : ∃ k, ks = [k] := ha.one (by simp)
    simpa [exprT, nth] using expr41_ok t T nm num fr to k (ih k (by simp))
  · obtain ⟨k, rfl⟩ : ∃ k, ks = [k] := ha.one (by simp)
    simpa [exprT, nth] using expr42_ok t T nm num fr to k (ih k (by simp))
  · obtain ⟨k, rfl⟩ : ∃ k, ks = [k] := ha.one (by simp)
    by_cases hn : num = 1
    · subst hn
      simpa [exprT, nth] using expr43a_ok t T nm fr to k (ih k (by simp))
    · simpa [exprT, nth, hn] using expr43b_ok t T nm num fr to hn k (ih k (by simp))
  · obtain ⟨k, m, rfl⟩ | ⟨k, m, e, rfl⟩ : (∃ k m, ks = [k, m]) ∨ ∃ k m e, ks = [k, m, e] := ha.if_ rfl
    · simpa [exprT, nth] using expr45a_ok t T nm num fr to k m (ih k (by simp)) (ih m (by simp))
    · simpa [exprT, nth] using expr45b_ok t T nm num fr to k m e (ih k (by simp)) (ih m (by simp)) (ih e (by simp))
  · obtain ⟨k, l, rfl⟩ : ∃ k l, ks = k :: l := ha.match_ rfl
    simp only [List.length_cons] at hl
    simpa [exprT, nth] using expr46_ok t T nm num k l fr to (ih k (by simp)) (by omega) (fun j hj => ih j (by simp [hj]))
theorem prim_all (t : List Al.Node) (T : Int → List Bytes) (x : Al.Node) (ha : Arity x) (hnm : okI x.num) (hl : x.kids.length ≤ 17592186043904) (ih : ∀ k, k ∈ x.kids → Kid t T k) (hk : 30 ≤ x.kind ∧ x.kind ≤ 37 ∨ x.kind = 44 ∨ x.kind = 47 ∨ 50 ≤ x.kind ∧ x.kind ≤ 54) : Puts t 35 [aNode x] (primT T x) := by
  obtain ⟨kd, nm, num, ks, fr, to⟩ := x
  dsimp only at hk hl
  have hk2 : kd = 30 ∨ kd = 31 ∨ kd = 32 ∨ kd = 33 ∨ kd = 34 ∨ kd = 35 ∨ kd = 36 ∨ kd = 37 ∨ kd = 44 ∨ kd = 47 ∨ kd = 50 ∨ kd = 51 ∨ kd = 52 ∨ kd = 53 ∨ kd = 54 := by omega
  rcases hk2 with rfl | rfl | rfl | rfl | rfl | rfl | rfl | rfl | rfl | rfl | rfl | rfl | rfl | rfl | rfl
  · have h0 : 0 ≤ num := ha.num rfl
    simpa [primT, nth, numT, show ¬ num < 0 by omega] using prim30_ok t T nm num h0 hnm.2 ks fr to
  · by_cases hn : num = 1
    · subst hn
      simpa [primT, nth] using prim31a_ok t T nm ks fr to
    · simpa [primT, nth, hn] using prim31b_ok t T nm num hn ks fr to
  · simpa [primT, nth] using prim32_ok t T nm num ks fr to
  · simpa [primT, nth] using prim33_ok t T nm num ks fr to
  · simpa [primT, nth] using prim34_ok t T nm num ks fr to hl ih
  · simpa [primT, nth] using prim35_ok t T nm num ks fr to hl ih
  · obtain ⟨k, rfl⟩ : ∃ k, ks = [k] := ha.one (by simp)
    simpa [primT, nth] using prim36_ok t T nm num fr to k (ih k (by simp))
  · simpa [primT, nth] using prim37_ok t T nm num ks fr to (ha.pick (by simp)) ih
  · simpa [primT, nth] using prim44_ok t T nm num ks fr to ih
  · obtain ⟨k, m, rfl⟩ : ∃ k m, ks = [k, m] := ha.two (by simp)
    simpa [primT, nth] using prim47_ok t T nm num fr to k m (ih k (by simp)) (ih m (by simp))
  · simpa [primT, nth] using prim50_ok t T nm num ks fr to
  · simpa [primT, nth] using prim51_ok t T nm num ks fr to
  · have h0 : -9223372036854775808 < num := ha.least rfl
    by_cases hn : num < 0
    · simpa [primT, nth, numT, hn] using prim52b_ok t T nm num hn h0 ks fr to
    · simpa [primT, nth, numT, hn] using prim52a_ok t T nm num (by omega) hnm.2 ks fr to
  · by_cases hn : num = 1
    · subst hn
      simpa [primT, nth] using prim53a_ok t T nm ks fr to
    · simpa [primT, nth, hn] using prim53b_ok t T nm num hn ks fr to
  · simpa [primT, nth] using prim54_ok t T nm num ks fr to (ha.pick (by simp)) ih
theorem item_all (t : List Al.Node) (T : Int → List Bytes) (x : Al.Node) (ha : Arity x) (hl : x.kids.length ≤ 17592186043904) (ih : ∀ k, k ∈ x.kids → Kid t T k) (hk : 1 ≤ x.kind ∧ x.kind ≤ 7) : Puts t 29 [aNode x] (itemT t T x) := by
  obtain ⟨kd, nm, num, ks, fr, to⟩ := x
  dsimp only at hk hl
  have hk2 : kd = 1 ∨ kd = 2 ∨ kd = 3 ∨ kd = 4 ∨ kd = 5 ∨ kd = 6 ∨ kd = 7 := by omega
  rcases hk2 with rfl | rfl | rfl | rfl | rfl | rfl | rfl
  · simpa [itemT, nth] using item1_ok t T nm num ks fr to hl ih
  · obtain ⟨n, hn, hlen⟩ : ∃ n : Nat, num = n ∧ ks.length = n + 2 := ha.fn rfl
    subst hn
    obtain ⟨a, hka⟩ : ∃ a, ks[n]? = some a := ⟨_, List.getElem?_eq_getElem (by omega)⟩
    obtain ⟨b, hkb⟩ : ∃ b, ks[n + 1]? = some b := ⟨_, List.getElem?_eq_getElem (by omega)⟩
    have hf := function_ok t T nm n ks fr to hl ih hlen a hka b hkb
    have := item2_ok t T nm n ks fr to _ hf
    simpa [itemT, fnT, nth, List.getD_eq_getElem?_getD, hka, hkb] using this
  · simpa [itemT, nth] using item3_ok t T nm num ks fr to hl ih
  · simpa [itemT, nth] using item4_ok t T nm num ks fr to hl ih
  · obtain ⟨k, rfl⟩ : ∃ k, ks = [k] := ha.one (by simp)
    simpa [itemT, nth] using item5_ok t T nm num fr to k (ih k (by simp))
  · simpa [itemT, nth] using item6_ok t T nm num ks fr to ih
  · obtain ⟨k, rfl⟩ : ∃ k, ks = [k] := ha.one (by simp)
    by_cases hn : num = 1
    · subst hn
      simpa [itemT, nth] using item7a_ok t T nm fr to k (ih k (by simp))
    · simpa [itemT, nth, hn] using item7b_ok t T nm num fr to hn k (ih k (by simp))
theorem node_all (t : List Al.Node) (ht : okTree t) (hg : Good t) : ∀ (f : Nat) (i : Int), 0 ≤ i → i < f → i < t.length → Kid t (nodeT t f) i
  | 0, i, h0, h1, _ => by omega
  | f + 1, i, h0, h1, h2 => by
    obtain ⟨x, hx⟩ : ∃ x, t[i.toNat]? = some x := ⟨_, List.getElem?_eq_getElem (by omega)⟩
    have ih : ∀ k, k ∈ x.kids → Kid t (nodeT t f) k := fun k hk => by
      have := hg.kids hx k hk
      exact node_all t ht hg f k this.1 (by omega) (by omega)
    have ox := ht.node x (List.mem_of_getElem? hx)
    have hl := ox.len
    have ha := hg.arity hx
    have hkn := (hg.parts hx).1
    simp only [knownS, decide_eq_true_eq] at hkn
    refine ⟨h0, h2, ?_⟩
    rw [nodeT, hx]
    show Puts t _ _ (tokT t (nodeT t f) x)
    unfold tokT
    by_cases h20 : x.kind = 20
    · rw [if_pos h20]
      refine node_block t i x h0 hx h20 _ ?_
      obtain ⟨kd, nm, num, ks, fr, to⟩ := x
      dsimp only at h20
      subst h20
      exact block_ok t (nodeT t f) nm num ks fr to hl ih
    rw [if_neg h20]
    by_cases h7 : x.kind ≤ 7
    · rw [if_pos h7]
      exact node_item t i x h0 hx h7 _ (item_all t _ x ha hl ih (by omega))
    rw [if_neg h7]
    by_cases hty : 10 ≤ x.kind ∧ x.kind ≤ 16
    · rw [if_pos hty]
      exact node_typ t i x h0 hx hty _ (typ_all t _ x ha hl ih hty)
    rw [if_neg hty]
    by_cases hst : 21 ≤ x.kind ∧ x.kind ≤ 27
    · rw [if_pos hst]
      exact node_stmt t i x h0 hx hst _ (stmt_all t _ x ha hl ih hst)
    rw [if_neg hst]
    by_cases hex : 38 ≤ x.kind ∧ x.kind ≤ 43 ∨ x.kind = 45 ∨ x.kind = 46
    · rw [if_pos hex]
      exact node_expr t i x h0 hx hex _ (expr_all t _ x ha hl ih hex)
    rw [if_neg hex]
    exact node_prim t i x h0 hx (by omega) _ (prim_all t _ x ha ox.num hl ih (by omega))
end Go.Proofs.Tryd
