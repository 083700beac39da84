/- The reference's printers of trees: the kinds joined; a node's tokens. -/
import Derived.Test.YtobcdpmjaeflmaaGreatDoorRrC
import Derived.Test.YtobcdpmjaeflmaaGreatDoorRrP
set_option linter.unusedVariables false
set_option linter.unusedSimpArgs false
namespace Go.Proofs.Tryz
open Go Go.Al
set_option maxRecDepth 20000
set_option linter.unusedVariables false
theorem rtyp_all (t : List Al.Node) (T : Int → List Bytes) (x : Al.Node) (ha : Arity x) (hl : x.kids.length ≤ 17592186043904) (ih : ∀ k, k ∈ x.kids → KidR t T k) (hk : 10 ≤ x.kind ∧ x.kind ≤ 16) : PutsR t 50 [aNode x] (typT T x) := by
  obtain ⟨kd, nm, num, ks, fr, to⟩ := x
  dsimp only at hk hl
  have hk2 : kd = 10 ∨ kd = 11 ∨ kd = 12 ∨ kd = 13 ∨ kd = 14 ∨ kd = 15 ∨ kd = 16 := by omega
  rcases hk2 with rfl | rfl | rfl | rfl | rfl | rfl | rfl
  · simpa [typT, nth] using rtyp10_ok t T nm num ks fr to
  · simpa [typT, nth] using rtyp11_ok t T nm num ks fr to
  · simpa [typT, nth] using rtyp12_ok t T nm num ks fr to
  · simpa [typT, nth] using rtyp13_ok t T nm num ks fr to
  · obtain ⟨k, rfl⟩ : ∃ k, ks = [k] := ha.one (by simp)
    simpa [typT, nth] using rtyp14_ok t T nm num fr to k (ih k (by simp))
  · obtain ⟨k, rfl⟩ : ∃ k, ks = [k] := ha.one (by simp)
    simpa [typT, nth] using rtyp15_ok t T nm num fr to k (ih k (by simp))
  · obtain ⟨k, rfl⟩ : ∃ k, ks = [k] := ha.one (by simp)
    simpa [typT, nth] using rtyp16_ok t T nm num fr to k (ih k (by simp))
theorem rstmt_all (t : List Al.Node) (T : Int → List Bytes) (x : Al.Node) (ha : Arity x) (hl : x.kids.length ≤ 17592186043904) (ih : ∀ k, k ∈ x.kids → KidR t T k) (hk : 21 ≤ x.kind ∧ x.kind ≤ 27) : PutsR t 52 [aNode x] (stmtT t T x) := by
  obtain ⟨kd, nm, num, ks, fr, to⟩ := x
  dsimp only at hk hl
  have hk2 : kd = 21 ∨ kd = 22 ∨ kd = 23 ∨ kd = 24 ∨ kd = 25 ∨ kd = 26 ∨ kd = 27 := by omega
  rcases hk2 with rfl | rfl | rfl | rfl | rfl | rfl | rfl
  · obtain ⟨k, rfl⟩ | ⟨k, m, rfl⟩ : (∃ k, ks = [k]) ∨ ∃ k m, ks = [k, m] := ha.let_ rfl
    · by_cases hn : num = 1
      · subst hn
        simpa [stmtT, letT, nth] using rleta1_ok t T nm fr to k (ih k (by simp))
      · simpa [stmtT, letT, nth, hn] using rleta0_ok t T nm num fr to hn k (ih k (by simp))
    · by_cases hn : num = 1
      · subst hn
        simpa [stmtT, letT, nth] using rletb1_ok t T nm fr to k m (ih k (by simp)) (ih m (by simp))
      · simpa [stmtT, letT, nth, hn] using rletb0_ok t T nm num fr to hn k m (ih k (by simp)) (ih m (by simp))
  · obtain ⟨k, rfl⟩ : ∃ k, ks = [k] := ha.one (by simp)
    simpa [stmtT, nth] using rstmt22_ok t T nm num fr to k (ih k (by simp))
  · obtain ⟨k, m, rfl⟩ : ∃ k m, ks = [k, m] := ha.two (by simp)
    simpa [stmtT, nth] using rstmt23_ok t T nm num fr to k m (ih k (by simp)) (ih m (by simp))
  · obtain ⟨k, m, rfl⟩ : ∃ k m, ks = [k, m] := ha.two (by simp)
    simpa [stmtT, nth] using rstmt24_ok t T nm num fr to k m (ih k (by simp)) (ih m (by simp))
  · obtain rfl | ⟨k, rfl⟩ : ks = [] ∨ ∃ k, ks = [k] := ha.opt rfl
    · simpa [stmtT, allT] using rstmt25a_ok t T nm num fr to
    · simpa [stmtT, allT] using rstmt25b_ok t T nm num fr to k (ih k (by simp))
  · simpa [stmtT, nth] using rstmt26_ok t T nm num ks fr to
  · simpa [stmtT, nth] using rstmt27_ok t T nm num ks fr to
theorem rprefix_all (t : List Al.Node) (T : Int → List Bytes) (x : Al.Node) (ha : Arity x) (hl : x.kids.length ≤ 17592186043904) (ih : ∀ k, k ∈ x.kids → KidR t T k) (hk : x.kind = 39 ∨ x.kind = 40 ∨ x.kind = 42 ∨ x.kind = 43) : PutsR t 59 [aNode x] (exprT t T x) := by
  obtain ⟨kd, nm, num, ks, fr, to⟩ := x
  dsimp only at hk hl
  have hk2 : kd = 39 ∨ kd = 40 ∨ kd = 42 ∨ kd = 43 := by omega
  rcases hk2 with rfl | rfl | rfl | rfl
  · obtain ⟨k, rfl⟩ : ∃ k, ks = [k] := ha.one (by simp)
    simpa [exprT, nth] using rexpr39_ok t T nm num fr to k (ih k (by simp))
  · obtain ⟨k, rfl⟩ : ∃ k, ks = [k] := ha.one (by simp)
    simpa [exprT, nth] using rexpr40_ok t T nm num fr to k (ih k (by simp))
  · obtain ⟨k, rfl⟩ : ∃ k, ks = [k] := ha.one (by simp)
    simpa [exprT, nth] using rexpr42_ok t T nm num fr to k (ih k (by simp))
  · obtain ⟨k, rfl⟩ : ∃ k, ks = [k] := ha.one (by simp)
    by_cases hn : num = 1
    · subst hn
      simpa [exprT, nth] using rexpr43a_ok t T nm fr to k (ih k (by simp))
    · simpa [exprT, nth, hn] using rexpr43b_ok t T nm num fr to hn k (ih k (by simp))
theorem rchoice_all (t : List Al.Node) (T : Int → List Bytes) (x : Al.Node) (ha : Arity x) (hl : x.kids.length ≤ 17592186043904) (ih : ∀ k, k ∈ x.kids → KidR t T k) (hk : x.kind = 45 ∨ x.kind = 46) : PutsR t 58 [aNode x] (exprT t T x) := by
  obtain ⟨kd, nm, num, ks, fr, to⟩ := x
  dsimp only at hk hl
  have hk2 : kd = 45 ∨ kd = 46 := by omega
  rcases hk2 with rfl | rfl
  · obtain ⟨k, m, rfl⟩ | ⟨k, m, e, rfl⟩ : (∃ k m, ks = [k, m]) ∨ ∃ k m e, ks = [k, m, e] := ha.if_ rfl
    · simpa [exprT, nth] using rexpr45a_ok t T nm num fr to k m (ih k (by simp)) (ih m (by simp))
    · simpa [exprT, nth] using rexpr45b_ok t T nm num fr to k m e (ih k (by simp)) (ih m (by simp)) (ih e (by simp))
  · obtain ⟨k, l, rfl⟩ : ∃ k l, ks = k :: l := ha.match_ rfl
    simp only [List.length_cons] at hl
    simpa [exprT, nth] using rexpr46_ok t T nm num k l fr to (ih k (by simp)) (by omega) (fun j hj => ih j (by simp [hj]))
theorem rarm_all (t : List Al.Node) (T : Int → List Bytes) (x : Al.Node) (ha : Arity x) (hl : x.kids.length ≤ 17592186043904) (ih : ∀ k, k ∈ x.kids → KidR t T k) (hk : x.kind = 47) : PutsR t 58 [aNode x] (primT T x) := by
  obtain ⟨kd, nm, num, ks, fr, to⟩ := x
  dsimp only at hk hl
  have hk2 : kd = 47 := by omega
  rcases hk2 with rfl
  · obtain ⟨k, m, rfl⟩ : ∃ k m, ks = [k, m] := ha.two (by simp)
    simpa [primT, nth] using rprim47_ok t T nm num fr to k m (ih k (by simp)) (ih m (by simp))
theorem rcall_all (t : List Al.Node) (T : Int → List Bytes) (x : Al.Node) (ha : Arity x) (hl : x.kids.length ≤ 17592186043904) (ih : ∀ k, k ∈ x.kids → KidR t T k) (hk : x.kind = 34 ∨ x.kind = 35 ∨ x.kind = 36 ∨ x.kind = 44) : PutsR t 57 [aNode x] (primT T x) := by
  obtain ⟨kd, nm, num, ks, fr, to⟩ := x
  dsimp only at hk hl
  have hk2 : kd = 34 ∨ kd = 35 ∨ kd = 36 ∨ kd = 44 := by omega
  rcases hk2 with rfl | rfl | rfl | rfl
  · simpa [primT, nth] using rprim34_ok t T nm num ks fr to hl ih
  · simpa [primT, nth] using rprim35_ok t T nm num ks fr to hl ih
  · obtain ⟨k, rfl⟩ : ∃ k, ks = [k] := ha.one (by simp)
    simpa [primT, nth] using rprim36_ok t T nm num fr to k (ih k (by simp))
  · obtain ⟨k, rfl⟩ : ∃ k, ks = [k] := ha.one (by simp)
    simpa [primT, perhapsT] using rprim44_ok t T nm num fr to k (ih k (by simp))
theorem rpick_all (t : List Al.Node) (T : Int → List Bytes) (x : Al.Node) (ha : Arity x) (hshort : x.name.length ≤ 130) (hl : x.kids.length ≤ 17592186043904) (ih : ∀ k, k ∈ x.kids → KidR t T k) (hk : x.kind = 37 ∨ x.kind = 54) : PutsR t 55 [aNode x] (primT T x) := by
  obtain ⟨kd, nm, num, ks, fr, to⟩ := x
  dsimp only at hk hl hshort
  have hk2 : kd = 37 ∨ kd = 54 := by omega
  rcases hk2 with rfl | rfl
  · obtain ⟨a, b, hnm, hab, hp⟩ := pick_parts (ha.parts (by simp))
    dsimp only at hnm hp
    match ks, ih with
    | [], ih => simpa [primT, perhapsT, hp] using picka_ok t T 37 nm num fr to a b hnm hab hshort
    | k :: ks, ih => simpa [primT, perhapsT, hp] using pickb_ok t T 37 nm num fr to ks k (ih k (by simp)) a b hnm hab hshort
  · obtain ⟨a, b, hnm, hab, hp⟩ := pick_parts (ha.parts (by simp))
    dsimp only at hnm hp
    match ks, ih with
    | [], ih => simpa [primT, perhapsT, hp] using picka_ok t T 54 nm num fr to a b hnm hab hshort
    | k :: ks, ih => simpa [primT, perhapsT, hp] using pickb_ok t T 54 nm num fr to ks k (ih k (by simp)) a b hnm hab hshort
theorem ritem_all (t : List Al.Node) (T : Int → List Bytes) (x : Al.Node) (ha : Arity x) (hl : x.kids.length ≤ 17592186043904) (ih : ∀ k, k ∈ x.kids → KidR t T k) (hk : 1 ≤ x.kind ∧ x.kind ≤ 7) : PutsR t 49 [aNode x] (itemT t T x) := by
  obtain ⟨kd, nm, num, ks, fr, to⟩ := x
  dsimp only at hk hl
  have hk2 : kd = 1 ∨ kd = 2 ∨ kd = 3 ∨ kd = 4 ∨ kd = 5 ∨ kd = 6 ∨ kd = 7 := by omega
  rcases hk2 with rfl | rfl | rfl | rfl | rfl | rfl | rfl
  · simpa [itemT, nth] using ritem1_ok t T nm num ks fr to hl ih
  · obtain ⟨n, hn, hlen⟩ : ∃ n : Nat, num = n ∧ ks.length = n + 2 := ha.fn rfl
    subst hn
    obtain ⟨a, hka⟩ : ∃ a, ks[n]? = some a := ⟨_, List.getElem?_eq_getElem (by omega)⟩
    obtain ⟨b, hkb⟩ : ∃ b, ks[n + 1]? = some b := ⟨_, List.getElem?_eq_getElem (by omega)⟩
    have hf := ritem2_ok t T nm n ks fr to hl ih hlen a hka b hkb
    simpa [itemT, fnT, nth, List.getD_eq_getElem?_getD, hka, hkb] using hf
  · simpa [itemT, nth] using ritem3_ok t T nm num ks fr to hl ih
  · simpa [itemT, nth] using ritem4_ok t T nm num ks fr to hl ih
  · obtain ⟨k, rfl⟩ : ∃ k, ks = [k] := ha.one (by simp)
    simpa [itemT, nth] using ritem5_ok t T nm num fr to k (ih k (by simp))
  · match ks, ih with
    | [], ih => simpa [itemT, perhapsT] using ritem6a_ok t T nm num fr to
    | k :: ks, ih => simpa [itemT, perhapsT] using ritem6b_ok t T nm num fr to ks k (ih k (by simp))
  · obtain ⟨k, rfl⟩ : ∃ k, ks = [k] := ha.one (by simp)
    by_cases hn : num = 1
    · subst hn
      simpa [itemT, nth] using ritem7a_ok t T nm fr to k (ih k (by simp))
    · simpa [itemT, nth, hn] using ritem7b_ok t T nm num fr to hn k (ih k (by simp))
theorem rnumber_all (t : List Al.Node) (T : Int → List Bytes) (n : Int) (h0 : -9223372036854775808 < n) (h1 : n ≤ 9223372036854775807) : PutsR t 54 [I n] (numT n) := by
  unfold numT
  split
  · exact numberb_ok t T n (by omega) h0
  · exact numbera_ok t T n (by omega) h1
theorem rnode_all (t : List Al.Node) (ht : okTree t) (hg : Good t) : ∀ (f : Nat) (i : Int), 0 ≤ i → i < f → i < t.length → KidR t (nodeT t f) i
  | 0, i, h0, h1, _ => by omega
  | f + 1, i, h0, h1, h2 => by
    obtain ⟨x, hx⟩ : ∃ x, t[i.toNat]? = some x := ⟨_, List.getElem?_eq_getElem (by omega)⟩
    have ih : ∀ k, k ∈ x.kids → KidR t (nodeT t f) k := fun k hk => by
      have := hg.kids hx k hk
      exact rnode_all t ht hg f k this.1 (by omega) (by omega)
    have ox := ht.node x (List.mem_of_getElem? hx)
    have hl := ox.len
    have ha := hg.arity hx
    have hs := hg.short hx
    have hnm := ox.num
    have hkn := (hg.parts hx).1
    simp only [knownS, decide_eq_true_eq] at hkn
    have hrow : lat (List.map rNode t) i.toNat = some (rNode x) := by rw [lat_eq, List.getElem?_map, hx]; rfl
    have hlt := (List.getElem?_eq_some_iff.1 hx).1
    refine ⟨h0, h2, ?_⟩
    rw [nodeT, hx]
    show PutsR t _ _ (tokT t (nodeT t f) x)
    unfold tokT
    by_cases h20 : x.kind = 20
    · rw [if_pos h20]
      obtain ⟨kd, nm, num, ks, fr, to⟩ := x
      dsimp only at h20
      subst h20
      exact rnode20_ok t (nodeT t f) nm num ks fr to hl ih i h0 hx hrow hlt
    rw [if_neg h20]
    by_cases h7 : x.kind ≤ 7
    · rw [if_pos h7]
      exact rnode_item t i x h0 hx h7 _ (ritem_all t _ x ha hl ih (by omega))
    rw [if_neg h7]
    by_cases hty : 10 ≤ x.kind ∧ x.kind ≤ 16
    · rw [if_pos hty]
      exact rnode_typ t i x h0 hx hty _ (rtyp_all t _ x ha hl ih hty)
    rw [if_neg hty]
    by_cases hst : 21 ≤ x.kind ∧ x.kind ≤ 27
    · rw [if_pos hst]
      exact rnode_stmt t i x h0 hx hst _ (rstmt_all t _ x ha hl ih hst)
    rw [if_neg hst]
    by_cases hex : 38 ≤ x.kind ∧ x.kind ≤ 43 ∨ x.kind = 45 ∨ x.kind = 46
    · rw [if_pos hex]
      by_cases hc : x.kind = 45 ∨ x.kind = 46
      · exact rnode_choice t i x h0 hx (by omega) _ (rchoice_all t _ x ha hl ih hc)
      by_cases hp : x.kind = 39 ∨ x.kind = 40 ∨ x.kind = 42 ∨ x.kind = 43
      · exact rnode_prefix t i x h0 hx hp _ (rprefix_all t _ x ha hl ih hp)
      obtain ⟨kd, nm, num, ks, fr, to⟩ := x
      dsimp only at hex hc hp
      have hk2 : kd = 38 ∨ kd = 41 := by omega
      rcases hk2 with rfl | rfl
      · obtain ⟨k, m, rfl⟩ : ∃ k m, ks = [k, m] := ha.two (by simp)
        simpa [exprT, nth] using rnode38_ok t (nodeT t f) nm num fr to k m (ih k (by simp)) (ih m (by simp)) i h0 hx
      · obtain ⟨k, rfl⟩ : ∃ k, ks = [k] := ha.one (by simp)
        simpa [exprT, nth] using rnode41_ok t (nodeT t f) nm num fr to k (ih k (by simp)) i h0 hx
    rw [if_neg hex]
    by_cases hnum : x.kind = 30 ∨ x.kind = 52
    · have h3 : -9223372036854775808 < x.num := by
        rcases hnum with h | h
        · have := ha.num h; omega
        · exact ha.least h
      have e : primT (nodeT t f) x = numT x.num := by unfold primT; rw [if_pos hnum]
      rw [e]
      exact rnode_num t i x h0 hx hnum _ (rnumber_all t (nodeT t f) x.num h3 hnm.2)
    by_cases hpk : x.kind = 37 ∨ x.kind = 54
    · exact rnode_pick t i x h0 hx hpk _ (rpick_all t _ x ha hs hl ih hpk)
    by_cases hcl : x.kind = 34 ∨ x.kind = 35 ∨ x.kind = 36 ∨ x.kind = 44
    · exact rnode_call t i x h0 hx hcl _ (rcall_all t _ x ha hl ih hcl)
    by_cases harm : x.kind = 47
    · exact rnode_choice t i x h0 hx (by omega) _ (rarm_all t _ x ha hl ih harm)
    obtain ⟨kd, nm, num, ks, fr, to⟩ := x
    dsimp only at hnum hpk hcl harm hkn h20 h7 hty hst hex
    have hk2 : kd = 31 ∨ kd = 32 ∨ kd = 33 ∨ kd = 50 ∨ kd = 51 ∨ kd = 53 := by omega
    rcases hk2 with rfl | rfl | rfl | rfl | rfl | rfl
    · by_cases hn : num = 1
      · subst hn
        simpa [primT] using rnode31a_ok t (nodeT t f) nm ks fr to i h0 hx
      · simpa [primT, hn] using rnode31b_ok t (nodeT t f) nm num hn ks fr to i h0 hx
    · simpa [primT] using rnode32_ok t (nodeT t f) nm num ks fr to i h0 hx
    · simpa [primT] using rnode33_ok t (nodeT t f) nm num ks fr to i h0 hx
    · simpa [primT] using rnode50_ok t (nodeT t f) nm num ks fr to i h0 hx
    · simpa [primT] using rnode51_ok t (nodeT t f) nm num ks fr to i h0 hx
    · by_cases hn : num = 1
      · subst hn
        simpa [primT] using rnode53a_ok t (nodeT t f) nm ks fr to i h0 hx
      · simpa [primT, hn] using rnode53b_ok t (nodeT t f) nm num hn ks fr to i h0 hx
end Go.Proofs.Tryz
