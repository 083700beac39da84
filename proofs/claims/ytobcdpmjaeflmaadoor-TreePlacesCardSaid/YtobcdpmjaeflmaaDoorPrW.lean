/- How long the tokens of a right tree are: plain laws. -/
import Derived.Test.YtobcdpmjaeflmaaDoorPrD
import Derived.Lib.ItoaLen
set_option linter.unusedVariables false
set_option linter.unusedSimpArgs false
namespace Go.Proofs.Tryd
open Go Go.Al
set_option maxRecDepth 20000
set_option linter.unusedVariables false
def wt (ts : List Bytes) : Nat := (ts.map fun s => s.length + 1).sum
theorem wt_nil : wt [] = 0 := rfl
theorem wt_cons (s : Bytes) (ts : List Bytes) : wt (s :: ts) = s.length + 1 + wt ts := by simp [wt]
theorem wt_append (a b : List Bytes) : wt (a ++ b) = wt a + wt b := by simp [wt]
def sumT (T : Int → List Bytes) (l : List Int) : Nat := (l.map fun k => wt (T k) + 4).sum
theorem sumT_cons (T : Int → List Bytes) (k : Int) (l : List Int) : sumT T (k :: l) = wt (T k) + 4 + sumT T l := by simp [sumT]
theorem wt_commas (T : Int → List Bytes) : ∀ l : List Int, wt (l.map fun k => [44] :: T k).flatten ≤ sumT T l
  | [] => by simp [wt_nil, sumT]
  | k :: l => by
    have ih := wt_commas T l
    rw [sumT_cons]
    simp only [List.map_cons, List.flatten_cons, wt_append, wt_cons, List.length_cons, List.length_nil]
    omega
theorem wt_list (T : Int → List Bytes) : ∀ l : List Int, wt (listT T l) ≤ sumT T l
  | [] => by simp [listT, wt_nil]
  | k :: l => by
    have := wt_commas T l
    rw [sumT_cons]
    simp only [listT, wt_append]
    omega
theorem wt_all (T : Int → List Bytes) : ∀ l : List Int, wt (allT T l) ≤ sumT T l
  | [] => by simp [allT, wt_nil]
  | k :: l => by
    have ih := wt_all T l
    rw [sumT_cons]
    simp only [allT, List.map_cons, List.flatten_cons, wt_append] at ih ⊢
    omega
theorem wt_perhaps (T : Int → List Bytes) : ∀ l : List Int, wt (perhapsT T l) ≤ sumT T l
  | [] => by simp [perhapsT, wt_nil]
  | k :: l => by
    rw [sumT_cons]
    simp only [perhapsT, wt_append, wt_cons, wt_nil, List.length_cons, List.length_nil]
    omega
theorem wt_op (t : List Al.Node) (T : Int → List Bytes) (k : Int) (get : Bool) : wt (opT t T k get) ≤ wt (T k) + 4 := by
  unfold opT operandT
  split
  · omega
  · simp only [wt_append, wt_cons, wt_nil, List.length_cons, List.length_nil]
    omega
theorem wt_num (n : Int) (h : okI n) : wt (numT n) ≤ 60 := by
  unfold numT decT
  split
  · simp only [wt_cons, wt_nil, List.length_cons, List.length_nil]
    by_cases hl : n = -9223372036854775808
    · subst hl
      have : (Lib.itoa (0 - -9223372036854775808)).length ≤ 22 := by
        rw [show (0 - -9223372036854775808 : Int) = ((9223372036854775808 : Nat) : Int) by omega, Lib.itoa_nonneg, Lib.decDigits_length]
        have := Lib.nDigits_le20 9223372036854775808 (by omega)
        omega
      omega
    · have := Lib.itoa_length_le (0 - n) (by have := h.2; omega) (by have := h.1; omega)
      omega
  · have := Lib.itoa_length_le n h.1 h.2
    simp only [wt_cons, wt_nil]
    omega
theorem wt_typ (t : List Al.Node) (T : Int → List Bytes) (x : Al.Node) (ha : Arity x) (hnm : x.name.length ≤ 130) (hi : okI x.num) (hk : 10 ≤ x.kind ∧ x.kind ≤ 16) : wt (typT T x) ≤ 600 + sumT T x.kids := by
  obtain ⟨kd, nm, num, ks, fr, to⟩ := x
  dsimp only at hk hnm hi ⊢
  have hk2 : kd = 10 ∨ kd = 11 ∨ kd = 12 ∨ kd = 13 ∨ kd = 14 ∨ kd = 15 ∨ kd = 16 := by omega
  rcases hk2 with rfl | rfl | rfl | rfl | rfl | rfl | rfl
  · simp [typT, nth, wt_cons, wt_nil, wt_append, sumT] <;> omega
  · simp [typT, nth, wt_cons, wt_nil, wt_append, sumT] <;> omega
  · simp [typT, nth, wt_cons, wt_nil, wt_append, sumT] <;> omega
  · simp [typT, nth, wt_cons, wt_nil, wt_append, sumT] <;> omega
  · obtain ⟨k, rfl⟩ : ∃ k, ks = [k] := ha.one (by simp)
    have ho := wt_op t T k
    have h1 := ho true
    have h2 := ho false
    simp [typT, nth, wt_cons, wt_nil, wt_append, sumT] <;> omega
  · obtain ⟨k, rfl⟩ : ∃ k, ks = [k] := ha.one (by simp)
    have ho := wt_op t T k
    have h1 := ho true
    have h2 := ho false
    simp [typT, nth, wt_cons, wt_nil, wt_append, sumT] <;> omega
  · obtain ⟨k, rfl⟩ : ∃ k, ks = [k] := ha.one (by simp)
    have ho := wt_op t T k
    have h1 := ho true
    have h2 := ho false
    simp [typT, nth, wt_cons, wt_nil, wt_append, sumT] <;> omega
theorem wt_stmt (t : List Al.Node) (T : Int → List Bytes) (x : Al.Node) (ha : Arity x) (hnm : x.name.length ≤ 130) (hi : okI x.num) (hk : 21 ≤ x.kind ∧ x.kind ≤ 27) : wt (stmtT t T x) ≤ 600 + sumT T x.kids := by
  obtain ⟨kd, nm, num, ks, fr, to⟩ := x
  dsimp only at hk hnm hi ⊢
  have hk2 : kd = 21 ∨ kd = 22 ∨ kd = 23 ∨ kd = 24 ∨ kd = 25 ∨ kd = 26 ∨ kd = 27 := by omega
  rcases hk2 with rfl | rfl | rfl | rfl | rfl | rfl | rfl
  · obtain ⟨k, rfl⟩ | ⟨k, m, rfl⟩ : (∃ k, ks = [k]) ∨ ∃ k m, ks = [k, m] := ha.let_ rfl
    · by_cases hn : num = 1
      · subst hn
        simp [stmtT, letT, nth, wt_cons, wt_nil, wt_append, sumT] <;> omega
      · simp [stmtT, letT, nth, wt_cons, wt_nil, wt_append, sumT, hn] <;> omega
    · by_cases hn : num = 1
      · subst hn
        simp [stmtT, letT, nth, wt_cons, wt_nil, wt_append, sumT] <;> omega
      · simp [stmtT, letT, nth, wt_cons, wt_nil, wt_append, sumT, hn] <;> omega
  · obtain ⟨k, rfl⟩ : ∃ k, ks = [k] := ha.one (by simp)
    have ho := wt_op t T k
    have h1 := ho true
    have h2 := ho false
    simp [stmtT, nth, wt_cons, wt_nil, wt_append, sumT] <;> omega
  · obtain ⟨k, m, rfl⟩ : ∃ k m, ks = [k, m] := ha.two (by simp)
    have h1 := wt_op t T k false
    have h2 := wt_op t T m false
    simp [stmtT, nth, wt_cons, wt_nil, wt_append, sumT] <;> omega
  · obtain ⟨k, m, rfl⟩ : ∃ k m, ks = [k, m] := ha.two (by simp)
    have h1 := wt_op t T k false
    have h2 := wt_op t T m false
    simp [stmtT, nth, wt_cons, wt_nil, wt_append, sumT] <;> omega
  · have h1 := wt_list T ks
    have h2 := wt_all T ks
    simp [stmtT, nth, wt_cons, wt_nil, wt_append] <;> omega
  · simp [stmtT, nth, wt_cons, wt_nil, wt_append, sumT] <;> omega
  · simp [stmtT, nth, wt_cons, wt_nil, wt_append, sumT] <;> omega
theorem wt_expr (t : List Al.Node) (T : Int → List Bytes) (x : Al.Node) (ha : Arity x) (hnm : x.name.length ≤ 130) (hi : okI x.num) (hk : 38 ≤ x.kind ∧ x.kind ≤ 43 ∨ x.kind = 45 ∨ x.kind = 46) : wt (exprT t T x) ≤ 600 + sumT T x.kids := by
  obtain ⟨kd, nm, num, ks, fr, to⟩ := x
  dsimp only at hk hnm hi ⊢
  have hk2 : kd = 38 ∨ kd = 39 ∨ kd = 40 ∨ kd = 41 ∨ kd = 42 ∨ kd = 43 ∨ kd = 45 ∨ kd = 46 := by omega
  rcases hk2 with rfl | rfl | rfl | rfl | rfl | rfl | rfl | rfl
  · obtain ⟨k, m, rfl⟩ : ∃ k m, ks = [k, m] := ha.two (by simp)
    have h1 := wt_op t T k false
    have h2 := wt_op t T m false
    simp [exprT, nth, wt_cons, wt_nil, wt_append, sumT] <;> omega
  · obtain ⟨k, rfl⟩ : ∃ k, ks = [k] := ha.one (by simp)
    have ho := wt_op t T k
    have h1 := ho true
    have h2 := ho false
    simp [exprT, nth, wt_cons, wt_nil, wt_append, sumT] <;> omega
  · obtain ⟨k, rfl⟩ : ∃ k, ks = [k] := ha.one (by simp)
    have ho := wt_op t T k
    have h1 := ho true
    have h2 := ho false
    simp [exprT, nth, wt_cons, wt_nil, wt_append, sumT] <;> omega
  · obtain ⟨k, rfl⟩ : ∃ k, ks = [k] := ha.one (by simp)
    have ho := wt_op t T k
    have h1 := ho true
    have h2 := ho false
    simp [exprT, nth, wt_cons, wt_nil, wt_append, sumT] <;> omega
  · obtain ⟨k, rfl⟩ : ∃ k, ks = [k] := ha.one (by simp)
    have ho := wt_op t T k
    have h1 := ho true
    have h2 := ho false
    simp [exprT, nth, wt_cons, wt_nil, wt_append, sumT] <;> omega
  · obtain ⟨k, rfl⟩ : ∃ k, ks = [k] := ha.one (by simp)
    have h2 := wt_op t T k false
    by_cases hn : num = 1
    · subst hn
      simp [exprT, nth, wt_cons, wt_nil, wt_append, sumT] <;> omega
    · simp [exprT, nth, wt_cons, wt_nil, wt_append, sumT, hn] <;> omega
  · obtain ⟨k, m, rfl⟩ | ⟨k, m, e, rfl⟩ : (∃ k m, ks = [k, m]) ∨ ∃ k m e, ks = [k, m, e] := ha.if_ rfl
    · have h1 := wt_op t T k false
      simp [exprT, nth, wt_cons, wt_nil, wt_append, sumT] <;> omega
    · have h1 := wt_op t T k false
      simp [exprT, nth, wt_cons, wt_nil, wt_append, sumT] <;> omega
  · obtain ⟨k, l, rfl⟩ : ∃ k l, ks = k :: l := ha.match_ rfl
    have h1 := wt_op t T k false
    have h2 := wt_list T l
    simp only [sumT_cons]
    simp [exprT, nth, wt_cons, wt_nil, wt_append] <;> omega
theorem wt_prim (t : List Al.Node) (T : Int → List Bytes) (x : Al.Node) (ha : Arity x) (hnm : x.name.length ≤ 130) (hi : okI x.num) (hk : 30 ≤ x.kind ∧ x.kind ≤ 37 ∨ x.kind = 44 ∨ x.kind = 47 ∨ 50 ≤ x.kind ∧ x.kind ≤ 54) : wt (primT T x) ≤ 600 + sumT T x.kids := by
  obtain ⟨kd, nm, num, ks, fr, to⟩ := x
  dsimp only at hk hnm hi ⊢
  have hk2 : kd = 30 ∨ kd = 31 ∨ kd = 32 ∨ kd = 33 ∨ kd = 34 ∨ kd = 35 ∨ kd = 36 ∨ kd = 37 ∨ kd = 44 ∨ kd = 47 ∨ kd = 50 ∨ kd = 51 ∨ kd = 52 ∨ kd = 53 ∨ kd = 54 := by omega
  rcases hk2 with rfl | rfl | rfl | rfl | rfl | rfl | rfl | rfl | rfl | rfl | rfl | rfl | rfl | rfl | rfl
  · have h1 := wt_num num hi
    simp [primT, nth] <;> omega
  · by_cases hn : num = 1
    · subst hn
      simp [primT, nth, wt_cons, wt_nil, wt_append, sumT] <;> omega
    · simp [primT, nth, wt_cons, wt_nil, wt_append, sumT, hn] <;> omega
  · simp [primT, nth, wt_cons, wt_nil, wt_append, sumT] <;> omega
  · simp [primT, nth, wt_cons, wt_nil, wt_append, sumT] <;> omega
  · have h1 := wt_list T ks
    have h2 := wt_all T ks
    simp [primT, nth, wt_cons, wt_nil, wt_append] <;> omega
  · have h1 := wt_list T ks
    have h2 := wt_all T ks
    simp [primT, nth, wt_cons, wt_nil, wt_append] <;> omega
  · obtain ⟨k, rfl⟩ : ∃ k, ks = [k] := ha.one (by simp)
    have ho := wt_op t T k
    have h1 := ho true
    have h2 := ho false
    simp [primT, nth, wt_cons, wt_nil, wt_append, sumT] <;> omega
  · have h1 := wt_perhaps T ks
    have h2 := cut_len nm [58, 58]
    simp [primT, nth, pickT, wt_cons, wt_nil, wt_append] <;> omega
  · have h1 := wt_perhaps T ks
    simp [primT, nth, wt_cons, wt_nil, wt_append] <;> omega
  · obtain ⟨k, m, rfl⟩ : ∃ k m, ks = [k, m] := ha.two (by simp)
    have h1 := wt_op t T k false
    have h2 := wt_op t T m false
    simp [primT, nth, wt_cons, wt_nil, wt_append, sumT] <;> omega
  · simp [primT, nth, wt_cons, wt_nil, wt_append, sumT] <;> omega
  · simp [primT, nth, wt_cons, wt_nil, wt_append, sumT] <;> omega
  · have h1 := wt_num num hi
    simp [primT, nth] <;> omega
  · by_cases hn : num = 1
    · subst hn
      simp [primT, nth, wt_cons, wt_nil, wt_append, sumT] <;> omega
    · simp [primT, nth, wt_cons, wt_nil, wt_append, sumT, hn] <;> omega
  · have h1 := wt_perhaps T ks
    have h2 := cut_len nm [58, 58]
    simp [primT, nth, pickT, wt_cons, wt_nil, wt_append] <;> omega
theorem wt_item (t : List Al.Node) (T : Int → List Bytes) (x : Al.Node) (ha : Arity x) (hnm : x.name.length ≤ 130) (hi : okI x.num) (hk : 1 ≤ x.kind ∧ x.kind ≤ 7) : wt (itemT t T x) ≤ 600 + sumT T x.kids := by
  obtain ⟨kd, nm, num, ks, fr, to⟩ := x
  dsimp only at hk hnm hi ⊢
  have hk2 : kd = 1 ∨ kd = 2 ∨ kd = 3 ∨ kd = 4 ∨ kd = 5 ∨ kd = 6 ∨ kd = 7 := by omega
  rcases hk2 with rfl | rfl | rfl | rfl | rfl | rfl | rfl
  · have h1 := wt_list T ks
    have h2 := wt_all T ks
    simp [itemT, nth, wt_cons, wt_nil, wt_append] <;> omega
  · obtain ⟨n, hn, hlen⟩ : ∃ n : Nat, num = n ∧ ks.length = n + 2 := ha.fn rfl
    subst hn
    obtain ⟨a, hka⟩ : ∃ a, ks[n]? = some a := ⟨_, List.getElem?_eq_getElem (by omega)⟩
    obtain ⟨b, hkb⟩ : ∃ b, ks[n + 1]? = some b := ⟨_, List.getElem?_eq_getElem (by omega)⟩
    have hks : ks = ks.take n ++ [a, b] := by
      have e1 : ks = ks.take (n + 2) := by rw [← hlen, List.take_length]
      conv => lhs; rw [e1]
      rw [List.take_add_one, List.take_add_one, hka, hkb]
      simp
    have h1 := wt_list T (ks.take n)
    have h2 : sumT T ks = sumT T (ks.take n) + (wt (T a) + 4 + (wt (T b) + 4)) := by
      conv => lhs; rw [hks]
      simp [sumT]
    rw [h2]
    simp [itemT, fnT, nth, List.getD_eq_getElem?_getD, hka, hkb, wt_cons, wt_nil, wt_append]
    split <;> simp [wt_cons, wt_nil] <;> omega
  · have h1 := wt_list T ks
    have h2 := wt_all T ks
    simp [itemT, nth, wt_cons, wt_nil, wt_append] <;> omega
  · have h1 := wt_list T ks
    have h2 := wt_all T ks
    simp [itemT, nth, wt_cons, wt_nil, wt_append] <;> omega
  · obtain ⟨k, rfl⟩ : ∃ k, ks = [k] := ha.one (by simp)
    have ho := wt_op t T k
    have h1 := ho true
    have h2 := ho false
    simp [itemT, nth, wt_cons, wt_nil, wt_append, sumT] <;> omega
  · have h1 := wt_perhaps T ks
    simp [itemT, nth, wt_cons, wt_nil, wt_append] <;> omega
  · obtain ⟨k, rfl⟩ : ∃ k, ks = [k] := ha.one (by simp)
    have h2 := wt_op t T k false
    by_cases hn : num = 1
    · subst hn
      simp [itemT, nth, wt_cons, wt_nil, wt_append, sumT] <;> omega
    · simp [itemT, nth, wt_cons, wt_nil, wt_append, sumT, hn] <;> omega
theorem wt_tok (t : List Al.Node) (T : Int → List Bytes) (x : Al.Node) (ha : Arity x) (hnm : x.name.length ≤ 130) (hi : okI x.num) (hkn : knownS x.kind = true) : wt (tokT t T x) ≤ 600 + sumT T x.kids := by
  simp only [knownS, decide_eq_true_eq] at hkn
  unfold tokT
  split
  · have := wt_all T x.kids
    simp only [wt_append, wt_cons, wt_nil, List.length_cons, List.length_nil]
    omega
  split
  · exact wt_item t T x ha hnm hi (by omega)
  split
  · exact wt_typ t T x ha hnm hi (by omega)
  split
  · exact wt_stmt t T x ha hnm hi (by omega)
  split
  · exact wt_expr t T x ha hnm hi (by omega)
  · exact wt_prim t T x ha hnm hi (by omega)
theorem Good.short {t : List Al.Node} (h : Good t) {i : Nat} {x : Al.Node} (hx : t[i]? = some x) : x.name.length ≤ 130 := by
  have hn := (h.parts hx).2.1
  unfold nameS at hn
  split at hn
  · have := nameB_len hn
    omega
  split at hn
  · simp only [pickS, Bool.and_eq_true, decide_eq_true_eq] at hn
    exact hn.1
  split at hn
  · have := List.contains_iff_mem.1 hn
    simp [signL] at this
    rcases this with h | h | h | h | h | h | h | h | h | h | h | h | h <;> simp [h]
  · simp at hn
    simp [hn]
/-- What a node's tokens cost at most, to a depth. -/
def costT (t : List Al.Node) : Nat → Int → Nat
  | 0, _ => 4
  | f + 1, i => match t[i.toNat]? with
    | some x => 604 + (x.kids.map fun k => costT t f k).sum
    | none => 4
theorem sum_le {l : List Int} {f g : Int → Nat} (h : ∀ k, k ∈ l → f k ≤ g k) : (l.map f).sum ≤ (l.map g).sum := by
  induction l with
  | nil => simp
  | cons a l ih =>
    have h1 := h a (by simp)
    have h2 := ih fun k hk => h k (by simp [hk])
    simp only [List.map_cons, List.sum_cons]
    omega
theorem wt_node {t : List Al.Node} (ht : okTree t) (hg : Good t) : ∀ (f : Nat) (i : Int), wt (nodeT t f i) + 4 ≤ costT t f i
  | 0, i => by simp [nodeT, wt_nil, costT]
  | f + 1, i => by
    unfold nodeT costT
    cases hx : t[i.toNat]? with
    | none => simp [wt_nil]
    | some x =>
      dsimp only
      have h1 := wt_tok t (nodeT t f) x (hg.arity hx) (hg.short hx) (ht.node x (List.mem_of_getElem? hx)).num (hg.parts hx).1
      have h2 : sumT (nodeT t f) x.kids ≤ (x.kids.map fun k => costT t f k).sum := sum_le fun k _ => wt_node ht hg f k
      omega
theorem cost_fuel {t : List Al.Node} (hg : Good t) : ∀ (f f' : Nat) (i : Nat), i < f → i < f' → costT t f i = costT t f' i
  | 0, _, i, h, _ => by omega
  | _, 0, i, _, h => by omega
  | f + 1, f' + 1, i, h1, h2 => by
    unfold costT
    cases hx : t[(i : Int).toNat]? with
    | none => rfl
    | some x =>
      dsimp only
      congr 2
      refine List.map_congr_left fun k hk => ?_
      have := hg.kids hx k hk
      have e : k = (k.toNat : Int) := by omega
      rw [e]
      exact cost_fuel hg f f' k.toNat (by omega) (by omega)
theorem Good.tokens {t : List Al.Node} (ht : okTree t) (hg : Good t) (f : Nat) (i : Nat) (h : i < f) (hi : i < t.length) : wt (nodeT t f i) ≤ 12080000 := by
  have h1 := wt_node ht hg f i
  rw [cost_fuel hg f (i + 1) i h (by omega)] at h1
  have h2 := hg.cost (fun j => costT t (j + 1) j) 604 (fun j x hx => by
    have e : costT t (j + 1) j = 604 + (x.kids.map fun k => costT t j k).sum := by
      conv => lhs; unfold costT
      rw [Int.toNat_natCast, hx]
    rw [e]
    refine Nat.add_le_add_left (sum_le fun k hk => ?_) _
    have := hg.kids hx k hk
    have e2 : costT t j k = costT t (k.toNat + 1) (k.toNat : Int) := by
      have e3 : k = (k.toNat : Int) := by omega
      conv => lhs; rw [e3]
      exact cost_fuel hg j (k.toNat + 1) k.toNat (by omega) (by omega)
    rw [e2]
    exact Nat.le_refl _) hi
  have h3 := hg.most
  have : 604 * (i + 1) ≤ 604 * 20000 := Nat.mul_le_mul_left _ (by omega)
  omega
theorem wt_len : ∀ ts : List Bytes, ts.length ≤ wt ts
  | [] => by simp
  | s :: ts => by
    have := wt_len ts
    rw [wt_cons, List.length_cons]
    omega
theorem joinTail_len (sep : Bytes) (h : sep.length = 1) : ∀ ts : List Bytes, (Lib.joinTail sep ts).length = wt ts
  | [] => rfl
  | s :: ts => by
    have := joinTail_len sep h ts
    unfold Lib.joinTail at this ⊢
    rw [List.map_cons, List.flatten_cons, List.length_append, this, wt_cons, List.length_append]
    omega
theorem join_len (sep : Bytes) (h : sep.length = 1) : ∀ ts : List Bytes, (Lib.join ts sep).length ≤ wt ts
  | [] => by rw [Lib.join_nil]; simp
  | s :: ts => by
    rw [Lib.join_cons, List.length_append, joinTail_len sep h, wt_cons]
    omega
end Go.Proofs.Tryd
