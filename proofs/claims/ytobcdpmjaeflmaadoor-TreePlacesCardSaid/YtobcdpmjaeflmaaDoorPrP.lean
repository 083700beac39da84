/- The tokens that a right tree is printed as: plain laws. -/
import Derived.Test.YtobcdpmjaeflmaaDoorPlainA
import Derived.Lib.ItoaNum
set_option linter.unusedVariables false
set_option linter.unusedSimpArgs false
namespace Go.Proofs.Tryd
open Go Go.Al
set_option maxRecDepth 20000
set_option linter.unusedVariables false
def listT (T : Int → List Bytes) : List Int → List Bytes
  | [] => []
  | k :: l => T k ++ (l.map fun k => [44] :: T k).flatten
def perhapsT (T : Int → List Bytes) : List Int → List Bytes
  | k :: _ => [40] :: (T k ++ [[41]])
  | [] => []
def plainK (k : Int) (get : Bool) : Bool := decide (30 ≤ k ∧ k ≤ 34) || (decide (k = 37) || (decide (k = 44) || (get && decide (k = 41))))
def operandT (T : Int → List Bytes) (k : Int) (plain : Bool) : List Bytes := if plain then T k else [40] :: (T k ++ [[41]])
def opT (t : List Al.Node) (T : Int → List Bytes) (k : Int) (get : Bool) : List Bytes := operandT T k (plainK (kindAt t k) get)
def allT (T : Int → List Bytes) (l : List Int) : List Bytes := (l.map T).flatten
def nth (x : Al.Node) (i : Nat) : Int := x.kids.getD i 0
def fnT (t : List Al.Node) (T : Int → List Bytes) (x : Al.Node) : List Bytes :=
  [102, 110] :: x.name :: [40] :: (listT T (x.kids.take x.num.toNat) ++ ([41] :: ((if kindAt t (nth x x.num.toNat) = 12 then [] else [45, 62] :: T (nth x x.num.toNat)) ++ T (nth x (x.num.toNat + 1)))))
def itemT (t : List Al.Node) (T : Int → List Bytes) (x : Al.Node) : List Bytes :=
  if x.kind = 1 then allT T x.kids else if x.kind = 2 then fnT t T x
  else if x.kind = 3 then [115, 116, 114, 117, 99, 116] :: x.name :: [123] :: (listT T x.kids ++ [[125]])
  else if x.kind = 4 then [101, 110, 117, 109] :: x.name :: [123] :: (listT T x.kids ++ [[125]])
  else if x.kind = 6 then x.name :: perhapsT T x.kids
  else (if x.kind = 7 ∧ x.num = 1 then [[109, 117, 116]] else []) ++ (x.name :: [58] :: T (nth x 0))
def typT (T : Int → List Bytes) (x : Al.Node) : List Bytes :=
  if x.kind = 10 then [[105, 54, 52]] else if x.kind = 11 then [[98, 111, 111, 108]] else if x.kind = 12 then [[40], [41]] else if x.kind = 13 then [x.name]
  else if x.kind = 14 then [38] :: T (nth x 0) else if x.kind = 15 then [38] :: [109, 117, 116] :: T (nth x 0) else [66, 111, 120] :: [60] :: (T (nth x 0) ++ [[62]])
def letT (T : Int → List Bytes) (x : Al.Node) : List Bytes :=
  [108, 101, 116] :: ((if x.num = 1 then [[109, 117, 116]] else []) ++ (x.name :: ((if x.kids.length = 2 then [58] :: T (nth x 0) else []) ++ ([61] :: (T (nth x (x.kids.length - 1)) ++ [[59]])))))
def stmtT (t : List Al.Node) (T : Int → List Bytes) (x : Al.Node) : List Bytes :=
  if x.kind = 21 then letT T x else if x.kind = 22 then T (nth x 0) ++ [[59]] else if x.kind = 23 then opT t T (nth x 0) false ++ ([61] :: (opT t T (nth x 1) false ++ [[59]]))
  else if x.kind = 24 then [119, 104, 105, 108, 101] :: (opT t T (nth x 0) false ++ T (nth x 1)) else if x.kind = 25 then [114, 101, 116, 117, 114, 110] :: (allT T x.kids ++ [[59]])
  else if x.kind = 26 then [[98, 114, 101, 97, 107], [59]] else [[99, 111, 110, 116, 105, 110, 117, 101], [59]]
def exprT (t : List Al.Node) (T : Int → List Bytes) (x : Al.Node) : List Bytes :=
  if x.kind = 38 then opT t T (nth x 0) false ++ (x.name :: opT t T (nth x 1) false) else if x.kind = 39 then [45] :: opT t T (nth x 0) false else if x.kind = 40 then [33] :: opT t T (nth x 0) false
  else if x.kind = 42 then [42] :: opT t T (nth x 0) false else if x.kind = 43 then [38] :: ((if x.num = 1 then [[109, 117, 116]] else []) ++ opT t T (nth x 0) false)
  else if x.kind = 41 then opT t T (nth x 0) true ++ [[46], x.name]
  else if x.kind = 45 then [105, 102] :: (opT t T (nth x 0) false ++ (T (nth x 1) ++ (if x.kids.length = 3 then [101, 108, 115, 101] :: T (nth x 2) else [])))
  else [109, 97, 116, 99, 104] :: (opT t T (nth x 0) false ++ ([123] :: (listT T (x.kids.drop 1) ++ [[125]])))
def decT (n : Int) : Bytes := Lib.itoa n
def numT (n : Int) : List Bytes := if n < 0 then [[45], decT (0 - n)] else [decT n]
def pickT (s : Bytes) : List Bytes := [(Lib.cut s [58, 58]).1, [58, 58], (Lib.cut s [58, 58]).2.1]
def primT (T : Int → List Bytes) (x : Al.Node) : List Bytes :=
  if x.kind = 30 ∨ x.kind = 52 then numT x.num else if x.kind = 31 ∨ x.kind = 53 then [if x.num = 1 then [116, 114, 117, 101] else [102, 97, 108, 115, 101]]
  else if x.kind = 32 then [[40], [41]] else if x.kind = 33 ∨ x.kind = 51 then [x.name] else if x.kind = 50 then [[95]]
  else if x.kind = 34 then x.name :: [40] :: (listT T x.kids ++ [[41]]) else if x.kind = 35 then x.name :: [123] :: (listT T x.kids ++ [[125]])
  else if x.kind = 36 then x.name :: [58] :: T (nth x 0) else if x.kind = 37 ∨ x.kind = 54 then pickT x.name ++ perhapsT T x.kids
  else if x.kind = 44 then [66, 111, 120] :: [58, 58] :: [110, 101, 119] :: perhapsT T x.kids
  else T (nth x 0) ++ ([61, 62] :: T (nth x 1))
def tokT (t : List Al.Node) (T : Int → List Bytes) (x : Al.Node) : List Bytes :=
  if x.kind = 20 then [123] :: (allT T x.kids ++ [[125]]) else if x.kind ≤ 7 then itemT t T x else if 10 ≤ x.kind ∧ x.kind ≤ 16 then typT T x else if 21 ≤ x.kind ∧ x.kind ≤ 27 then stmtT t T x
  else if 38 ≤ x.kind ∧ x.kind ≤ 43 ∨ x.kind = 45 ∨ x.kind = 46 then exprT t T x else primT T x
/-- The tokens of a node, to a depth. -/
def nodeT (t : List Al.Node) : Nat → Int → List Bytes
  | 0, _ => []
  | f + 1, i => match t[i.toNat]? with
    | some x => tokT t (nodeT t f) x
    | none => []

/-! ### How many kids -/
def minK : Bytes → Nat
  | [] => 0
  | [_] => 1
  | c :: d :: s => if bu c = 63 then minK s else minK (d :: s) + 1
def maxK : Bytes → Nat
  | [] => 0
  | [_] => 1
  | c :: d :: s => if bu c = 63 then maxK s + 1 else maxK (d :: s) + 1
theorem kidsS_len : ∀ (n : Nat) (s : Bytes) (l : List Int), s.length ≤ n → kidsS s l = true → minK s ≤ l.length ∧ l.length ≤ maxK s
  | _, [], l, _, h => by
    simp only [kidsS, List.isEmpty_iff] at h
    subst h
    simp [minK, maxK]
  | _, [c], l, _, h => by
    cases l with
    | nil => simp [kidsS] at h
    | cons k l =>
      simp only [kidsS, Bool.and_eq_true, List.isEmpty_iff] at h
      rw [h.2]
      simp [minK, maxK]
  | 0, c :: d :: s, l, hn, h => by simp at hn
  | n + 1, c :: d :: s, l, hn, h => by
    simp only [List.length_cons] at hn
    unfold minK maxK
    by_cases hc : bu c = 63
    · cases l with
      | nil =>
        simp only [kidsS, hc, if_true, Bool.false_or] at h
        have := kidsS_len n s [] (by omega) h
        simp only [hc, if_true]
        simp only [List.length_nil] at this ⊢
        omega
      | cons k l =>
        simp only [kidsS, hc, if_true, Bool.or_eq_true, Bool.and_eq_true] at h
        simp only [hc, if_true]
        rcases h with h | h
        · have := kidsS_len n s l (by omega) h.2
          simp only [List.length_cons]
          omega
        · have := kidsS_len n s (k :: l) (by omega) h
          omega
    · cases l with
      | nil => simp [kidsS, hc] at h
      | cons k l =>
        simp only [kidsS, if_neg hc, Bool.and_eq_true] at h
        have := kidsS_len n (d :: s) l (by simp; omega) h.2
        simp only [if_neg hc, List.length_cons]
        omega

theorem one_kid {t : List Al.Node} {x : Al.Node} {c : UInt8} (h : fitsS x (x.kids.map (kindAt t)) = true) (hs : shapeS x.kind x.num = [c]) : ∃ k, x.kids = [k] := by
  unfold fitsS at h
  rw [hs] at h
  have := kidsS_len 1 [c] (x.kids.map (kindAt t)) (by simp) (by unfold fitsW at h; split at h <;> simp_all)
  simp only [minK, maxK, List.length_map] at this
  exact List.length_eq_one_iff.1 (by omega)

/-! ### Each node is printed once -/
def freeSum (out : List Int) (f : Nat → Nat) : Nat → Nat
  | 0 => 0
  | j + 1 => freeSum out f j + (if out.getD j (-1) < 0 then f j else 0)
theorem freeSum_set (out : List Int) (f : Nat → Nat) (k : Nat) (v : Int) (hv : 0 ≤ v) (hk : out.getD k (-1) < 0) (hl : k < out.length) : ∀ i, freeSum (out.set k v) f i + (if k < i then f k else 0) = freeSum out f i
  | 0 => by simp [freeSum]
  | i + 1 => by
    have ih := freeSum_set out f k v hv hk hl i
    simp only [freeSum]
    by_cases e : k = i
    · subst e
      have h1 : (out.set k v).getD k (-1) = v := by rw [List.getD_eq_getElem?_getD, List.getElem?_set_self hl]; rfl
      rw [h1, if_neg (by omega), if_pos (by omega), if_pos hk]
      rw [if_neg (by omega)] at ih
      omega
    · have h1 : (out.set k v).getD i (-1) = out.getD i (-1) := by rw [List.getD_eq_getElem?_getD, List.getElem?_set_ne e, ← List.getD_eq_getElem?_getD]
      rw [h1]
      have e2 : (if k < i + 1 then f k else 0) = (if k < i then f k else 0) := by
        by_cases h2 : k < i
        · rw [if_pos h2, if_pos (by omega)]
        · rw [if_neg h2, if_neg (by omega)]
      rw [e2]
      omega
theorem fkTo_free {i : Nat} {ks : List Int} (f : Nat → Nat) (hk : ∀ k, k ∈ ks → 0 ≤ k ∧ k < i) {out : List Int} (hol : i ≤ out.length) : ∀ {j : Nat} {o : List Int}, fkTo i ks out j = some o → freeSum o f i + ((ks.take j).map fun k => f k.toNat).sum = freeSum out f i
  | 0, o, h => by simp [fkTo] at h; subst h; simp
  | j + 1, o, h => by
    simp only [fkTo] at h
    obtain ⟨o1, h1, h⟩ := Option.bind_eq_some_iff.1 h
    have ih := fkTo_free f hk hol h1
    have hlen := fkTo_length h1
    split at h
    · rename_i k hkj
      have hb := hk k (List.mem_of_getElem? hkj)
      split at h
      · cases h
      · rename_i hneg
        cases h
        rw [List.take_add_one, hkj, List.map_append, List.sum_append]
        have h2 : o1.getD k.toNat (-1) < 0 := by
          rw [List.getD_eq_getElem?_getD] at hneg ⊢
          rw [List.getElem?_eq_getElem (by omega)] at hneg ⊢
          simp only [Option.getD_some] at hneg ⊢
          omega
        have h3 := freeSum_set o1 f k.toNat (i : Int) (by omega) h2 (by omega) i
        rw [if_pos (by omega)] at h3
        simp only [Option.toList_some, List.map_cons, List.map_nil, List.sum_cons, List.sum_nil]
        omega
    · rename_i hkj
      cases h
      rw [List.take_add_one, hkj]
      simpa using ih
theorem freeSum_le (t : List Al.Node) (f : Nat → Nat) (a : Nat) (hkids : ∀ (i : Nat) x, t[i]? = some x → ∀ k, k ∈ x.kids → 0 ≤ k ∧ k < i) (hf : ∀ (i : Nat) x, t[i]? = some x → f i ≤ a + (x.kids.map fun k => f k.toNat).sum) :
    ∀ (i : Nat) (o : List Int), i ≤ t.length → fillTo t i = some o → freeSum o f i ≤ a * i
  | 0, o, _, _ => by simp [freeSum]
  | i + 1, o, hi, h => by
    obtain ⟨x, hx⟩ : ∃ x, t[i]? = some x := ⟨_, List.getElem?_eq_getElem (by omega)⟩
    simp only [fillTo] at h
    obtain ⟨o1, h1, h⟩ := Option.bind_eq_some_iff.1 h
    have ih := freeSum_le t f a hkids hf i o1 (by omega) h1
    have hol := fillTo_length h1
    rw [hx] at h
    have h2 := fkTo_free f (hkids i x hx) (by omega) h
    rw [List.take_length] at h2
    have h3 := hf i x hx
    simp only [freeSum]
    rw [Nat.mul_add, Nat.mul_one]
    split <;> omega
/-- What costs no more at a node than some, and what its kids cost, costs no more in all than each node once. -/
theorem Good.cost {t : List Al.Node} (h : Good t) (f : Nat → Nat) (a : Nat) (hf : ∀ (i : Nat) x, t[i]? = some x → f i ≤ a + (x.kids.map fun k => f k.toNat).sum) {i : Nat} (hi : i < t.length) : f i ≤ a * (i + 1) := by
  obtain ⟨x, hx⟩ : ∃ x, t[i]? = some x := ⟨_, List.getElem?_eq_getElem hi⟩
  have hkids : ∀ (i : Nat) x, t[i]? = some x → ∀ k, k ∈ x.kids → 0 ≤ k ∧ k < i := fun i x hx => h.kids hx
  cases h1 : fillTo t (i + 1) with
  | none =>
    have := h.fill
    rw [fillTo_none h1 (by omega)] at this
    cases this
  | some o =>
    have h1' := h1
    simp only [fillTo] at h1'
    obtain ⟨o1, h2, h3⟩ := Option.bind_eq_some_iff.1 h1'
    have hle := freeSum_le t f a hkids hf i o1 (by omega) h2
    have hol := fillTo_length h2
    rw [hx] at h3
    have h4 := fkTo_free f (hkids i x hx) (by omega) h3
    rw [List.take_length] at h4
    have h5 := hf i x hx
    rw [Nat.mul_add, Nat.mul_one]
    omega
end Go.Proofs.Tryd
