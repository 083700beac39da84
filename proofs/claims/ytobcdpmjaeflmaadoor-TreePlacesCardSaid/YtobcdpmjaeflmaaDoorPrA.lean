/- Contracts of package tree's printers: put. -/
import Derived.Test.YtobcdpmjaeflmaaDoorPrP
set_option linter.unusedVariables false
set_option linter.unusedSimpArgs false
namespace Go.Proofs.Tryd
open Go Go.Al
set_option maxRecDepth 20000
/-- A printer that has put these tokens. -/
def prR (t : List Al.Node) (out : List Bytes) : List Root := [.box [.d (dNodes t), .vs 1 0 out.length], .arr 1 (out.map rS) 0]
def Puts (t : List Al.Node) (f : FuncId) (args : List AV) (ts : List Bytes) : Prop := ∀ out : List Bytes, out.length + ts.length ≤ 1000000000 → SCall prog f (.ptr 0 0 0 :: args) (prR t out) (fun x r => x = .tup [] ∧ r = prR t (out ++ ts))
theorem put_ok (t : List Al.Node) (l : List Bytes) : Puts t 44 [.d (dStrs l)] l := by
  intro out hb
  refine .run ttab_ok func44 rfl (by kernel_rfl) (by simp [f44]) rfl ?_
  conv => whnf
  repeat' first
    | (intro _; conv => whnf)
    | (apply And.intro <;> (conv => whnf))
    | (refine AllRow.of rfl ?_; conv => whnf)
    | (apply AllRow.map; intro _ _; conv => whnf)
    | exact ⟨rfl⟩
    | fail
  · exact ⟨by intro row hr; obtain ⟨b, _, rfl⟩ := List.mem_map.1 hr; simp [rS, dS, oneD, Value.oneCell']⟩
  · exact ⟨by simp [pinsOf, prR]; omega⟩
  · rfl
  · simp only [prR, List.map_append, List.length_append, List.length_map, List.drop_zero, Nat.sub_self]
    rw [List.take_of_length_le (by simp)]
    rfl
theorem prR_eq (t : List Al.Node) (out ts : List Bytes) (n : Nat) (rows : List (List D)) (hn : n = (out ++ ts).length) (hr : rows = (out ++ ts).map rS) : ([.box [.d (.sl (t.map rNode)), .vs 1 0 n], .arr 1 rows 0] : List Root) = prR t (out ++ ts) := by
  rw [hn, hr]; rfl
theorem perhaps_ok (t : List Al.Node) (T : Int → List Bytes) (l : List Int) (ih : ∀ k, k ∈ l → Puts t 20 [I k] (T k)) :
    Puts t 47 [.d (dInts l)] (perhapsT T l) := by
  intro out hb
  cases l with
  | nil =>
    refine .run ttab_ok func47 rfl (by kernel_rfl) (by simp [f47]) rfl ?_
    conv => whnf
    repeat' first
      | (intro h; exfalso; revert h; simp; done)
      | (intro _; conv => whnf)
      | (apply And.intro <;> (conv => whnf))
      | (refine AllRow.of rfl ?_; conv => whnf)
      | (apply AllRow.map; intro _ _; conv => whnf)
      | exact ⟨rfl⟩
      | fail
    · rfl
    · exact prR_eq t out _ _ _ (by simp [perhapsT]) (by simp [perhapsT])
  | cons k l =>
    have hk := ih k (by simp)
    simp [perhapsT] at hb
    refine .run ttab_ok func47 rfl (by kernel_rfl) (by simp [f47]) rfl ?_
    conv => whnf
    repeat' first
      | (intro h; exfalso; revert h; simp; done)
      | (intro _; conv => whnf)
      | (apply And.intro <;> (conv => whnf))
      | (refine AllRow.of rfl ?_; conv => whnf)
      | (apply AllRow.map; intro _ _; conv => whnf)
      | (refine CallG.lend call44 [0, 1] (by simp) (by simp) (by simp [isArr, pinsOf, prR]) (put_ok t [_] _ (by first | omega | (simp only [List.length_append, List.length_cons, List.length_nil]; omega) | (simp at *; omega))) ?_; rintro _ _ ⟨rfl, rfl⟩; refine ⟨by simp [prR], ?_⟩; conv => whnf)
      | (refine CallG.lend call20 [0, 1] (by simp) (by simp) (by simp [isArr, pinsOf, prR]) (hk _ (by first | omega | (simp only [List.length_append, List.length_cons, List.length_nil]; omega) | (simp at *; omega))) ?_; rintro _ _ ⟨rfl, rfl⟩; refine ⟨by simp [prR], ?_⟩; conv => whnf)
      | exact ⟨rfl⟩
      | fail
    all_goals try (exact ⟨by simp; done⟩)
    all_goals try rfl
    all_goals try (exact ⟨by simp; omega⟩)
    · exact prR_eq t out _ _ _ (by simp [perhapsT]) (by simp [perhapsT])
theorem operand_ok (t : List Al.Node) (T : Int → List Bytes) (k : Int) (get : Bool) (y : Al.Node) (hk : 0 ≤ k) (hy : t[k.toNat]? = some y) (ih : Puts t 20 [I k] (T k)) :
    Puts t 49 [I k, B get] (operandT T k (plainK y.kind get)) := by
  intro out hb
  have hrow : lat (List.map rNode t) k.toNat = some (rNode y) := by rw [lat_eq, List.getElem?_map, hy]; rfl
  have hlt : k < t.length := by
    have := (List.getElem?_eq_some_iff.1 hy).1
    omega
  cases hp : plainK y.kind get with
  | true =>
    rw [hp] at hb
    simp [operandT] at hb
    refine .run ttab_ok func49 rfl (by kernel_rfl) (by simp [f49]) rfl ?_
    conv => whnf
    repeat' first
      | (refine AllRow.of hrow ?_; conv => whnf)
      | (intro _; conv => whnf)
      | (apply And.intro <;> (conv => whnf))
      | (refine AllRow.of rfl ?_; conv => whnf)
      | (apply AllRow.map; intro _ _; conv => whnf)
      | (refine CallG.lend call20 [0, 1] (by simp) (by simp) (by simp [isArr, pinsOf, prR]) (ih _ (by first | omega | (simp only [List.length_append, List.length_cons, List.length_nil]; omega) | (simp at *; omega))) ?_; rintro _ _ ⟨rfl, rfl⟩; refine ⟨by simp [prR], ?_⟩; conv => whnf)
      | exact ⟨rfl⟩
      | fail
    all_goals try (exact ⟨by simp; omega⟩)
    all_goals try rfl
    all_goals try (exact prR_eq t out _ _ _ (by simp [operandT]) (by simp [operandT]))
    all_goals (exfalso; simp [plainK] at hp; simp_all; try omega)
  | false =>
    rw [hp] at hb
    simp [operandT] at hb
    refine .run ttab_ok func49 rfl (by kernel_rfl) (by simp [f49]) rfl ?_
    conv => whnf
    repeat' first
      | (refine AllRow.of hrow ?_; conv => whnf)
      | (intro _; conv => whnf)
      | (apply And.intro <;> (conv => whnf))
      | (refine AllRow.of rfl ?_; conv => whnf)
      | (apply AllRow.map; intro _ _; conv => whnf)
      | (refine CallG.lend call44 [0, 1] (by simp) (by simp) (by simp [isArr, pinsOf, prR]) (put_ok t [_] _ (by first | omega | (simp only [List.length_append, List.length_cons, List.length_nil]; omega) | (simp at *; omega))) ?_; rintro _ _ ⟨rfl, rfl⟩; refine ⟨by simp [prR], ?_⟩; conv => whnf)
      | (refine CallG.lend call20 [0, 1] (by simp) (by simp) (by simp [isArr, pinsOf, prR]) (ih _ (by first | omega | (simp only [List.length_append, List.length_cons, List.length_nil]; omega) | (simp at *; omega))) ?_; rintro _ _ ⟨rfl, rfl⟩; refine ⟨by simp [prR], ?_⟩; conv => whnf)
      | exact ⟨rfl⟩
      | fail
    all_goals try (exact ⟨by simp; omega⟩)
    all_goals try rfl
    all_goals try (exfalso; simp [plainK] at hp; simp_all; done)
    all_goals try (exfalso; simp [plainK] at hp; omega)
    all_goals try (exact prR_eq t out _ _ _ (by simp [operandT]) (by simp [operandT]))
theorem listT_step {T : Int → List Bytes} {l : List Int} {j : Nat} {k : Int} (h : l[j]? = some k) : listT T (l.take (j + 1)) = listT T (l.take j) ++ ((if j = 0 then [] else [[44]]) ++ T k) := by
  cases l with
  | nil => simp at h
  | cons a l =>
    cases j with
    | zero => simp at h; subst h; simp [listT]
    | succ j =>
      rw [List.getElem?_cons_succ] at h
      simp only [List.take_succ_cons, listT]
      rw [List.take_add_one, h]
      simp
theorem listT_le {T : Int → List Bytes} {l : List Int} (j : Nat) : (listT T (l.take j)).length ≤ (listT T l).length := by
  cases l with
  | nil => simp [listT]
  | cons a l =>
    cases j with
    | zero => simp [listT]
    | succ j =>
      simp only [List.take_succ_cons, listT, List.length_append]
      have e : l = l.take j ++ l.drop j := (List.take_append_drop j l).symm
      conv => rhs; rw [e]
      rw [List.map_append, List.flatten_append, List.length_append]
      omega
theorem posOf_two : ∀ q, q < 2 → posOf [0, 1] q = some q
  | 0, _ => rfl
  | 1, _ => rfl
structure Kid (t : List Al.Node) (T : Int → List Bytes) (k : Int) : Prop where
  lo : 0 ≤ k
  hi : k < t.length
  put : Puts t 20 [I k] (T k)
theorem Kid.node {t : List Al.Node} {T : Int → List Bytes} {k : Int} (h : Kid t T k) : ∃ y, t[k.toNat]? = some y := ⟨_, List.getElem?_eq_getElem (by have := h.lo; have := h.hi; omega)⟩
theorem op_ok {t : List Al.Node} {T : Int → List Bytes} {k : Int} (h : Kid t T k) (get : Bool) : Puts t 49 [I k, B get] (opT t T k get) := by
  obtain ⟨y, hy⟩ := h.node
  unfold opT
  rw [kindAt_eq hy]
  exact operand_ok t T k get y h.lo hy h.put
theorem list_ok (t : List Al.Node) (T : Int → List Bytes) (l : List Int) (hl : l.length ≤ 140737488355328) (ih : ∀ k, k ∈ l → Kid t T k) :
    Puts t 46 [.d (dInts l)] (listT T l) := by
  intro out hb
  refine .run ttab_ok func46 rfl (by kernel_rfl) (by simp [f46]) rfl ?_
  conv => whnf
  repeat' first
    | (intro _; conv => whnf)
    | (apply And.intro <;> (conv => whnf))
    | (refine AllRow.of rfl ?_; conv => whnf)
    | (apply AllRow.map; intro _ _; conv => whnf)
    | exact ⟨rfl⟩
    | fail
  refine LoopG.of ttab_ok [0, 6, 7, 8] [0, 1] (fun (j : Nat) => ⟨[(0, .ptr 0 0 0), (6, .d (dInts l)), (7, I l.length), (8, I j)], prR t (out ++ listT T (l.take j))⟩) (fun j => j ≤ l.length) (fun j => l.length - j) 0 (by kernel_rfl) (by simp) posOf_two (by simp) ?hs (by omega) ?_
  case hs =>
    first
      | (simp only [keepSt, keepE, Al.look, envOf, lend, ren, renL, renR, posOf, List.map_cons, List.map_nil]; done)
      | (simp only [keepSt, keepE, Al.look, envOf, lend, ren, renL, renR, posOf, List.map_cons, List.map_nil]; simp [I, S, B, U8, dI, dS, dB, dU8, dInts, dStrs, dNodes, ren, renL, renR, posOf, Al.look, envOf, prR, listT])
      | (simp [keepSt, keepE, lend, I, S, B, U8, dI, dS, dB, dU8, dInts, dStrs, dNodes, ren, renL, renR, posOf, Al.look, envOf, prR, listT])
  intro j hj
  by_cases hlt : j < l.length
  · obtain ⟨k, hk⟩ : ∃ k, l[j]? = some k := ⟨_, List.getElem?_eq_getElem hlt⟩
    have hmem := List.mem_of_getElem? hk
    have hst := listT_step (T := T) hk
    have hle := listT_le (T := T) (l := l) (j + 1)
    rw [hst] at hle
    have hrow : lat (List.map rI l) (j : Int).toNat = some (rI k) := by rw [lat_eq, List.getElem?_map, Int.toNat_natCast, hk]; rfl
    by_cases hj0 : j = 0
    · subst hj0
      simp only [if_pos, List.nil_append, List.length_append] at hle hst
      conv => whnf
      repeat' first
        | (refine AllRow.of hrow ?_; conv => whnf)
        | (intro h; exfalso; revert h; simp; done)
        | (intro _; conv => whnf)
        | (apply And.intro <;> (conv => whnf))
        | (refine AllRow.of rfl ?_; conv => whnf)
        | (apply AllRow.map; intro _ _; conv => whnf)
        | (refine CallG.lend call20 [0, 1] (by simp) (by simp) (by simp [isArr, pinsOf, prR]) ((ih k hmem).put _ (by first | omega | (simp only [List.length_append, List.length_cons, List.length_nil]; omega) | (simp at *; omega))) ?_; rintro _ _ ⟨rfl, rfl⟩; refine ⟨by simp [prR], ?_⟩; conv => whnf)
        | exact ⟨rfl⟩
        | fail
      all_goals try (exact ⟨by first | omega | (simp only [List.length_map]; omega)⟩)
      all_goals try (exfalso; omega)
      refine RoundG.mk' (0 + 1) (by simp) ?_ (by omega) (by omega)
      rw [hst]
      first
        | (simp only [keepSt, keepE, Al.look, envOf, lend, ren, renL, renR, posOf, List.map_cons, List.map_nil]; done)
        | (simp only [keepSt, keepE, Al.look, envOf, lend, ren, renL, renR, posOf, List.map_cons, List.map_nil]; simp [I, S, B, U8, dI, dS, dB, dU8, dInts, dStrs, dNodes, ren, renL, renR, posOf, Al.look, envOf, prR, List.append_assoc])
        | (simp [keepSt, keepE, lend, I, S, B, U8, dI, dS, dB, dU8, dInts, dStrs, dNodes, ren, renL, renR, posOf, Al.look, envOf, prR, List.append_assoc])
    · rw [if_neg hj0] at hle hst
      simp only [List.length_append, List.length_cons, List.length_nil] at hle
      conv => whnf
      repeat' first
        | (refine AllRow.of hrow ?_; conv => whnf)
        | (intro h; exfalso; revert h; simp; done)
        | (intro _; conv => whnf)
        | (apply And.intro <;> (conv => whnf))
        | (refine AllRow.of rfl ?_; conv => whnf)
        | (apply AllRow.map; intro _ _; conv => whnf)
        | (refine CallG.lend call44 [0, 1] (by simp) (by simp) (by simp [isArr, pinsOf, prR]) (put_ok t [_] _ (by first | omega | (simp only [List.length_append, List.length_cons, List.length_nil]; omega) | (simp at *; omega))) ?_; rintro _ _ ⟨rfl, rfl⟩; refine ⟨by simp [prR], ?_⟩; conv => whnf)
        | (refine CallG.lend call20 [0, 1] (by simp) (by simp) (by simp [isArr, pinsOf, prR]) ((ih k hmem).put _ (by first | omega | (simp only [List.length_append, List.length_cons, List.length_nil]; omega) | (simp at *; omega))) ?_; rintro _ _ ⟨rfl, rfl⟩; refine ⟨by simp [prR], ?_⟩; conv => whnf)
        | exact ⟨rfl⟩
        | fail
      all_goals try (exact ⟨by first | omega | (simp only [List.length_map]; omega)⟩)
      all_goals try (exfalso; omega)
      refine RoundG.mk' (j + 1) (by simp) ?_ (by omega) (by omega)
      rw [hst]
      first
        | (simp only [keepSt, keepE, Al.look, envOf, lend, ren, renL, renR, posOf, List.map_cons, List.map_nil]; done)
        | (simp only [keepSt, keepE, Al.look, envOf, lend, ren, renL, renR, posOf, List.map_cons, List.map_nil]; simp [I, S, B, U8, dI, dS, dB, dU8, dInts, dStrs, dNodes, ren, renL, renR, posOf, Al.look, envOf, prR, List.append_assoc])
        | (simp [keepSt, keepE, lend, I, S, B, U8, dI, dS, dB, dU8, dInts, dStrs, dNodes, ren, renL, renR, posOf, Al.look, envOf, prR, List.append_assoc])
      all_goals trace_state
  · conv => whnf
    repeat' first
      | (intro _; conv => whnf)
      | (apply And.intro <;> (conv => whnf))
      | (refine AllRow.of rfl ?_; conv => whnf)
      | (apply AllRow.map; intro _ _; conv => whnf)
      | exact ⟨rfl⟩
      | fail
    all_goals try (exfalso; omega)
    all_goals try rfl
    rw [List.take_of_length_le (by omega)]
    rfl
end Go.Proofs.Tryd
