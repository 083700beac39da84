/- Contracts of the reference's printers of trees: put, row, operand. -/
import Derived.Test.YtobcdpmjaeflmaaGreatDoorRefAll
import Derived.Test.YtobcdpmjaeflmaaGreatDoorPrC
import Derived.Test.YtobcdpmjaeflmaaGreatDoorPrW
set_option linter.unusedVariables false
set_option linter.unusedSimpArgs false
namespace Go.Proofs.Tryz
open Go Go.Al
set_option maxRecDepth 20000
set_option linter.unusedVariables false
def putOne (s x : Bytes) : Bytes := if s = [] then x else s ++ 32 :: x
def putAll (s : Bytes) (ts : List Bytes) : Bytes := ts.foldl putOne s
theorem putAll_putAll (s : Bytes) (a b : List Bytes) : putAll (putAll s a) b = putAll s (a ++ b) := by simp [putAll]
theorem putAll_nil (s : Bytes) : putAll s [] = s := rfl
theorem putAll_len : ∀ (s : Bytes) (ts : List Bytes), (putAll s ts).length ≤ s.length + wt ts
  | s, [] => by simp [putAll, wt_nil]
  | s, x :: ts => by
    have h := putAll_len (putOne s x) ts
    have h1 : (putOne s x).length ≤ s.length + x.length + 1 := by
      unfold putOne
      split
      · rename_i e; subst e; simp
      · simp; omega
    rw [wt_cons]
    show (putAll (putOne s x) ts).length ≤ _
    omega
/-- A printer that has printed this. -/
def rrR (t : List Al.Node) (s : Bytes) : List Root := [.box [.d (dNodes t), .d (dS s)]]
def PutsR (t : List Al.Node) (f : FuncId) (args : List AV) (ts : List Bytes) : Prop := ∀ s : Bytes, s.length + wt ts ≤ 1000000000 → SCall prog f (.ptr 0 0 0 :: args) (rrR t s) (fun x r => x = .tup [] ∧ r = rrR t (putAll s ts))
structure FinRr (t : List Al.Node) (s : Bytes) (ts : List Bytes) (x : AV) (r : List Root) : Prop where
  out : finF [0] (fun x r => x = .tup [] ∧ r = rrR t (putAll s ts)) x r
theorem posOf_one : ∀ q, q < 1 → posOf [0] q = some q
  | 0, _ => rfl
theorem PutsR.of {t : List Al.Node} {f : FuncId} {args : List AV} {ts : List Bytes} (h : ∀ s : Bytes, s.length + wt ts ≤ 1000000000 → SCall prog f (.ptr 0 0 0 :: args) (rrR t s) (FinRr t s ts)) : PutsR t f args ts :=
  fun s hb => .finF [0] (by simp) posOf_one ((h s hb).mono fun x r hx => hx.out)
theorem FinRr.mk' {t : List Al.Node} {s : Bytes} {ts : List Bytes} {v : ByteArray} {extra : List Root} (hv : v = ba (putAll s ts)) : FinRr t s ts (oneOf []) (.box [.d (.sl (t.map rNode)), .d (.con (.string v))] :: extra) := by
  subst hv
  refine ⟨by simp, ?_⟩
  simp only [oneOf, fz, fzL, optW, Option.map, Al.lend, List.map, List.getD_cons_zero, renR, renL, ren]
  exact ⟨trivial, rfl⟩
theorem rput_ok (t : List Al.Node) (x : Bytes) : PutsR t 53 [S x] [x] := by
  refine PutsR.of fun s hb => ?_
  simp only [wt_cons, wt_nil] at hb
  match s, hb with
  | [], hb =>
    refine .run ttab_ok func53 rfl (by kernel_rfl) (by simp [f53]) rfl ?_
    conv => whnf
    repeat' first
      | (intro h; exfalso; revert h; simp; done)
      | (intro _; conv => whnf)
      | (apply And.intro <;> (conv => whnf))
      | (refine AllRow.of rfl ?_; conv => whnf)
      | (apply AllRow.map; intro _ _; conv => whnf)
      | exact ⟨rfl⟩
      | fail
    all_goals try (refine Side.mk ?_; simp only [size_ba]; simp at hb ⊢; omega)
    all_goals exact FinRr.mk' (by simp [putAll, putOne])
  | c :: s, hb =>
    refine .run ttab_ok func53 rfl (by kernel_rfl) (by simp [f53]) rfl ?_
    conv => whnf
    repeat' first
      | (intro h; exfalso; revert h; simp; done)
      | (intro _; conv => whnf)
      | (apply And.intro <;> (conv => whnf))
      | (refine AllRow.of rfl ?_; conv => whnf)
      | (apply AllRow.map; intro _ _; conv => whnf)
      | exact ⟨rfl⟩
      | fail
    all_goals try (refine Side.mk ?_; simp [ByteArray.size, ba] at hb ⊢; omega)
    all_goals exact FinRr.mk' (by simp [putAll, putOne])
structure KidR (t : List Al.Node) (T : Int → List Bytes) (k : Int) : Prop where
  lo : 0 ≤ k
  hi : k < t.length
  put : PutsR t 26 [I k] (T k)
theorem KidR.node {t : List Al.Node} {T : Int → List Bytes} {k : Int} (h : KidR t T k) : ∃ y, t[k.toNat]? = some y := ⟨_, List.getElem?_eq_getElem (by have := h.lo; have := h.hi; omega)⟩
theorem rop_ok {t : List Al.Node} {T : Int → List Bytes} {k : Int} (h : KidR t T k) (get : Bool) : PutsR t 56 [I k, B get] (opT t T k get) := by
  obtain ⟨y, hy⟩ := h.node
  have h0 := h.lo
  have h1 := h.hi
  have ih := h.put
  unfold opT
  rw [kindAt_eq hy]
  have hrow : lat (List.map rNode t) k.toNat = some (rNode y) := by rw [lat_eq, List.getElem?_map, hy]; rfl
  cases hp : plainK y.kind get with
  | true =>
    simp only [operandT, if_true]
    refine PutsR.of fun s hb => ?_
    refine .run ttab_ok func56 rfl (by kernel_rfl) (by simp [f56]) rfl ?_
    conv => whnf
    repeat' first
      | (refine AllRow.of hrow ?_; conv => whnf)
      | (intro _; conv => whnf)
      | (apply And.intro <;> (conv => whnf))
      | (refine AllRow.of rfl ?_; conv => whnf)
      | (apply AllRow.map; intro _ _; conv => whnf)
      | (refine CallG.lend call26 [0] (by simp) (by simp) (by simp [isArr, pinsOf, rrR]) (ih _ (by first | omega | (simp only [wt_append, wt_cons, wt_nil, List.length_cons, List.length_nil]; omega) | ((try simp only [putAll_putAll]); refine Nat.le_trans (Nat.add_le_add_right (putAll_len _ _) _) ?_; (try simp only [wt_append, wt_cons, wt_nil, List.length_append, List.length_cons, List.length_nil]); omega))) ?_; rintro _ _ ⟨rfl, rfl⟩; refine ⟨by simp [rrR], ?_⟩; conv => whnf)
      | exact ⟨rfl⟩
      | fail
    all_goals try (refine Side.mk ?_; first | omega | (simp only [List.length_map]; omega))
    all_goals try (exact FinRr.mk' (by simp [putAll_putAll]))
    all_goals (exfalso; simp [plainK] at hp; simp_all; try omega)
  | false =>
    simp only [operandT, Bool.false_eq_true, if_false]
    refine PutsR.of fun s hb => ?_
    simp only [wt_append, wt_cons, wt_nil, List.length_cons, List.length_nil] at hb
    refine .run ttab_ok func56 rfl (by kernel_rfl) (by simp [f56]) rfl ?_
    conv => whnf
    repeat' first
      | (refine AllRow.of hrow ?_; conv => whnf)
      | (intro _; conv => whnf)
      | (apply And.intro <;> (conv => whnf))
      | (refine AllRow.of rfl ?_; conv => whnf)
      | (apply AllRow.map; intro _ _; conv => whnf)
      | (refine CallG.lend call53 [0] (by simp) (by simp) (by simp [isArr, pinsOf, rrR]) (rput_ok t _ _ (by first | omega | (simp only [wt_append, wt_cons, wt_nil, List.length_cons, List.length_nil]; omega) | ((try simp only [putAll_putAll]); refine Nat.le_trans (Nat.add_le_add_right (putAll_len _ _) _) ?_; (try simp only [wt_append, wt_cons, wt_nil, List.length_append, List.length_cons, List.length_nil]); omega))) ?_; rintro _ _ ⟨rfl, rfl⟩; refine ⟨by simp [rrR], ?_⟩; conv => whnf)
      | (refine CallG.lend call26 [0] (by simp) (by simp) (by simp [isArr, pinsOf, rrR]) (ih _ (by first | omega | (simp only [wt_append, wt_cons, wt_nil, List.length_cons, List.length_nil]; omega) | ((try simp only [putAll_putAll]); refine Nat.le_trans (Nat.add_le_add_right (putAll_len _ _) _) ?_; (try simp only [wt_append, wt_cons, wt_nil, List.length_append, List.length_cons, List.length_nil]); omega))) ?_; rintro _ _ ⟨rfl, rfl⟩; refine ⟨by simp [rrR], ?_⟩; conv => whnf)
      | exact ⟨rfl⟩
      | fail
    all_goals try (refine Side.mk ?_; first | omega | (simp only [List.length_map]; omega))
    all_goals try (exfalso; simp [plainK] at hp; simp_all; done)
    all_goals try (exfalso; simp [plainK] at hp; omega)
    all_goals exact FinRr.mk' (by simp [putAll_putAll])
end Go.Proofs.Tryz
