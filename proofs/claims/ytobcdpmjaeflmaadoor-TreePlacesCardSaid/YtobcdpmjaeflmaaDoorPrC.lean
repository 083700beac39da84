/- Contracts of package tree's printers: expressions without operands. -/
import Derived.Test.YtobcdpmjaeflmaaDoorPrB
import Derived.Sort.Grow
set_option linter.unusedVariables false
set_option linter.unusedSimpArgs false
namespace Go.Proofs.Tryd
open Go Go.Al Go.Sort
set_option maxRecDepth 20000
set_option linter.unusedVariables false
theorem ext_grow (w : World) (k : Nat) (os : Array Obj) : Ext w (grow (w.drewN k) os) := by
  refine ⟨?_, ?_, rfl, rfl, rfl⟩
  · simp only [grow, Array.size_append]
    exact Nat.le_add_right _ _
  · intro b hb
    simp only [grow]
    exact Array.getElem?_append_left hb
theorem ifmt_ok (n : Int) (h : okI n) : SPure prog 66 [I n, I 10] (S (decT n)) := by
  refine .of_calls fun M β vs w hv hh => ?_
  obtain ⟨hl, hR⟩ := hv
  match vs, hl with
  | ⟨[v0, v1]⟩, _ =>
    have h0 := hR 0 _ v0 rfl rfl
    have h1 := hR 1 _ v1 rfl rfl
    rw [RelV.con_eq (show RelV M β (.d (.con (.int .i64 n))) v0 from h0), RelV.con_eq (show RelV M β (.d (.con (.int .i64 10))) v1 from h1)]
    refine (internal_strconv_FormatInt_10 n h.1 h.2 w hh.glob.ok.pow10).mono ?_
    rintro e w' ⟨rfl, k, os, rfl⟩
    exact ⟨_, rfl, .d _ _ (.con _), ext_grow w k os⟩
theorem fmt_ok (n : Int) (h : okI n) : SPure prog 51 [I n, I 10] (S (decT n)) := by
  refine .run ttab_ok func51 rfl (by kernel_rfl) (by simp [f51]) rfl ?_
  conv => whnf
  repeat' first
    | (intro h; exfalso; revert h; simp; done)
    | (intro _; conv => whnf)
    | (apply And.intro <;> (conv => whnf))
    | (refine AllRow.of rfl ?_; conv => whnf)
    | (apply AllRow.map; intro _ _; conv => whnf)
    | (refine CallG.con call66 rfl (ifmt_ok n h) ?_; conv => whnf)
    | (refine CallQG.con call66 rfl (ifmt_ok n h) ?_; conv => whnf)
    | exact ⟨rfl⟩
    | fail
  all_goals (refine Side.mk ?_; rfl)
def boolT (b : Bool) : Bytes := if b then [116, 114, 117, 101] else [102, 97, 108, 115, 101]
theorem ifmtBool_ok (b : Bool) : SPure prog 67 [B b] (S (boolT b)) := by
  cases b
  all_goals
    refine .run ttab_ok func67 rfl (by kernel_rfl) (by simp [f67]) rfl ?_
    conv => whnf
    repeat' first
      | (intro h; exfalso; revert h; simp; done)
      | (intro _; conv => whnf)
      | (apply And.intro <;> (conv => whnf))
      | (refine AllRow.of rfl ?_; conv => whnf)
      | (apply AllRow.map; intro _ _; conv => whnf)
      | exact ⟨rfl⟩
      | fail
  all_goals (refine Side.mk ?_; rfl)
theorem fmtBool_ok (b : Bool) : SPure prog 52 [B b] (S (boolT b)) := by
  cases b
  all_goals
    refine .run ttab_ok func52 rfl (by kernel_rfl) (by simp [f52]) rfl ?_
    conv => whnf
    repeat' first
      | (intro h; exfalso; revert h; simp; done)
      | (intro _; conv => whnf)
      | (apply And.intro <;> (conv => whnf))
      | (refine AllRow.of rfl ?_; conv => whnf)
      | (apply AllRow.map; intro _ _; conv => whnf)
      | (refine CallG.con call67 rfl (ifmtBool_ok true) ?_; conv => whnf)
      | (refine CallQG.con call67 rfl (ifmtBool_ok true) ?_; conv => whnf)
      | (refine CallG.con call67 rfl (ifmtBool_ok false) ?_; conv => whnf)
      | (refine CallQG.con call67 rfl (ifmtBool_ok false) ?_; conv => whnf)
      | exact ⟨rfl⟩
      | fail
  all_goals (refine Side.mk ?_; rfl)
theorem fmtTrue_ok : SPure prog 52 [B true] (S [116, 114, 117, 101]) := fmtBool_ok true
theorem fmtFalse_ok : SPure prog 52 [B false] (S [102, 97, 108, 115, 101]) := fmtBool_ok false
theorem prim30_ok (t : List Al.Node) (T : Int → List Bytes) (nm : Bytes) (num : Int) (h0 : 0 ≤ num) (h1 : num ≤ 9223372036854775807) (ks : List Int) (fr to : Int) : Puts t 35 [aNode ⟨30, nm, num, ks, fr, to⟩] ([decT num]) := by
  refine Puts.of fun out hb => ?_
  try simp only [List.length_append, List.length_cons, List.length_nil] at hb
  refine .run ttab_ok func35 rfl (by kernel_rfl) (by simp [f35]) rfl ?_
  conv => whnf
  repeat' first
    | (intro h; exfalso; revert h; simp; done)
    | (intro _; conv => whnf)
    | (apply And.intro <;> (conv => whnf))
    | (refine AllRow.of rfl ?_; conv => whnf)
    | (apply AllRow.map; intro _ _; conv => whnf)
    | (refine CallG.lend call44 [0, 1] (by simp) (by simp) (by simp [isArr, pinsOf, prR]) (put_ok t [_] _ (by first | omega | (simp only [List.length_append, List.length_cons, List.length_nil]; omega) | (simp at *; omega))) ?_; rintro _ _ ⟨rfl, rfl⟩; refine ⟨by simp [prR], ?_⟩; conv => whnf)
    | (refine CallG.lend call44 [0, 1] (by simp) (by simp) (by simp [isArr, pinsOf, prR]) (put_ok t [_, _] _ (by first | omega | (simp only [List.length_append, List.length_cons, List.length_nil]; omega) | (simp at *; omega))) ?_; rintro _ _ ⟨rfl, rfl⟩; refine ⟨by simp [prR], ?_⟩; conv => whnf)
    | (refine CallG.lend call44 [0, 1] (by simp) (by simp) (by simp [isArr, pinsOf, prR]) (put_ok t [_, _, _] _ (by first | omega | (simp only [List.length_append, List.length_cons, List.length_nil]; omega) | (simp at *; omega))) ?_; rintro _ _ ⟨rfl, rfl⟩; refine ⟨by simp [prR], ?_⟩; conv => whnf)
    | (refine CallG.con call51 rfl (fmt_ok num ⟨by omega, by omega⟩) ?_; conv => whnf)
    | (refine CallQG.con call51 rfl (fmt_ok num ⟨by omega, by omega⟩) ?_; conv => whnf)
    | exact ⟨rfl⟩
    | fail
  all_goals try (refine Side.mk ?_; first | omega | (simp; done) | (intro row hr; obtain ⟨_, _, rfl⟩ := List.mem_map.1 hr; rfl) | (simp only [List.length_map, List.length_cons, List.length_nil]; omega) | (dsimp only; simp only [List.length_map]; omega))
  all_goals try (exfalso; omega)
  all_goals try (exfalso; dsimp only at *; omega)
  all_goals exact FinPr.mk' (by simp) (by simp)
theorem prim52a_ok (t : List Al.Node) (T : Int → List Bytes) (nm : Bytes) (num : Int) (h0 : 0 ≤ num) (h1 : num ≤ 9223372036854775807) (ks : List Int) (fr to : Int) : Puts t 35 [aNode ⟨52, nm, num, ks, fr, to⟩] ([decT num]) := by
  refine Puts.of fun out hb => ?_
  try simp only [List.length_append, List.length_cons, List.length_nil] at hb
  refine .run ttab_ok func35 rfl (by kernel_rfl) (by simp [f35]) rfl ?_
  conv => whnf
  repeat' first
    | (intro h; exfalso; revert h; simp; done)
    | (intro _; conv => whnf)
    | (apply And.intro <;> (conv => whnf))
    | (refine AllRow.of rfl ?_; conv => whnf)
    | (apply AllRow.map; intro _ _; conv => whnf)
    | (refine CallG.lend call44 [0, 1] (by simp) (by simp) (by simp [isArr, pinsOf, prR]) (put_ok t [_] _ (by first | omega | (simp only [List.length_append, List.length_cons, List.length_nil]; omega) | (simp at *; omega))) ?_; rintro _ _ ⟨rfl, rfl⟩; refine ⟨by simp [prR], ?_⟩; conv => whnf)
    | (refine CallG.lend call44 [0, 1] (by simp) (by simp) (by simp [isArr, pinsOf, prR]) (put_ok t [_, _] _ (by first | omega | (simp only [List.length_append, List.length_cons, List.length_nil]; omega) | (simp at *; omega))) ?_; rintro _ _ ⟨rfl, rfl⟩; refine ⟨by simp [prR], ?_⟩; conv => whnf)
    | (refine CallG.lend call44 [0, 1] (by simp) (by simp) (by simp [isArr, pinsOf, prR]) (put_ok t [_, _, _] _ (by first | omega | (simp only [List.length_append, List.length_cons, List.length_nil]; omega) | (simp at *; omega))) ?_; rintro _ _ ⟨rfl, rfl⟩; refine ⟨by simp [prR], ?_⟩; conv => whnf)
    | (refine CallG.con call51 rfl (fmt_ok num ⟨by omega, by omega⟩) ?_; conv => whnf)
    | (refine CallQG.con call51 rfl (fmt_ok num ⟨by omega, by omega⟩) ?_; conv => whnf)
    | exact ⟨rfl⟩
    | fail
  all_goals try (refine Side.mk ?_; first | omega | (simp; done) | (intro row hr; obtain ⟨_, _, rfl⟩ := List.mem_map.1 hr; rfl) | (simp only [List.length_map, List.length_cons, List.length_nil]; omega) | (dsimp only; simp only [List.length_map]; omega))
  all_goals try (exfalso; omega)
  all_goals try (exfalso; dsimp only at *; omega)
  all_goals exact FinPr.mk' (by simp) (by simp)
theorem prim52b_ok (t : List Al.Node) (T : Int → List Bytes) (nm : Bytes) (num : Int) (h0 : num < 0) (h1 : -9223372036854775808 < num) (ks : List Int) (fr to : Int) : Puts t 35 [aNode ⟨52, nm, num, ks, fr, to⟩] ([[45], decT (0 - num)]) := by
  refine Puts.of fun out hb => ?_
  try simp only [List.length_append, List.length_cons, List.length_nil] at hb
  refine .run ttab_ok func35 rfl (by kernel_rfl) (by simp [f35]) rfl ?_
  conv => whnf
  repeat' first
    | (intro h; exfalso; revert h; simp; done)
    | (intro _; conv => whnf)
    | (apply And.intro <;> (conv => whnf))
    | (refine AllRow.of rfl ?_; conv => whnf)
    | (apply AllRow.map; intro _ _; conv => whnf)
    | (refine CallG.lend call44 [0, 1] (by simp) (by simp) (by simp [isArr, pinsOf, prR]) (put_ok t [_] _ (by first | omega | (simp only [List.length_append, List.length_cons, List.length_nil]; omega) | (simp at *; omega))) ?_; rintro _ _ ⟨rfl, rfl⟩; refine ⟨by simp [prR], ?_⟩; conv => whnf)
    | (refine CallG.lend call44 [0, 1] (by simp) (by simp) (by simp [isArr, pinsOf, prR]) (put_ok t [_, _] _ (by first | omega | (simp only [List.length_append, List.length_cons, List.length_nil]; omega) | (simp at *; omega))) ?_; rintro _ _ ⟨rfl, rfl⟩; refine ⟨by simp [prR], ?_⟩; conv => whnf)
    | (refine CallG.lend call44 [0, 1] (by simp) (by simp) (by simp [isArr, pinsOf, prR]) (put_ok t [_, _, _] _ (by first | omega | (simp only [List.length_append, List.length_cons, List.length_nil]; omega) | (simp at *; omega))) ?_; rintro _ _ ⟨rfl, rfl⟩; refine ⟨by simp [prR], ?_⟩; conv => whnf)
    | (refine CallG.con call51 rfl (fmt_ok (0 - num) ⟨by omega, by omega⟩) ?_; conv => whnf)
    | (refine CallQG.con call51 rfl (fmt_ok (0 - num) ⟨by omega, by omega⟩) ?_; conv => whnf)
    | exact ⟨rfl⟩
    | fail
  all_goals try (refine Side.mk ?_; first | omega | (simp; done) | (intro row hr; obtain ⟨_, _, rfl⟩ := List.mem_map.1 hr; rfl) | (simp only [List.length_map, List.length_cons, List.length_nil]; omega) | (dsimp only; simp only [List.length_map]; omega))
  all_goals try (exfalso; omega)
  all_goals try (exfalso; dsimp only at *; omega)
  all_goals exact FinPr.mk' (by simp) (by simp)
theorem prim31a_ok (t : List Al.Node) (T : Int → List Bytes) (nm : Bytes) (ks : List Int) (fr to : Int) : Puts t 35 [aNode ⟨31, nm, 1, ks, fr, to⟩] ([[116, 114, 117, 101]]) := by
  refine Puts.of fun out hb => ?_
  try simp only [List.length_append, List.length_cons, List.length_nil] at hb
  refine .run ttab_ok func35 rfl (by kernel_rfl) (by simp [f35]) rfl ?_
  conv => whnf
  repeat' first
    | (intro h; exfalso; revert h; simp; done)
    | (intro _; conv => whnf)
    | (apply And.intro <;> (conv => whnf))
    | (refine AllRow.of rfl ?_; conv => whnf)
    | (apply AllRow.map; intro _ _; conv => whnf)
    | (refine CallG.lend call44 [0, 1] (by simp) (by simp) (by simp [isArr, pinsOf, prR]) (put_ok t [_] _ (by first | omega | (simp only [List.length_append, List.length_cons, List.length_nil]; omega) | (simp at *; omega))) ?_; rintro _ _ ⟨rfl, rfl⟩; refine ⟨by simp [prR], ?_⟩; conv => whnf)
    | (refine CallG.lend call44 [0, 1] (by simp) (by simp) (by simp [isArr, pinsOf, prR]) (put_ok t [_, _] _ (by first | omega | (simp only [List.length_append, List.length_cons, List.length_nil]; omega) | (simp at *; omega))) ?_; rintro _ _ ⟨rfl, rfl⟩; refine ⟨by simp [prR], ?_⟩; conv => whnf)
    | (refine CallG.lend call44 [0, 1] (by simp) (by simp) (by simp [isArr, pinsOf, prR]) (put_ok t [_, _, _] _ (by first | omega | (simp only [List.length_append, List.length_cons, List.length_nil]; omega) | (simp at *; omega))) ?_; rintro _ _ ⟨rfl, rfl⟩; refine ⟨by simp [prR], ?_⟩; conv => whnf)
    | (refine CallG.con call52 rfl (fmtTrue_ok) ?_; conv => whnf)
    | (refine CallQG.con call52 rfl (fmtTrue_ok) ?_; conv => whnf)
    | (refine CallG.con call52 rfl (fmtFalse_ok) ?_; conv => whnf)
    | (refine CallQG.con call52 rfl (fmtFalse_ok) ?_; conv => whnf)
    | exact ⟨rfl⟩
    | fail
  all_goals try (refine Side.mk ?_; first | omega | (simp; done) | (intro row hr; obtain ⟨_, _, rfl⟩ := List.mem_map.1 hr; rfl) | (simp only [List.length_map, List.length_cons, List.length_nil]; omega) | (dsimp only; simp only [List.length_map]; omega))
  all_goals try (exfalso; omega)
  all_goals try (exfalso; dsimp only at *; omega)
  all_goals exact FinPr.mk' (by simp) (by simp)
theorem prim31b_ok (t : List Al.Node) (T : Int → List Bytes) (nm : Bytes) (num : Int) (hnum : num ≠ 1) (ks : List Int) (fr to : Int) : Puts t 35 [aNode ⟨31, nm, num, ks, fr, to⟩] ([[102, 97, 108, 115, 101]]) := by
  refine Puts.of fun out hb => ?_
  try simp only [List.length_append, List.length_cons, List.length_nil] at hb
  refine .run ttab_ok func35 rfl (by kernel_rfl) (by simp [f35]) rfl ?_
  conv => whnf
  repeat' first
    | (intro h; exfalso; revert h; simp; done)
    | (intro _; conv => whnf)
    | (apply And.intro <;> (conv => whnf))
    | (refine AllRow.of rfl ?_; conv => whnf)
    | (apply AllRow.map; intro _ _; conv => whnf)
    | (refine CallG.lend call44 [0, 1] (by simp) (by simp) (by simp [isArr, pinsOf, prR]) (put_ok t [_] _ (by first | omega | (simp only [List.length_append, List.length_cons, List.length_nil]; omega) | (simp at *; omega))) ?_; rintro _ _ ⟨rfl, rfl⟩; refine ⟨by simp [prR], ?_⟩; conv => whnf)
    | (refine CallG.lend call44 [0, 1] (by simp) (by simp) (by simp [isArr, pinsOf, prR]) (put_ok t [_, _] _ (by first | omega | (simp only [List.length_append, List.length_cons, List.length_nil]; omega) | (simp at *; omega))) ?_; rintro _ _ ⟨rfl, rfl⟩; refine ⟨by simp [prR], ?_⟩; conv => whnf)
    | (refine CallG.lend call44 [0, 1] (by simp) (by simp) (by simp [isArr, pinsOf, prR]) (put_ok t [_, _, _] _ (by first | omega | (simp only [List.length_append, List.length_cons, List.length_nil]; omega) | (simp at *; omega))) ?_; rintro _ _ ⟨rfl, rfl⟩; refine ⟨by simp [prR], ?_⟩; conv => whnf)
    | (refine CallG.con call52 rfl (fmtTrue_ok) ?_; conv => whnf)
    | (refine CallQG.con call52 rfl (fmtTrue_ok) ?_; conv => whnf)
    | (refine CallG.con call52 rfl (fmtFalse_ok) ?_; conv => whnf)
    | (refine CallQG.con call52 rfl (fmtFalse_ok) ?_; conv => whnf)
    | exact ⟨rfl⟩
    | fail
  all_goals try (exfalso; first | (rename_i hq; exact hnum hq) | (rename_i hq _; exact hnum hq) | (rename_i hq _ _; exact hnum hq))
  all_goals try (refine Side.mk ?_; first | omega | (simp; done) | (intro row hr; obtain ⟨_, _, rfl⟩ := List.mem_map.1 hr; rfl) | (simp only [List.length_map, List.length_cons, List.length_nil]; omega) | (dsimp only; simp only [List.length_map]; omega))
  all_goals try (exfalso; omega)
  all_goals try (exfalso; dsimp only at *; omega)
  all_goals exact FinPr.mk' (by simp) (by simp)
theorem prim53a_ok (t : List Al.Node) (T : Int → List Bytes) (nm : Bytes) (ks : List Int) (fr to : Int) : Puts t 35 [aNode ⟨53, nm, 1, ks, fr, to⟩] ([[116, 114, 117, 101]]) := by
  refine Puts.of fun out hb => ?_
  try simp only [List.length_append, List.length_cons, List.length_nil] at hb
  refine .run ttab_ok func35 rfl (by kernel_rfl) (by simp [f35]) rfl ?_
  conv => whnf
  repeat' first
    | (intro h; exfalso; revert h; simp; done)
    | (intro _; conv => whnf)
    | (apply And.intro <;> (conv => whnf))
    | (refine AllRow.of rfl ?_; conv => whnf)
    | (apply AllRow.map; intro _ _; conv => whnf)
    | (refine CallG.lend call44 [0, 1] (by simp) (by simp) (by simp [isArr, pinsOf, prR]) (put_ok t [_] _ (by first | omega | (simp only [List.length_append, List.length_cons, List.length_nil]; omega) | (simp at *; omega))) ?_; rintro _ _ ⟨rfl, rfl⟩; refine ⟨by simp [prR], ?_⟩; conv => whnf)
    | (refine CallG.lend call44 [0, 1] (by simp) (by simp) (by simp [isArr, pinsOf, prR]) (put_ok t [_, _] _ (by first | omega | (simp only [List.length_append, List.length_cons, List.length_nil]; omega) | (simp at *; omega))) ?_; rintro _ _ ⟨rfl, rfl⟩; refine ⟨by simp [prR], ?_⟩; conv => whnf)
    | (refine CallG.lend call44 [0, 1] (by simp) (by simp) (by simp [isArr, pinsOf, prR]) (put_ok t [_, _, _] _ (by first | omega | (simp only [List.length_append, List.length_cons, List.length_nil]; omega) | (simp at *; omega))) ?_; rintro _ _ ⟨rfl, rfl⟩; refine ⟨by simp [prR], ?_⟩; conv => whnf)
    | (refine CallG.con call52 rfl (fmtTrue_ok) ?_; conv => whnf)
    | (refine CallQG.con call52 rfl (fmtTrue_ok) ?_; conv => whnf)
    | (refine CallG.con call52 rfl (fmtFalse_ok) ?_; conv => whnf)
    | (refine CallQG.con call52 rfl (fmtFalse_ok) ?_; conv => whnf)
    | exact ⟨rfl⟩
    | fail
  all_goals try (refine Side.mk ?_; first | omega | (simp; done) | (intro row hr; obtain ⟨_, _, rfl⟩ := List.mem_map.1 hr; rfl) | (simp only [List.length_map, List.length_cons, List.length_nil]; omega) | (dsimp only; simp only [List.length_map]; omega))
  all_goals try (exfalso; omega)
  all_goals try (exfalso; dsimp only at *; omega)
  all_goals exact FinPr.mk' (by simp) (by simp)
theorem prim53b_ok (t : List Al.Node) (T : Int → List Bytes) (nm : Bytes) (num : Int) (hnum : num ≠ 1) (ks : List Int) (fr to : Int) : Puts t 35 [aNode ⟨53, nm, num, ks, fr, to⟩] ([[102, 97, 108, 115, 101]]) := by
  refine Puts.of fun out hb => ?_
  try simp only [List.length_append, List.length_cons, List.length_nil] at hb
  refine .run ttab_ok func35 rfl (by kernel_rfl) (by simp [f35]) rfl ?_
  conv => whnf
  repeat' first
    | (intro h; exfalso; revert h; simp; done)
    | (intro _; conv => whnf)
    | (apply And.intro <;> (conv => whnf))
    | (refine AllRow.of rfl ?_; conv => whnf)
    | (apply AllRow.map; intro _ _; conv => whnf)
    | (refine CallG.lend call44 [0, 1] (by simp) (by simp) (by simp [isArr, pinsOf, prR]) (put_ok t [_] _ (by first | omega | (simp only [List.length_append, List.length_cons, List.length_nil]; omega) | (simp at *; omega))) ?_; rintro _ _ ⟨rfl, rfl⟩; refine ⟨by simp [prR], ?_⟩; conv => whnf)
    | (refine CallG.lend call44 [0, 1] (by simp) (by simp) (by simp [isArr, pinsOf, prR]) (put_ok t [_, _] _ (by first | omega | (simp only [List.length_append, List.length_cons, List.length_nil]; omega) | (simp at *; omega))) ?_; rintro _ _ ⟨rfl, rfl⟩; refine ⟨by simp [prR], ?_⟩; conv => whnf)
    | (refine CallG.lend call44 [0, 1] (by simp) (by simp) (by simp [isArr, pinsOf, prR]) (put_ok t [_, _, _] _ (by first | omega | (simp only [List.length_append, List.length_cons, List.length_nil]; omega) | (simp at *; omega))) ?_; rintro _ _ ⟨rfl, rfl⟩; refine ⟨by simp [prR], ?_⟩; conv => whnf)
    | (refine CallG.con call52 rfl (fmtTrue_ok) ?_; conv => whnf)
    | (refine CallQG.con call52 rfl (fmtTrue_ok) ?_; conv => whnf)
    | (refine CallG.con call52 rfl (fmtFalse_ok) ?_; conv => whnf)
    | (refine CallQG.con call52 rfl (fmtFalse_ok) ?_; conv => whnf)
    | exact ⟨rfl⟩
    | fail
  all_goals try (exfalso; first | (rename_i hq; exact hnum hq) | (rename_i hq _; exact hnum hq) | (rename_i hq _ _; exact hnum hq))
  all_goals try (refine Side.mk ?_; first | omega | (simp; done) | (intro row hr; obtain ⟨_, _, rfl⟩ := List.mem_map.1 hr; rfl) | (simp only [List.length_map, List.length_cons, List.length_nil]; omega) | (dsimp only; simp only [List.length_map]; omega))
  all_goals try (exfalso; omega)
  all_goals try (exfalso; dsimp only at *; omega)
  all_goals exact FinPr.mk' (by simp) (by simp)
theorem prim32_ok (t : List Al.Node) (T : Int → List Bytes) (nm : Bytes) (num : Int) (ks : List Int) (fr to : Int) : Puts t 35 [aNode ⟨32, nm, num, ks, fr, to⟩] ([[40], [41]]) := by
  refine Puts.of fun out hb => ?_
  try simp only [List.length_append, List.length_cons, List.length_nil] at hb
  refine .run ttab_ok func35 rfl (by kernel_rfl) (by simp [f35]) rfl ?_
  conv => whnf
  repeat' first
    | (intro h; exfalso; revert h; simp; done)
    | (intro _; conv => whnf)
    | (apply And.intro <;> (conv => whnf))
    | (refine AllRow.of rfl ?_; conv => whnf)
    | (apply AllRow.map; intro _ _; conv => whnf)
    | (refine CallG.lend call44 [0, 1] (by simp) (by simp) (by simp [isArr, pinsOf, prR]) (put_ok t [_] _ (by first | omega | (simp only [List.length_append, List.length_cons, List.length_nil]; omega) | (simp at *; omega))) ?_; rintro _ _ ⟨rfl, rfl⟩; refine ⟨by simp [prR], ?_⟩; conv => whnf)
    | (refine CallG.lend call44 [0, 1] (by simp) (by simp) (by simp [isArr, pinsOf, prR]) (put_ok t [_, _] _ (by first | omega | (simp only [List.length_append, List.length_cons, List.length_nil]; omega) | (simp at *; omega))) ?_; rintro _ _ ⟨rfl, rfl⟩; refine ⟨by simp [prR], ?_⟩; conv => whnf)
    | (refine CallG.lend call44 [0, 1] (by simp) (by simp) (by simp [isArr, pinsOf, prR]) (put_ok t [_, _, _] _ (by first | omega | (simp only [List.length_append, List.length_cons, List.length_nil]; omega) | (simp at *; omega))) ?_; rintro _ _ ⟨rfl, rfl⟩; refine ⟨by simp [prR], ?_⟩; conv => whnf)
    | exact ⟨rfl⟩
    | fail
  all_goals try (refine Side.mk ?_; first | omega | (simp; done) | (intro row hr; obtain ⟨_, _, rfl⟩ := List.mem_map.1 hr; rfl) | (simp only [List.length_map, List.length_cons, List.length_nil]; omega) | (dsimp only; simp only [List.length_map]; omega))
  all_goals try (exfalso; omega)
  all_goals try (exfalso; dsimp only at *; omega)
  all_goals exact FinPr.mk' (by simp) (by simp)
theorem prim33_ok (t : List Al.Node) (T : Int → List Bytes) (nm : Bytes) (num : Int) (ks : List Int) (fr to : Int) : Puts t 35 [aNode ⟨33, nm, num, ks, fr, to⟩] ([nm]) := by
  refine Puts.of fun out hb => ?_
  try simp only [List.length_append, List.length_cons, List.length_nil] at hb
  refine .run ttab_ok func35 rfl (by kernel_rfl) (by simp [f35]) rfl ?_
  conv => whnf
  repeat' first
    | (intro h; exfalso; revert h; simp; done)
    | (intro _; conv => whnf)
    | (apply And.intro <;> (conv => whnf))
    | (refine AllRow.of rfl ?_; conv => whnf)
    | (apply AllRow.map; intro _ _; conv => whnf)
    | (refine CallG.lend call44 [0, 1] (by simp) (by simp) (by simp [isArr, pinsOf, prR]) (put_ok t [_] _ (by first | omega | (simp only [List.length_append, List.length_cons, List.length_nil]; omega) | (simp at *; omega))) ?_; rintro _ _ ⟨rfl, rfl⟩; refine ⟨by simp [prR], ?_⟩; conv => whnf)
    | (refine CallG.lend call44 [0, 1] (by simp) (by simp) (by simp [isArr, pinsOf, prR]) (put_ok t [_, _] _ (by first | omega | (simp only [List.length_append, List.length_cons, List.length_nil]; omega) | (simp at *; omega))) ?_; rintro _ _ ⟨rfl, rfl⟩; refine ⟨by simp [prR], ?_⟩; conv => whnf)
    | (refine CallG.lend call44 [0, 1] (by simp) (by simp) (by simp [isArr, pinsOf, prR]) (put_ok t [_, _, _] _ (by first | omega | (simp only [List.length_append, List.length_cons, List.length_nil]; omega) | (simp at *; omega))) ?_; rintro _ _ ⟨rfl, rfl⟩; refine ⟨by simp [prR], ?_⟩; conv => whnf)
    | exact ⟨rfl⟩
    | fail
  all_goals try (refine Side.mk ?_; first | omega | (simp; done) | (intro row hr; obtain ⟨_, _, rfl⟩ := List.mem_map.1 hr; rfl) | (simp only [List.length_map, List.length_cons, List.length_nil]; omega) | (dsimp only; simp only [List.length_map]; omega))
  all_goals try (exfalso; omega)
  all_goals try (exfalso; dsimp only at *; omega)
  all_goals exact FinPr.mk' (by simp) (by simp)
theorem prim51_ok (t : List Al.Node) (T : Int → List Bytes) (nm : Bytes) (num : Int) (ks : List Int) (fr to : Int) : Puts t 35 [aNode ⟨51, nm, num, ks, fr, to⟩] ([nm]) := by
  refine Puts.of fun out hb => ?_
  try simp only [List.length_append, List.length_cons, List.length_nil] at hb
  refine .run ttab_ok func35 rfl (by kernel_rfl) (by simp [f35]) rfl ?_
  conv => whnf
  repeat' first
    | (intro h; exfalso; revert h; simp; done)
    | (intro _; conv => whnf)
    | (apply And.intro <;> (conv => whnf))
    | (refine AllRow.of rfl ?_; conv => whnf)
    | (apply AllRow.map; intro _ _; conv => whnf)
    | (refine CallG.lend call44 [0, 1] (by simp) (by simp) (by simp [isArr, pinsOf, prR]) (put_ok t [_] _ (by first | omega | (simp only [List.length_append, List.length_cons, List.length_nil]; omega) | (simp at *; omega))) ?_; rintro _ _ ⟨rfl, rfl⟩; refine ⟨by simp [prR], ?_⟩; conv => whnf)
    | (refine CallG.lend call44 [0, 1] (by simp) (by simp) (by simp [isArr, pinsOf, prR]) (put_ok t [_, _] _ (by first | omega | (simp only [List.length_append, List.length_cons, List.length_nil]; omega) | (simp at *; omega))) ?_; rintro _ _ ⟨rfl, rfl⟩; refine ⟨by simp [prR], ?_⟩; conv => whnf)
    | (refine CallG.lend call44 [0, 1] (by simp) (by simp) (by simp [isArr, pinsOf, prR]) (put_ok t [_, _, _] _ (by first | omega | (simp only [List.length_append, List.length_cons, List.length_nil]; omega) | (simp at *; omega))) ?_; rintro _ _ ⟨rfl, rfl⟩; refine ⟨by simp [prR], ?_⟩; conv => whnf)
    | exact ⟨rfl⟩
    | fail
  all_goals try (refine Side.mk ?_; first | omega | (simp; done) | (intro row hr; obtain ⟨_, _, rfl⟩ := List.mem_map.1 hr; rfl) | (simp only [List.length_map, List.length_cons, List.length_nil]; omega) | (dsimp only; simp only [List.length_map]; omega))
  all_goals try (exfalso; omega)
  all_goals try (exfalso; dsimp only at *; omega)
  all_goals exact FinPr.mk' (by simp) (by simp)
theorem prim50_ok (t : List Al.Node) (T : Int → List Bytes) (nm : Bytes) (num : Int) (ks : List Int) (fr to : Int) : Puts t 35 [aNode ⟨50, nm, num, ks, fr, to⟩] ([[95]]) := by
  refine Puts.of fun out hb => ?_
  try simp only [List.length_append, List.length_cons, List.length_nil] at hb
  refine .run ttab_ok func35 rfl (by kernel_rfl) (by simp [f35]) rfl ?_
  conv => whnf
  repeat' first
    | (intro h; exfalso; revert h; simp; done)
    | (intro _; conv => whnf)
    | (apply And.intro <;> (conv => whnf))
    | (refine AllRow.of rfl ?_; conv => whnf)
    | (apply AllRow.map; intro _ _; conv => whnf)
    | (refine CallG.lend call44 [0, 1] (by simp) (by simp) (by simp [isArr, pinsOf, prR]) (put_ok t [_] _ (by first | omega | (simp only [List.length_append, List.length_cons, List.length_nil]; omega) | (simp at *; omega))) ?_; rintro _ _ ⟨rfl, rfl⟩; refine ⟨by simp [prR], ?_⟩; conv => whnf)
    | (refine CallG.lend call44 [0, 1] (by simp) (by simp) (by simp [isArr, pinsOf, prR]) (put_ok t [_, _] _ (by first | omega | (simp only [List.length_append, List.length_cons, List.length_nil]; omega) | (simp at *; omega))) ?_; rintro _ _ ⟨rfl, rfl⟩; refine ⟨by simp [prR], ?_⟩; conv => whnf)
    | (refine CallG.lend call44 [0, 1] (by simp) (by simp) (by simp [isArr, pinsOf, prR]) (put_ok t [_, _, _] _ (by first | omega | (simp only [List.length_append, List.length_cons, List.length_nil]; omega) | (simp at *; omega))) ?_; rintro _ _ ⟨rfl, rfl⟩; refine ⟨by simp [prR], ?_⟩; conv => whnf)
    | exact ⟨rfl⟩
    | fail
  all_goals try (refine Side.mk ?_; first | omega | (simp; done) | (intro row hr; obtain ⟨_, _, rfl⟩ := List.mem_map.1 hr; rfl) | (simp only [List.length_map, List.length_cons, List.length_nil]; omega) | (dsimp only; simp only [List.length_map]; omega))
  all_goals try (exfalso; omega)
  all_goals try (exfalso; dsimp only at *; omega)
  all_goals exact FinPr.mk' (by simp) (by simp)
theorem prim34_ok (t : List Al.Node) (T : Int → List Bytes) (nm : Bytes) (num : Int) (ks : List Int) (fr to : Int) (hl : ks.length ≤ 17592186043904) (ih : ∀ k, k ∈ ks → Kid t T k) : Puts t 35 [aNode ⟨34, nm, num, ks, fr, to⟩] (nm :: [40] :: (listT T ks ++ [[41]])) := by
  refine Puts.of fun out hb => ?_
  try simp only [List.length_append, List.length_cons, List.length_nil] at hb
  refine .run ttab_ok func35 rfl (by kernel_rfl) (by simp [f35]) rfl ?_
  conv => whnf
  repeat' first
    | (intro h; exfalso; revert h; simp; done)
    | (intro _; conv => whnf)
    | (apply And.intro <;> (conv => whnf))
    | (refine AllRow.of rfl ?_; conv => whnf)
    | (apply AllRow.map; intro _ _; conv => whnf)
    | (refine CallG.lend call44 [0, 1] (by simp) (by simp) (by simp [isArr, pinsOf, prR]) (put_ok t [_] _ (by first | omega | (simp only [List.length_append, List.length_cons, List.length_nil]; omega) | (simp at *; omega))) ?_; rintro _ _ ⟨rfl, rfl⟩; refine ⟨by simp [prR], ?_⟩; conv => whnf)
    | (refine CallG.lend call44 [0, 1] (by simp) (by simp) (by simp [isArr, pinsOf, prR]) (put_ok t [_, _] _ (by first | omega | (simp only [List.length_append, List.length_cons, List.length_nil]; omega) | (simp at *; omega))) ?_; rintro _ _ ⟨rfl, rfl⟩; refine ⟨by simp [prR], ?_⟩; conv => whnf)
    | (refine CallG.lend call44 [0, 1] (by simp) (by simp) (by simp [isArr, pinsOf, prR]) (put_ok t [_, _, _] _ (by first | omega | (simp only [List.length_append, List.length_cons, List.length_nil]; omega) | (simp at *; omega))) ?_; rintro _ _ ⟨rfl, rfl⟩; refine ⟨by simp [prR], ?_⟩; conv => whnf)
    | (refine CallG.lend call46 [0, 1] (by simp) (by simp) (by simp [isArr, pinsOf, prR]) (list_ok t T ks (by omega) ih _ (by first | omega | (simp only [List.length_append, List.length_cons, List.length_nil]; omega) | (simp at *; omega))) ?_; rintro _ _ ⟨rfl, rfl⟩; refine ⟨by simp [prR], ?_⟩; conv => whnf)
    | exact ⟨rfl⟩
    | fail
  all_goals try (refine Side.mk ?_; first | omega | (simp; done) | (intro row hr; obtain ⟨_, _, rfl⟩ := List.mem_map.1 hr; rfl) | (simp only [List.length_map, List.length_cons, List.length_nil]; omega) | (dsimp only; simp only [List.length_map]; omega))
  all_goals try (exfalso; omega)
  all_goals try (exfalso; dsimp only at *; omega)
  all_goals exact FinPr.mk' (by simp) (by simp)
theorem prim35_ok (t : List Al.Node) (T : Int → List Bytes) (nm : Bytes) (num : Int) (ks : List Int) (fr to : Int) (hl : ks.length ≤ 17592186043904) (ih : ∀ k, k ∈ ks → Kid t T k) : Puts t 35 [aNode ⟨35, nm, num, ks, fr, to⟩] (nm :: [123] :: (listT T ks ++ [[125]])) := by
  refine Puts.of fun out hb => ?_
  try simp only [List.length_append, List.length_cons, List.length_nil] at hb
  refine .run ttab_ok func35 rfl (by kernel_rfl) (by simp [f35]) rfl ?_
  conv => whnf
  repeat' first
    | (intro h; exfalso; revert h; simp; done)
    | (intro _; conv => whnf)
    | (apply And.intro <;> (conv => whnf))
    | (refine AllRow.of rfl ?_; conv => whnf)
    | (apply AllRow.map; intro _ _; conv => whnf)
    | (refine CallG.lend call44 [0, 1] (by simp) (by simp) (by simp [isArr, pinsOf, prR]) (put_ok t [_] _ (by first | omega | (simp only [List.length_append, List.length_cons, List.length_nil]; omega) | (simp at *; omega))) ?_; rintro _ _ ⟨rfl, rfl⟩; refine ⟨by simp [prR], ?_⟩; conv => whnf)
    | (refine CallG.lend call44 [0, 1] (by simp) (by simp) (by simp [isArr, pinsOf, prR]) (put_ok t [_, _] _ (by first | omega | (simp only [List.length_append, List.length_cons, List.length_nil]; omega) | (simp at *; omega))) ?_; rintro _ _ ⟨rfl, rfl⟩; refine ⟨by simp [prR], ?_⟩; conv => whnf)
    | (refine CallG.lend call44 [0, 1] (by simp) (by simp) (by simp [isArr, pinsOf, prR]) (put_ok t [_, _, _] _ (by first | omega | (simp only [List.length_append, List.length_cons, List.length_nil]; omega) | (simp at *; omega))) ?_; rintro _ _ ⟨rfl, rfl⟩; refine ⟨by simp [prR], ?_⟩; conv => whnf)
    | (refine CallG.lend call46 [0, 1] (by simp) (by simp) (by simp [isArr, pinsOf, prR]) (list_ok t T ks (by omega) ih _ (by first | omega | (simp only [List.length_append, List.length_cons, List.length_nil]; omega) | (simp at *; omega))) ?_; rintro _ _ ⟨rfl, rfl⟩; refine ⟨by simp [prR], ?_⟩; conv => whnf)
    | exact ⟨rfl⟩
    | fail
  all_goals try (refine Side.mk ?_; first | omega | (simp; done) | (intro row hr; obtain ⟨_, _, rfl⟩ := List.mem_map.1 hr; rfl) | (simp only [List.length_map, List.length_cons, List.length_nil]; omega) | (dsimp only; simp only [List.length_map]; omega))
  all_goals try (exfalso; omega)
  all_goals try (exfalso; dsimp only at *; omega)
  all_goals exact FinPr.mk' (by simp) (by simp)
theorem prim36_ok (t : List Al.Node) (T : Int → List Bytes) (nm : Bytes) (num : Int) (fr to : Int) (k : Int) (hk : Kid t T k) : Puts t 35 [aNode ⟨36, nm, num, [k], fr, to⟩] (nm :: [58] :: T k) := by
  refine Puts.of fun out hb => ?_
  try simp only [List.length_append, List.length_cons, List.length_nil] at hb
  refine .run ttab_ok func35 rfl (by kernel_rfl) (by simp [f35]) rfl ?_
  conv => whnf
  repeat' first
    | (intro h; exfalso; revert h; simp; done)
    | (intro _; conv => whnf)
    | (apply And.intro <;> (conv => whnf))
    | (refine AllRow.of rfl ?_; conv => whnf)
    | (apply AllRow.map; intro _ _; conv => whnf)
    | (refine CallG.lend call44 [0, 1] (by simp) (by simp) (by simp [isArr, pinsOf, prR]) (put_ok t [_] _ (by first | omega | (simp only [List.length_append, List.length_cons, List.length_nil]; omega) | (simp at *; omega))) ?_; rintro _ _ ⟨rfl, rfl⟩; refine ⟨by simp [prR], ?_⟩; conv => whnf)
    | (refine CallG.lend call44 [0, 1] (by simp) (by simp) (by simp [isArr, pinsOf, prR]) (put_ok t [_, _] _ (by first | omega | (simp only [List.length_append, List.length_cons, List.length_nil]; omega) | (simp at *; omega))) ?_; rintro _ _ ⟨rfl, rfl⟩; refine ⟨by simp [prR], ?_⟩; conv => whnf)
    | (refine CallG.lend call44 [0, 1] (by simp) (by simp) (by simp [isArr, pinsOf, prR]) (put_ok t [_, _, _] _ (by first | omega | (simp only [List.length_append, List.length_cons, List.length_nil]; omega) | (simp at *; omega))) ?_; rintro _ _ ⟨rfl, rfl⟩; refine ⟨by simp [prR], ?_⟩; conv => whnf)
    | (refine CallG.lend call20 [0, 1] (by simp) (by simp) (by simp [isArr, pinsOf, prR]) (hk.put _ (by first | omega | (simp only [List.length_append, List.length_cons, List.length_nil]; omega) | (simp at *; omega))) ?_; rintro _ _ ⟨rfl, rfl⟩; refine ⟨by simp [prR], ?_⟩; conv => whnf)
    | exact ⟨rfl⟩
    | fail
  all_goals try (refine Side.mk ?_; first | omega | (simp; done) | (intro row hr; obtain ⟨_, _, rfl⟩ := List.mem_map.1 hr; rfl) | (simp only [List.length_map, List.length_cons, List.length_nil]; omega) | (dsimp only; simp only [List.length_map]; omega))
  all_goals try (exfalso; omega)
  all_goals try (exfalso; dsimp only at *; omega)
  all_goals exact FinPr.mk' (by simp) (by simp)
theorem prim37_ok (t : List Al.Node) (T : Int → List Bytes) (nm : Bytes) (num : Int) (ks : List Int) (fr to : Int) (hs : nm.length < 4294967281) (ih : ∀ k, k ∈ ks → Kid t T k) : Puts t 35 [aNode ⟨37, nm, num, ks, fr, to⟩] (pickT nm ++ perhapsT T ks) := by
  refine Puts.of fun out hb => ?_
  try simp only [List.length_append, List.length_cons, List.length_nil] at hb
  refine .run ttab_ok func35 rfl (by kernel_rfl) (by simp [f35]) rfl ?_
  conv => whnf
  repeat' first
    | (intro h; exfalso; revert h; simp; done)
    | (intro _; conv => whnf)
    | (apply And.intro <;> (conv => whnf))
    | (refine AllRow.of rfl ?_; conv => whnf)
    | (apply AllRow.map; intro _ _; conv => whnf)
    | (refine CallG.lend call44 [0, 1] (by simp) (by simp) (by simp [isArr, pinsOf, prR]) (put_ok t [_] _ (by first | omega | (simp only [List.length_append, List.length_cons, List.length_nil]; omega) | (simp at *; omega))) ?_; rintro _ _ ⟨rfl, rfl⟩; refine ⟨by simp [prR], ?_⟩; conv => whnf)
    | (refine CallG.lend call44 [0, 1] (by simp) (by simp) (by simp [isArr, pinsOf, prR]) (put_ok t [_, _] _ (by first | omega | (simp only [List.length_append, List.length_cons, List.length_nil]; omega) | (simp at *; omega))) ?_; rintro _ _ ⟨rfl, rfl⟩; refine ⟨by simp [prR], ?_⟩; conv => whnf)
    | (refine CallG.lend call44 [0, 1] (by simp) (by simp) (by simp [isArr, pinsOf, prR]) (put_ok t [_, _, _] _ (by first | omega | (simp only [List.length_append, List.length_cons, List.length_nil]; omega) | (simp at *; omega))) ?_; rintro _ _ ⟨rfl, rfl⟩; refine ⟨by simp [prR], ?_⟩; conv => whnf)
    | (refine CallG.lend call53 [0, 1] (by simp) (by simp) (by simp [isArr, pinsOf, prR]) (named_ok t nm hs _ (by first | omega | (simp only [List.length_append, List.length_cons, List.length_nil]; omega) | (simp at *; omega))) ?_; rintro _ _ ⟨rfl, rfl⟩; refine ⟨by simp [prR], ?_⟩; conv => whnf)
    | (refine CallG.lend call47 [0, 1] (by simp) (by simp) (by simp [isArr, pinsOf, prR]) (perhaps_ok t T ks (fun k hk => (ih k hk).put) _ (by first | omega | (simp only [List.length_append, List.length_cons, List.length_nil]; omega) | (simp at *; omega))) ?_; rintro _ _ ⟨rfl, rfl⟩; refine ⟨by simp [prR], ?_⟩; conv => whnf)
    | exact ⟨rfl⟩
    | fail
  all_goals try (refine Side.mk ?_; first | omega | (simp; done) | (intro row hr; obtain ⟨_, _, rfl⟩ := List.mem_map.1 hr; rfl) | (simp only [List.length_map, List.length_cons, List.length_nil]; omega) | (dsimp only; simp only [List.length_map]; omega))
  all_goals try (exfalso; omega)
  all_goals try (exfalso; dsimp only at *; omega)
  all_goals exact FinPr.mk' (by simp) (by simp)
theorem prim54_ok (t : List Al.Node) (T : Int → List Bytes) (nm : Bytes) (num : Int) (ks : List Int) (fr to : Int) (hs : nm.length < 4294967281) (ih : ∀ k, k ∈ ks → Kid t T k) : Puts t 35 [aNode ⟨54, nm, num, ks, fr, to⟩] (pickT nm ++ perhapsT T ks) := by
  refine Puts.of fun out hb => ?_
  try simp only [List.length_append, List.length_cons, List.length_nil] at hb
  refine .run ttab_ok func35 rfl (by kernel_rfl) (by simp [f35]) rfl ?_
  conv => whnf
  repeat' first
    | (intro h; exfalso; revert h; simp; done)
    | (intro _; conv => whnf)
    | (apply And.intro <;> (conv => whnf))
    | (refine AllRow.of rfl ?_; conv => whnf)
    | (apply AllRow.map; intro _ _; conv => whnf)
    | (refine CallG.lend call44 [0, 1] (by simp) (by simp) (by simp [isArr, pinsOf, prR]) (put_ok t [_] _ (by first | omega | (simp only [List.length_append, List.length_cons, List.length_nil]; omega) | (simp at *; omega))) ?_; rintro _ _ ⟨rfl, rfl⟩; refine ⟨by simp [prR], ?_⟩; conv => whnf)
    | (refine CallG.lend call44 [0, 1] (by simp) (by simp) (by simp [isArr, pinsOf, prR]) (put_ok t [_, _] _ (by first | omega | (simp only [List.length_append, List.length_cons, List.length_nil]; omega) | (simp at *; omega))) ?_; rintro _ _ ⟨rfl, rfl⟩; refine ⟨by simp [prR], ?_⟩; conv => whnf)
    | (refine CallG.lend call44 [0, 1] (by simp) (by simp) (by simp [isArr, pinsOf, prR]) (put_ok t [_, _, _] _ (by first | omega | (simp only [List.length_append, List.length_cons, List.length_nil]; omega) | (simp at *; omega))) ?_; rintro _ _ ⟨rfl, rfl⟩; refine ⟨by simp [prR], ?_⟩; conv => whnf)
    | (refine CallG.lend call53 [0, 1] (by simp) (by simp) (by simp [isArr, pinsOf, prR]) (named_ok t nm hs _ (by first | omega | (simp only [List.length_append, List.length_cons, List.length_nil]; omega) | (simp at *; omega))) ?_; rintro _ _ ⟨rfl, rfl⟩; refine ⟨by simp [prR], ?_⟩; conv => whnf)
    | (refine CallG.lend call47 [0, 1] (by simp) (by simp) (by simp [isArr, pinsOf, prR]) (perhaps_ok t T ks (fun k hk => (ih k hk).put) _ (by first | omega | (simp only [List.length_append, List.length_cons, List.length_nil]; omega) | (simp at *; omega))) ?_; rintro _ _ ⟨rfl, rfl⟩; refine ⟨by simp [prR], ?_⟩; conv => whnf)
    | exact ⟨rfl⟩
    | fail
  all_goals try (refine Side.mk ?_; first | omega | (simp; done) | (intro row hr; obtain ⟨_, _, rfl⟩ := List.mem_map.1 hr; rfl) | (simp only [List.length_map, List.length_cons, List.length_nil]; omega) | (dsimp only; simp only [List.length_map]; omega))
  all_goals try (exfalso; omega)
  all_goals try (exfalso; dsimp only at *; omega)
  all_goals exact FinPr.mk' (by simp) (by simp)
theorem prim44_ok (t : List Al.Node) (T : Int → List Bytes) (nm : Bytes) (num : Int) (ks : List Int) (fr to : Int) (ih : ∀ k, k ∈ ks → Kid t T k) : Puts t 35 [aNode ⟨44, nm, num, ks, fr, to⟩] ([66, 111, 120] :: [58, 58] :: [110, 101, 119] :: perhapsT T ks) := by
  refine Puts.of fun out hb => ?_
  try simp only [List.length_append, List.length_cons, List.length_nil] at hb
  refine .run ttab_ok func35 rfl (by kernel_rfl) (by simp [f35]) rfl ?_
  conv => whnf
  repeat' first
    | (intro h; exfalso; revert h; simp; done)
    | (intro _; conv => whnf)
    | (apply And.intro <;> (conv => whnf))
    | (refine AllRow.of rfl ?_; conv => whnf)
    | (apply AllRow.map; intro _ _; conv => whnf)
    | (refine CallG.lend call44 [0, 1] (by simp) (by simp) (by simp [isArr, pinsOf, prR]) (put_ok t [_] _ (by first | omega | (simp only [List.length_append, List.length_cons, List.length_nil]; omega) | (simp at *; omega))) ?_; rintro _ _ ⟨rfl, rfl⟩; refine ⟨by simp [prR], ?_⟩; conv => whnf)
    | (refine CallG.lend call44 [0, 1] (by simp) (by simp) (by simp [isArr, pinsOf, prR]) (put_ok t [_, _] _ (by first | omega | (simp only [List.length_append, List.length_cons, List.length_nil]; omega) | (simp at *; omega))) ?_; rintro _ _ ⟨rfl, rfl⟩; refine ⟨by simp [prR], ?_⟩; conv => whnf)
    | (refine CallG.lend call44 [0, 1] (by simp) (by simp) (by simp [isArr, pinsOf, prR]) (put_ok t [_, _, _] _ (by first | omega | (simp only [List.length_append, List.length_cons, List.length_nil]; omega) | (simp at *; omega))) ?_; rintro _ _ ⟨rfl, rfl⟩; refine ⟨by simp [prR], ?_⟩; conv => whnf)
    | (refine CallG.lend call47 [0, 1] (by simp) (by simp) (by simp [isArr, pinsOf, prR]) (perhaps_ok t T ks (fun k hk => (ih k hk).put) _ (by first | omega | (simp only [List.length_append, List.length_cons, List.length_nil]; omega) | (simp at *; omega))) ?_; rintro _ _ ⟨rfl, rfl⟩; refine ⟨by simp [prR], ?_⟩; conv => whnf)
    | exact ⟨rfl⟩
    | fail
  all_goals try (refine Side.mk ?_; first | omega | (simp; done) | (intro row hr; obtain ⟨_, _, rfl⟩ := List.mem_map.1 hr; rfl) | (simp only [List.length_map, List.length_cons, List.length_nil]; omega) | (dsimp only; simp only [List.length_map]; omega))
  all_goals try (exfalso; omega)
  all_goals try (exfalso; dsimp only at *; omega)
  all_goals exact FinPr.mk' (by simp) (by simp)
theorem prim47_ok (t : List Al.Node) (T : Int → List Bytes) (nm : Bytes) (num : Int) (fr to : Int) (k : Int) (m : Int) (hk : Kid t T k) (hm : Kid t T m) : Puts t 35 [aNode ⟨47, nm, num, [k, m], fr, to⟩] (T k ++ ([61, 62] :: T m)) := by
  refine Puts.of fun out hb => ?_
  try simp only [List.length_append, List.length_cons, List.length_nil] at hb
  refine .run ttab_ok func35 rfl (by kernel_rfl) (by simp [f35]) rfl ?_
  conv => whnf
  repeat' first
    | (intro h; exfalso; revert h; simp; done)
    | (intro _; conv => whnf)
    | (apply And.intro <;> (conv => whnf))
    | (refine AllRow.of rfl ?_; conv => whnf)
    | (apply AllRow.map; intro _ _; conv => whnf)
    | (refine CallG.lend call44 [0, 1] (by simp) (by simp) (by simp [isArr, pinsOf, prR]) (put_ok t [_] _ (by first | omega | (simp only [List.length_append, List.length_cons, List.length_nil]; omega) | (simp at *; omega))) ?_; rintro _ _ ⟨rfl, rfl⟩; refine ⟨by simp [prR], ?_⟩; conv => whnf)
    | (refine CallG.lend call44 [0, 1] (by simp) (by simp) (by simp [isArr, pinsOf, prR]) (put_ok t [_, _] _ (by first | omega | (simp only [List.length_append, List.length_cons, List.length_nil]; omega) | (simp at *; omega))) ?_; rintro _ _ ⟨rfl, rfl⟩; refine ⟨by simp [prR], ?_⟩; conv => whnf)
    | (refine CallG.lend call44 [0, 1] (by simp) (by simp) (by simp [isArr, pinsOf, prR]) (put_ok t [_, _, _] _ (by first | omega | (simp only [List.length_append, List.length_cons, List.length_nil]; omega) | (simp at *; omega))) ?_; rintro _ _ ⟨rfl, rfl⟩; refine ⟨by simp [prR], ?_⟩; conv => whnf)
    | (refine CallG.lend call20 [0, 1] (by simp) (by simp) (by simp [isArr, pinsOf, prR]) (hk.put _ (by first | omega | (simp only [List.length_append, List.length_cons, List.length_nil]; omega) | (simp at *; omega))) ?_; rintro _ _ ⟨rfl, rfl⟩; refine ⟨by simp [prR], ?_⟩; conv => whnf)
    | (refine CallG.lend call20 [0, 1] (by simp) (by simp) (by simp [isArr, pinsOf, prR]) (hm.put _ (by first | omega | (simp only [List.length_append, List.length_cons, List.length_nil]; omega) | (simp at *; omega))) ?_; rintro _ _ ⟨rfl, rfl⟩; refine ⟨by simp [prR], ?_⟩; conv => whnf)
    | exact ⟨rfl⟩
    | fail
  all_goals try (refine Side.mk ?_; first | omega | (simp; done) | (intro row hr; obtain ⟨_, _, rfl⟩ := List.mem_map.1 hr; rfl) | (simp only [List.length_map, List.length_cons, List.length_nil]; omega) | (dsimp only; simp only [List.length_map]; omega))
  all_goals try (exfalso; omega)
  all_goals try (exfalso; dsimp only at *; omega)
  all_goals exact FinPr.mk' (by simp) (by simp)
end Go.Proofs.Tryd
