/- Package tree: Print. -/
import Derived.Test.YtobcdpmjaeflmaaDoorPrE
import Derived.Test.YtobcdpmjaeflmaaDoorPrW
import Derived.Test.YtobcdpmjaeflmaaDoorAl4
set_option linter.unusedVariables false
set_option linter.unusedSimpArgs false
namespace Go.Proofs.Tryd
open Go Go.Al
set_option maxRecDepth 20000
set_option linter.unusedVariables false
theorem data_ba (l : List Bytes) : (l.map ba).map (fun x => x.data.toList) = l := by
  rw [List.map_map]
  conv => rhs; rw [← List.map_id l]
  rfl
theorem join_ok (ts : List Bytes) (sep : Bytes) (hN : ts.length ≤ 140737488355328) (hlen : (Lib.join ts sep).length ≤ 140737488355328) : SPure prog 21 [.d (dStrs ts), S sep] (S (Lib.join ts sep)) := by
  have h := join_pure (f := 21) (fun a c sep w => strings_Join_none a c sep w) (fun bk o c xs sep w h1 h2 h3 h4 h5 => strings_Join bk o c xs sep w h1 h2 h3 h4 h5) (ts.map ba) (ba sep) (by simpa using hN) (by rw [data_ba]; exact hlen)
  rw [data_ba] at h
  have e : (ts.map ba).map (fun s => [D.con (.string s)]) = ts.map rS := by rw [List.map_map]; rfl
  rw [e] at h
  exact h
def toksT (t : List Al.Node) : List Bytes := nodeT t t.length ((t.length - 1 : Nat) : Int)
def printT (t : List Al.Node) : Bytes := Lib.join (toksT t) [32]
theorem nodeTop (t : List Al.Node) (ht : okTree t) (hg : Good t) : SCall prog 20 [.ptr 0 0 0, I ((t.length - 1 : Nat) : Int)] [.box [.d (dNodes t), .d (.con (.slice none 0 0))]] (fun x r => x = .tup [] ∧ r = prR t (toksT t)) := by
  have hl := hg.len
  have h := (node_all t ht hg t.length ((t.length - 1 : Nat) : Int) (by omega) (by omega) (by omega)).put [] (by
    have h1 := hg.tokens ht t.length (t.length - 1) (by omega) (by omega)
    have h2 := wt_len (nodeT t t.length ((t.length - 1 : Nat) : Int))
    simp only [List.length_nil]
    omega)
  rw [List.nil_append] at h
  exact SCall.openBox (c := 1) (sz := 1) rfl h
theorem Print_bad (t : List Al.Node) (ht : okTree t) (h : checkS t = false) : SPure prog 10 [aTree t] (.tup [S [], I 3]) := by
  refine .run ttab_ok func10 rfl (by kernel_rfl) (by simp [f10]) rfl ?_
  conv => whnf
  repeat' first
    | (intro h; exfalso; revert h; simp; done)
    | (intro _; conv => whnf)
    | (apply And.intro <;> (conv => whnf))
    | (refine AllRow.of rfl ?_; conv => whnf)
    | (apply AllRow.map; intro _ _; conv => whnf)
    | (refine CallG.con call18 rfl (checkBad_ok ht h) ?_; conv => whnf)
    | (refine CallQG.con call18 rfl (checkBad_ok ht h) ?_; conv => whnf)
    | exact ⟨rfl⟩
    | fail
  all_goals exact ⟨rfl⟩
theorem Print_good (t : List Al.Node) (ht : okTree t) (h : checkS t = true) : SPure prog 10 [aTree t] (.tup [S (printT t), I 0]) := by
  have hg := good_of h
  have hl := hg.len
  have hm := hg.most
  have h1 := hg.tokens ht t.length (t.length - 1) (by omega) (by omega)
  have h2 := wt_len (toksT t)
  have h3 := join_len [32] rfl (toksT t)
  have hj := join_ok (toksT t) [32] (by unfold toksT at *; omega) (by unfold toksT at *; omega)
  refine .run ttab_ok func10 rfl (by kernel_rfl) (by simp [f10]) rfl ?_
  conv => whnf
  repeat' first
    | (intro h; exfalso; revert h; simp; done)
    | (intro _; conv => whnf)
    | (apply And.intro <;> (conv => whnf))
    | (refine AllRow.of rfl ?_; conv => whnf)
    | (apply AllRow.map; intro _ _; conv => whnf)
    | (refine CallG.con call18 rfl (checkGood_ok ht h) ?_; conv => whnf)
    | (refine CallQG.con call18 rfl (checkGood_ok ht h) ?_; conv => whnf)
    | exact ⟨rfl⟩
    | fail
  all_goals try simp only [List.length_map] at *
  all_goals try (exact ⟨by omega⟩)
  refine CallG.at [.ptr 1 0 0, I ((t.length - 1 : Nat) : Int)] ?ha ?_
  case ha =>
    rw [show (t.length : Int) - 1 = ((t.length - 1 : Nat) : Int) by omega]
    rfl
  refine CallG.lend call20 [1] (by simp) (by simp) (by simp [isArr]) (nodeTop t ht hg) ?_
  rintro _ _ ⟨rfl, rfl⟩
  refine ⟨by simp [prR], ?_⟩
  conv => whnf
  repeat' first
    | (intro h; exfalso; revert h; simp; done)
    | (intro _; conv => whnf)
    | (apply And.intro <;> (conv => whnf))
    | (refine AllRow.of rfl ?_; conv => whnf)
    | (apply AllRow.map; intro _ _; conv => whnf)
    | exact ⟨rfl⟩
    | fail
  refine CallG.con (args' := [.d (dStrs (toksT t)), S [32]]) (R' := [.box [.d (.sl (t.map rNode))], .box [.d (.sl (t.map rNode)), .vs 2 0 (toksT t).length], .arr 1 ((toksT t).map rS) (max 0 (0 + (toksT t).length))]) call21 ?hfz hj ?_
  case hfz =>
    simp [fzL, fz, asD, dStrs, S, dS, ba]
    exact List.take_of_length_le (by simp)
  conv => whnf
  repeat' first
    | (intro _; conv => whnf)
    | (apply And.intro <;> (conv => whnf))
    | (refine AllRow.of rfl ?_; conv => whnf)
    | (apply AllRow.map; intro _ _; conv => whnf)
    | exact ⟨rfl⟩
    | fail
  all_goals (refine Side.mk ?_; rfl)
end Go.Proofs.Tryd
