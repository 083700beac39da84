/- Plain laws: a tree whose places are moved all alike. -/
import Derived.Test.YtobcdpmjaeflmaaDoorPrF
set_option pp.deepTerms false
set_option pp.deepTerms.threshold 9
set_option linter.unusedVariables false
set_option linter.unusedSimpArgs false
namespace Go.Proofs.Tryd
open Go Go.Al
set_option maxRecDepth 20000
set_option linter.unusedVariables false
def mvN (by_ : Int) (x : Al.Node) : Al.Node := { x with frm := x.frm + by_, to := x.to + by_ }
def mvT (by_ : Int) (t : List Al.Node) : List Al.Node := t.map (mvN by_)
theorem mvT_at {by_ : Int} {t : List Al.Node} {i : Nat} : (mvT by_ t)[i]? = (t[i]?).map (mvN by_) := by simp [mvT]
theorem kindAt_mv (by_ : Int) (t : List Al.Node) : kindAt (mvT by_ t) = kindAt t := by
  funext k
  unfold kindAt
  rw [mvT_at]
  cases t[k.toNat]? <;> rfl
theorem params_mv (by_ : Int) (t : List Al.Node) (l : List Int) : params (mvT by_ t) l = params t l := by unfold params; rw [kindAt_mv]
theorem nodeS_mv {by_ : Int} (h0 : 0 ≤ by_) {t : List Al.Node} {i : Nat} {x : Al.Node} (h : nodeS t i x = true) : nodeS (mvT by_ t) i (mvN by_ x) = true := by
  unfold nodeS at h ⊢
  rw [params_mv, kindAt_mv]
  simp only [Bool.and_eq_true, decide_eq_true_eq] at h ⊢
  obtain ⟨h1, h2, h3, h4, h5, h6, h7⟩ := h
  refine ⟨h1, h2, h3, h4, ?_, ?_, h7⟩
  · show 0 ≤ x.frm + by_; omega
  · show x.frm + by_ ≤ x.to + by_; omega
theorem nodesS_mv {by_ : Int} (h0 : 0 ≤ by_) {t : List Al.Node} {m : Nat} (h : nodesS t m = true) : nodesS (mvT by_ t) m = true := by
  unfold nodesS at h ⊢
  rw [List.all_eq_true] at h ⊢
  intro i hi
  have := h i hi
  rw [mvT_at]
  cases hx : t[i]? with
  | none => rw [hx] at this; exact this
  | some x => rw [hx] at this; exact nodeS_mv h0 this
theorem fillTo_mv (by_ : Int) (t : List Al.Node) : ∀ i, fillTo (mvT by_ t) i = fillTo t i
  | 0 => by simp [fillTo, mvT]
  | i + 1 => by
    simp only [fillTo, fillTo_mv by_ t i]
    rw [mvT_at]
    cases t[i]? <;> rfl
theorem checkS_mv {by_ : Int} (h0 : 0 ≤ by_) {t : List Al.Node} (h : checkS t = true) : checkS (mvT by_ t) = true := by
  unfold checkS at h ⊢
  have hl : (mvT by_ t).length = t.length := by simp [mvT]
  rw [hl, fillTo_mv, kindAt_mv]
  simp only [Bool.and_eq_true, decide_eq_true_eq] at h ⊢
  exact ⟨h.1, h.2.1, h.2.2.1, nodesS_mv h0 h.2.2.2.1, h.2.2.2.2⟩
theorem opT_mv (by_ : Int) (t : List Al.Node) : opT (mvT by_ t) = opT t := by
  funext T k get
  unfold opT
  rw [kindAt_mv]
theorem tokT_mv (by_ : Int) (t : List Al.Node) (T : Int → List Bytes) (x : Al.Node) : tokT (mvT by_ t) T (mvN by_ x) = tokT t T x := by
  unfold tokT itemT fnT stmtT exprT
  rw [opT_mv, kindAt_mv]
  rfl
theorem nodeT_mv (by_ : Int) (t : List Al.Node) : ∀ f i, nodeT (mvT by_ t) f i = nodeT t f i
  | 0, i => rfl
  | f + 1, i => by
    unfold nodeT
    rw [mvT_at]
    cases hx : t[i.toNat]? with
    | none => rfl
    | some x =>
      have e : nodeT (mvT by_ t) f = nodeT t f := funext (nodeT_mv by_ t f)
      show tokT (mvT by_ t) (nodeT (mvT by_ t) f) (mvN by_ x) = tokT t (nodeT t f) x
      rw [e, tokT_mv]
theorem printT_mv (by_ : Int) (t : List Al.Node) : printT (mvT by_ t) = printT t := by
  unfold printT toksT
  have hl : (mvT by_ t).length = t.length := by simp [mvT]
  rw [hl, nodeT_mv]
theorem mvT_take {by_ : Int} {t : List Al.Node} {i : Nat} {x : Al.Node} (h : t[i]? = some x) : mvT by_ (t.take (i + 1)) = mvT by_ (t.take i) ++ [mvN by_ x] := by
  unfold mvT
  rw [List.take_add_one, h]
  simp
end Go.Proofs.Tryd
