/- Plain facts on right nodes. -/
import Derived.Test.YtobcdpmjaeflmaaDoorTreeAll
set_option linter.unusedVariables false
set_option linter.unusedSimpArgs false
namespace Go.Proofs.Tryd
open Go Go.Al
set_option maxRecDepth 20000
theorem nameB_len {s : Bytes} (h : nameB s = true) : s.length ≤ 64 := by
  simp only [nameB, Bool.and_eq_true, decide_eq_true_eq] at h
  exact h.1.2
def fnR (x : Al.Node) (ks : List Int) : Bool := decide (2 ≤ ks.length) && (decide (x.num = (ks.length : Int) - 2) && (isS 116 (ks.getD (ks.length - 2) 0) && (isS 98 (ks.getD (ks.length - 1) 0) && (ks.take (ks.length - 2)).all (isS 113))))
theorem getD_at {l : List Int} {i : Nat} {k : Int} (h : l[i]? = some k) : l.getD i 0 = k := by
  rw [List.getD_eq_getElem?_getD, h]; rfl
theorem isS_113 (k : Int) : isS 113 k = decide (k = 7) := by simp [isS]
def paramsK (ks : List Int) : Nat := (ks.filter fun k => decide (k = 7)).length
theorem params_eq (t : List Al.Node) (l : List Int) : params t l = paramsK (l.map (kindAt t)) := by
  unfold params paramsK
  rw [List.filter_map, List.length_map]
  rfl
theorem drop_two {ks : List Int} (h : 2 ≤ ks.length) : ∃ a b, ks.drop (ks.length - 2) = [a, b] ∧ ks.getD (ks.length - 2) 0 = a ∧ ks.getD (ks.length - 1) 0 = b := by
  obtain ⟨a, ha⟩ : ∃ a, ks[ks.length - 2]? = some a := ⟨_, List.getElem?_eq_getElem (by omega)⟩
  obtain ⟨b, hb⟩ : ∃ b, ks[ks.length - 1]? = some b := ⟨_, List.getElem?_eq_getElem (by omega)⟩
  refine ⟨a, b, ?_, getD_at ha, getD_at hb⟩
  rw [drop_at ha, show ks.length - 2 + 1 = ks.length - 1 from by omega, drop_at hb, List.drop_eq_nil_of_le (by omega)]
theorem drop_one {ks : List Int} (h : 1 ≤ ks.length) : ∃ b, ks.drop (ks.length - 1) = [b] ∧ ks.getD (ks.length - 1) 0 = b := by
  obtain ⟨b, hb⟩ : ∃ b, ks[ks.length - 1]? = some b := ⟨_, List.getElem?_eq_getElem (by omega)⟩
  refine ⟨b, ?_, getD_at hb⟩
  rw [drop_at hb, List.drop_eq_nil_of_le (by omega)]
theorem fn_eq (x : Al.Node) (ks : List Int) (hk : x.kind = 2) : fnR x ks = (decide (x.num = (paramsK ks : Nat)) && fitsS x ks) := by
  have hs : shapeS x.kind x.num = [42, 113, 116, 98] := by simp [shapeS, hk]
  unfold fitsS fnR
  rw [hs]
  unfold fitsW
  by_cases h2 : 2 ≤ ks.length
  · obtain ⟨a, b, hd, ea, eb⟩ := drop_two h2
    rw [ea, eb]
    simp only [List.length_cons, List.length_nil, Nat.zero_add, Nat.reduceAdd, hd, decide_eq_true h2, Bool.true_and]
    rw [show bu 113 = 113 from rfl]
    cases hall : (ks.take (ks.length - 2)).all (isS 113) with
    | false => simp
    | true =>
      have e : ks = ks.take (ks.length - 2) ++ [a, b] := by rw [← hd, List.take_append_drop]
      cases ha : isS 116 a with
      | false => simp [kidsS, bu, ha]
      | true =>
        cases hb : isS 98 b with
        | false => simp [kidsS, bu, ha, hb]
        | true =>
          have a7 : ¬ a = 7 := by rintro rfl; simp [isS] at ha
          have b7 : ¬ b = 7 := by rintro rfl; simp [isS] at hb
          have hp : paramsK ks = ks.length - 2 := by
            unfold paramsK
            conv => lhs; rw [e]
            rw [List.filter_append, List.length_append]
            have h1 : (ks.take (ks.length - 2)).filter (fun k => decide (k = 7)) = ks.take (ks.length - 2) := by
              rw [List.filter_eq_self]
              intro k hk
              have := List.all_eq_true.1 hall k hk
              rwa [isS_113] at this
            rw [h1]
            simp [a7, b7]
          rw [hp]
          have : ((ks.length - 2 : Nat) : Int) = (ks.length : Int) - 2 := by omega
          rw [this]
          simp [kidsS, bu, ha, hb]
  · simp only [decide_eq_false h2, Bool.false_and]
    have : decide (List.length [(116 : UInt8), 98] ≤ ks.length) = false := decide_eq_false h2
    rw [this]
    simp
theorem Good.nodeAt {t : List Al.Node} (h : Good t) {i : Nat} {x : Al.Node} (hx : t[i]? = some x) : nodeS t i x = true := nodesS_node h.node (List.getElem?_eq_some_iff.1 hx).1 hx
theorem Good.parts {t : List Al.Node} (h : Good t) {i : Nat} {x : Al.Node} (hx : t[i]? = some x) : knownS x.kind = true ∧ nameS x = true ∧ numS x (params t x.kids) = true ∧ fitsS x (x.kids.map (kindAt t)) = true := by
  have := h.nodeAt hx
  rw [nodeS_good (h.kids hx)] at this
  simp only [Bool.and_eq_true] at this
  exact ⟨this.1, this.2.1, this.2.2.1, this.2.2.2.2.2⟩
end Go.Proofs.Tryd
