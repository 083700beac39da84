/- Contracts: trees that are the same but for their places. -/
import Derived.Test.YtobcdpmjaeflmaaDoorAl4
import Derived.Test.YtobcdpmjaeflmaaDoorTF
set_option pp.deepTerms false
set_option pp.deepTerms.threshold 9
set_option linter.unusedVariables false
set_option linter.unusedSimpArgs false
namespace Go.Proofs.Tryd
open Go Go.Al
set_option maxRecDepth 20000

theorem equal_ok (a b : List Int) (ha : a.length ≤ 140737488355328) : SPure prog 16 [.d (dInts a), .d (dInts b)] (B (decide (a = b))) := by
  refine .run ttab_ok func16 rfl (by kernel_rfl) (by simp [f16]) rfl ?_
  conv => whnf
  repeat' first
    | (refine And.intro ?_ ?_ <;> (conv => whnf))
    | (intro _; conv => whnf)
    | exact ⟨rfl⟩
    | fail
  · rename_i h
    refine Side.mk ?_
    have hne : ¬ a = b := by
      rintro rfl
      simp at h
    simp [B, dB, hne]
  · rename_i h
    have hlen : a.length = b.length := by simp at h; omega
    refine LoopG.of ttab_ok [0, 1, 12, 13] [] (fun (i : Nat) => ⟨[(0, .d (dInts a)), (1, .d (dInts b)), (12, I a.length), (13, I i)], []⟩) (fun i => i ≤ a.length ∧ a.take i = b.take i) (fun i => a.length - i) 0 (by kernel_rfl) .nil (by simp) (by simp) ?hs ⟨by omega, by simp⟩ ?_
    case hs =>
      simp only [keepSt, keepE, Al.look, envOf, lend, ren, renL, renR, posOf, List.map_cons, List.map_nil]
      simp [I, dI, dInts]
    intro i hJ
    obtain ⟨hi, ht⟩ := hJ
    conv => whnf
    repeat' first
      | (refine And.intro ?_ ?_ <;> (conv => whnf))
      | (refine AllRow.map ?_; intro _ _; conv => whnf)
      | (intro _; conv => whnf)
      | exact ⟨rfl⟩
      | fail
    all_goals try simp only [Int.toNat_natCast] at *
    · exact ⟨by simp; omega⟩
    · exact ⟨by simp; omega⟩
    · rename_i x hx y hy hne
      refine ⟨?_⟩
      have : ¬ a = b := by
        rintro rfl
        rw [hx] at hy
        cases hy
        exact hne rfl
      simp [B, dB, this]
    · exact ⟨by omega⟩
    · rename_i x hx y hy hne
      have hxy : x = y := by simpa using hne
      refine RoundG.mk' (i + 1) (by simp) ?_ (by omega) ⟨by omega, ?_⟩
      · simp only [keepSt, keepE, Al.look, envOf, lend, ren, renL, renR, posOf, List.map_cons, List.map_nil]
        simp [I, dI, dInts]
      · rw [List.take_add_one, List.take_add_one, ht, hx, hy, hxy]
    · rename_i hge
      refine ⟨?_⟩
      have : a = b := by
        rw [List.take_of_length_le (by omega), List.take_of_length_le (by omega)] at ht
        exact ht
      simp [B, dB, this]

def okN (x : Al.Node) : Prop := x.kids.length ≤ 140737488355328
def keyN (x : Al.Node) : Int × Bytes × Int × List Int := (x.kind, x.name, x.num, x.kids)
def sameN (x y : Al.Node) : Bool := decide (keyN x = keyN y)
def sameT (a b : List Al.Node) : Bool := decide (a.map keyN = b.map keyN)
theorem same1_ok (x y : Al.Node) (hx : okN x) : SPure prog 15 [aNode x, aNode y] (B (sameN x y)) := by
  refine .run ttab_ok func15 rfl (by kernel_rfl) (by simp [f15]) rfl ?_
  conv => whnf
  repeat' first
    | (refine And.intro ?_ ?_ <;> (conv => whnf))
    | (intro h; exfalso; revert h; simp; done)
    | (intro _; conv => whnf)
    | (refine CallG.con call16 rfl (equal_ok _ _ hx) ?_; conv => whnf)
    | exact ⟨rfl⟩
    | fail
  all_goals (refine ⟨?_⟩; simp_all [B, dB, sameN, keyN])

theorem step_key {a b : List Al.Node} {i : Nat} {x y : Al.Node} (ht : (a.take i).map keyN = (b.take i).map keyN) (hx : a[i]? = some x) (hy : b[i]? = some y) (h : keyN x = keyN y) :
    (a.take (i + 1)).map keyN = (b.take (i + 1)).map keyN := by
  rw [List.take_add_one, List.take_add_one, List.map_append, List.map_append, ht, hx, hy]
  simp [h]
theorem not_key {a b : List Al.Node} {i : Nat} {x y : Al.Node} (hx : a[i]? = some x) (hy : b[i]? = some y) (h : keyN x ≠ keyN y) : ¬ a.map keyN = b.map keyN := by
  intro e
  have := congrArg (·[i]?) e
  simp [hx, hy] at this
  exact h this
theorem all_key {a b : List Al.Node} {i : Nat} (ht : (a.take i).map keyN = (b.take i).map keyN) (ha : a.length ≤ i) (hb : b.length ≤ i) : a.map keyN = b.map keyN := by
  rwa [List.take_of_length_le ha, List.take_of_length_le hb] at ht

theorem equalFunc_ok (a b : List Al.Node) (ha : a.length ≤ 140737488355328) (hk : ∀ x, x ∈ a → okN x) :
    SPure prog 14 [.d (dNodes a), .d (dNodes b), .fn 15 []] (B (sameT a b)) := by
  refine .run ttab_ok func14 rfl (by kernel_rfl) (by simp [f14]) rfl ?_
  conv => whnf
  repeat' first
    | (refine And.intro ?_ ?_ <;> (conv => whnf))
    | (intro _; conv => whnf)
    | exact ⟨rfl⟩
    | fail
  · rename_i h
    refine ⟨?_⟩
    have hne : ¬ a.map keyN = b.map keyN := by
      intro e
      have := congrArg List.length e
      simp at this h
      omega
    simp [B, dB, sameT, hne]
  · rename_i h
    have hlen : a.length = b.length := by simp at h; omega
    refine LoopG.of ttab_ok [1, 2, 15, 16, 17] [] (fun (i : Nat) => ⟨[(1, .d (dNodes b)), (2, .fn 15 []), (15, .d (dNodes a)), (16, I a.length), (17, I i)], []⟩) (fun i => i ≤ a.length ∧ (a.take i).map keyN = (b.take i).map keyN) (fun i => a.length - i) 0 (by kernel_rfl) .nil (by simp) (by simp) ?hs ⟨by omega, by simp⟩ ?_
    case hs =>
      simp only [keepSt, keepE, Al.look, envOf, lend, ren, renL, renR, posOf, List.map_cons, List.map_nil]
      simp [I, dI, dNodes, envOf, look, ren, renL]
    intro i hJ
    obtain ⟨hi, ht⟩ := hJ
    conv => whnf
    repeat' first
      | (refine And.intro ?_ ?_ <;> (conv => whnf))
      | (refine AllRow.map ?_; intro _ _; conv => whnf)
      | (intro _; conv => whnf)
      | (refine CallG.con call15 rfl (same1_ok _ _ ?hok) ?_; case' hok => skip; rotate_left; conv => whnf)
      | exact ⟨rfl⟩
      | fail
    all_goals try simp only [Int.toNat_natCast] at *
    · exact ⟨by simp; omega⟩
    · exact ⟨by simp; omega⟩
    · rename_i x hx y hy
      exact hk _ (List.mem_of_getElem? hx)
    · exact ⟨by omega⟩
    · rename_i x hx y hy h
      have h : keyN x = keyN y := of_decide_eq_true h
      refine RoundG.mk' (i + 1) (by simp) ?_ (by omega) ⟨by omega, step_key ht hx hy h⟩
      simp only [keepSt, keepE, Al.look, envOf, lend, ren, renL, renR, posOf, List.map_cons, List.map_nil]
      simp [I, dI, dNodes, renL, ren]
    · rename_i x hx y hy h
      have h : keyN x ≠ keyN y := of_decide_eq_false h
      exact ⟨by simp [B, dB, sameT, not_key hx hy h]⟩
    · rename_i hge
      exact ⟨by simp [B, dB, sameT, all_key ht (by omega) (by omega)]⟩

theorem same_ok (a b : List Al.Node) (ha : a.length ≤ 140737488355328) (hk : ∀ x, x ∈ a → okN x) : SPure prog 6 [aTree a, aTree b] (B (sameT a b)) := by
  refine .run ttab_ok func6 rfl (by kernel_rfl) (by simp [f6]) rfl ?_
  conv => whnf
  repeat' first
    | (refine And.intro ?_ ?_ <;> (conv => whnf))
    | (intro _; conv => whnf)
    | (refine CallG.con call14 rfl (equalFunc_ok _ _ ha hk) ?_; conv => whnf)
    | exact ⟨rfl⟩
    | fail
  all_goals (refine ⟨?_⟩; simp_all [B, dB])

def cN (x : Al.Node) : List AV := [.d (dI x.kind), .d (dS x.name), .d (dI x.num), .d (dInts x.kids), .d (dI x.frm), .d (dI x.to)]
theorem refSame_ok (a b : List Al.Node) (ha : a.length ≤ 140737488355328) (hk : ∀ x, x ∈ a → okN x) : SPure prog 7 [aTree a, aTree b] (B (sameT a b)) := by
  refine .run ttab_ok func7 rfl (by kernel_rfl) (by simp [f7]) rfl ?_
  conv => whnf
  repeat' first
    | (refine And.intro ?_ ?_ <;> (conv => whnf))
    | (intro _; conv => whnf)
    | exact ⟨rfl⟩
    | fail
  · rename_i h
    refine ⟨?_⟩
    have hne : ¬ a.map keyN = b.map keyN := by
      intro e
      have := congrArg List.length e
      simp at this h
      omega
    simp [B, dB, sameT, hne]
  · rename_i h
    have hlen : a.length = b.length := by simp at h; omega
    refine LoopG.of ttab_ok [3, 17, 18, 19] [0, 1] (fun (i : Nat) => ⟨[(3, .ptr 1 0 0), (17, .d (dNodes a)), (18, I a.length), (19, I i)], [.box [.d (dNodes a)], .box [.d (dNodes b)]]⟩) (fun i => i ≤ a.length ∧ (a.take i).map keyN = (b.take i).map keyN) (fun i => a.length - i) 0 (by kernel_rfl) (by simp) (by simp) (by simp) ?hs ⟨by omega, by simp⟩ ?_
    case hs =>
      simp only [keepSt, keepE, Al.look, envOf, lend, ren, renL, renR, posOf, List.map_cons, List.map_nil]
      simp [I, dI, dNodes, envOf, look, ren, renL, posOf, renR]
    intro i hJ
    obtain ⟨hi, ht⟩ := hJ
    conv => whnf
    repeat' first
      | (refine And.intro ?_ ?_ <;> (conv => whnf))
      | (refine AllRow.map ?_; intro _ _; conv => whnf)
      | (intro h; exfalso; revert h; simp; done)
      | (intro _; conv => whnf)
      | exact ⟨rfl⟩
      | fail
    all_goals try simp only [Int.toNat_natCast] at *
    · exact ⟨by simp; omega⟩
    · exact ⟨by simp; omega⟩
    · rename_i x hx y hy h1
      exact ⟨by simp [B, dB, sameT, not_key hx hy (by simp [keyN]; intro e; exact absurd e h1)]⟩
    · rename_i x hx y hy h1 h2
      exact ⟨by simp [B, dB, sameT, not_key hx hy (by simp at h2; simp [keyN, h2])]⟩
    · rename_i x hx y hy h1 h2 h3
      exact ⟨by simp [B, dB, sameT, not_key hx hy (by simp [keyN]; intro _ _ e; exact absurd e h3)]⟩
    · rename_i x hx y hy h1 h2 h3 h4
      exact ⟨by simp [B, dB, sameT, not_key hx hy (by simp [keyN]; intro _ _ _ e; simp [e] at h4)]⟩
    · rename_i hlt x hx y hy h1 h2 h3 h4
      have hkl : x.kids.length = y.kids.length := by simp at h4; omega
      have hkb : x.kids.length ≤ 140737488355328 := hk x (List.mem_of_getElem? hx)
      have h1 : x.kind = y.kind := by simpa using h1
      have h2 : x.name = y.name := by simpa using h2
      have h3 : x.num = y.num := by simpa using h3
      refine LoopG.of ttab_ok [3, 17, 18, 19, 6, 7, 59, 60] [0, 1, 2, 3] (fun (k : Nat) => ⟨[(3, .ptr 1 0 0), (17, .d (dNodes a)), (18, I a.length), (19, I i), (6, .ptr 2 0 0), (7, .ptr 3 0 0), (59, I x.kids.length), (60, I k)], [.box [.d (dNodes a)], .box [.d (dNodes b)], .box (cN x), .box (cN y)]⟩)
        (fun k => k ≤ x.kids.length ∧ x.kids.take k = y.kids.take k) (fun k => x.kids.length - k) 0 (by kernel_rfl) (by simp) (by simp) (by simp) ?hs2 ⟨by omega, by simp⟩ ?_
      case hs2 =>
        simp only [keepSt, keepE, Al.look, envOf, lend, ren, renL, renR, posOf, List.map_cons, List.map_nil]
        simp [I, dI, dNodes, envOf, look, ren, renL, posOf, renR, cN, dS, dInts]
      intro k hJ
      obtain ⟨hki, hkt⟩ := hJ
      conv => whnf
      repeat' first
        | (refine And.intro ?_ ?_ <;> (conv => whnf))
        | (refine AllRow.map ?_; intro _ _; conv => whnf)
        | (intro h; exfalso; revert h; simp; done)
        | (intro _; conv => whnf)
        | exact ⟨rfl⟩
        | fail
      all_goals try simp only [Int.toNat_natCast] at *
      · exact ⟨by simp; omega⟩
      · exact ⟨by simp; omega⟩
      · rename_i u hu v hv hne
        have : x.kids ≠ y.kids := by
          intro e
          rw [e, hv] at hu
          cases hu
          exact hne rfl
        exact ⟨by simp [B, dB, sameT, not_key hx hy (by simp [keyN, this])]⟩
      · exact ⟨by omega⟩
      · rename_i u hu v hv hne
        have huv : u = v := by simpa using hne
        refine RoundG.mk' (k + 1) (by simp) ?_ (by omega) ⟨by omega, ?_⟩
        · simp only [keepSt, keepE, Al.look, envOf, lend, ren, renL, renR, posOf, List.map_cons, List.map_nil]
          simp [I, dI, dNodes, envOf, look, ren, renL, posOf, renR, cN, dS, dInts]
        · rw [List.take_add_one, List.take_add_one, hkt, hu, hv, huv]
      · exact ⟨by omega⟩
      · rename_i hge
        have hkk : x.kids = y.kids := by
          rw [List.take_of_length_le (by omega), List.take_of_length_le (by omega)] at hkt
          exact hkt
        refine RoundG.mk' (i + 1) (by simp) ?_ (by omega) ⟨by omega, step_key ht hx hy (by simp [keyN, h1, h2, h3, hkk])⟩
        simp only [keepSt, keepE, Al.look, envOf, lend, ren, renL, renR, posOf, List.map_cons, List.map_nil]
        simp [I, dI, dNodes, envOf, look, ren, renL, posOf, renR]
    · rename_i hge
      exact ⟨by simp [B, dB, sameT, all_key ht (by omega) (by omega)]⟩

theorem treeSames_ok (small : SPure prog 8 [] (B true)) (a b : List Al.Node) (ha : a.length ≤ 140737488355328) (hk : ∀ x, x ∈ a → okN x) : SPure prog 3 [aTree a, aTree b] (B true) := by
  refine .run ttab_ok func3 rfl (by kernel_rfl) (by simp [f3]) rfl ?_
  conv => whnf
  repeat' first
    | (refine And.intro ?_ ?_ <;> (conv => whnf))
    | (intro h; exfalso; revert h; simp; done)
    | (intro _; conv => whnf)
    | (refine CallQG.con call6 rfl (same_ok _ _ ha hk) ?_; conv => whnf)
    | (refine CallQG.con call7 rfl (refSame_ok _ _ ha hk) ?_; conv => whnf)
    | (refine CallQG.con call8 rfl small ?_; conv => whnf)
    | exact ⟨rfl⟩
    | fail
  all_goals (exfalso; simp_all [sameT])
end Go.Proofs.Tryd
