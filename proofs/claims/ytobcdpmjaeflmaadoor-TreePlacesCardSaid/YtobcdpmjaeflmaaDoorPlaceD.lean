/- The law TreePlaces. -/
import Derived.Test.YtobcdpmjaeflmaaDoorPlaceP
import Derived.Test.YtobcdpmjaeflmaaDoorSameD
import Derived.Test.YtobcdpmjaeflmaaDoorSmallD
set_option pp.deepTerms false
set_option pp.deepTerms.threshold 9
set_option linter.unusedVariables false
set_option linter.unusedSimpArgs false
namespace Go.Proofs.Tryd
open Go Go.Al
set_option maxRecDepth 20000
set_option linter.unusedVariables false
theorem fzU (t : List Al.Node) (n : Int) (lim : Nat) : fzL ([.agg [.vs 2 0 t.length]] ++ []) [.box [.d (.sl (t.map rNode))], .box [.vs 2 0 t.length], .arr 6 ((mvT n t).map rNode) lim] =
    some ([aTree (mvT n t)], [.box [.d (.sl (t.map rNode))], .box [.vs 2 0 t.length], .arr 6 ((mvT n t).map rNode) (max lim (0 + t.length))]) := by
  have hml : (mvT n t).length = t.length := by simp [mvT]
  simp [fzL, fz, asD, aTree, dNodes, hml]
  exact List.take_of_length_le (by simp [hml])
theorem fzV (t : List Al.Node) (n : Int) (lim : Nat) : fzL ([.agg [.d (.sl (t.map rNode))], .agg [.vs 2 0 t.length]] ++ []) [.box [.d (.sl (t.map rNode))], .box [.vs 2 0 t.length], .arr 6 ((mvT n t).map rNode) lim] =
    some ([aTree t, aTree (mvT n t)], [.box [.d (.sl (t.map rNode))], .box [.vs 2 0 t.length], .arr 6 ((mvT n t).map rNode) (max lim (0 + t.length))]) := by
  have hml : (mvT n t).length = t.length := by simp [mvT]
  simp [fzL, fz, asD, aTree, dNodes, hml]
  exact List.take_of_length_le (by simp [hml])
theorem sameT_mv (n : Int) (t : List Al.Node) : sameT t (mvT n t) = true := by
  unfold sameT mvT
  simp
  intro x hx
  rfl
theorem treePlaces_ok (t : List Al.Node) (ht : okTree t) (n : Int) (hn : okI n) : SPure prog 4 [aTree t, I n] (B true) := by
  have hl := ht.len
  cases hlong : longS t with
  | true =>
    refine .run ttab_ok func4 rfl (by kernel_rfl) (by simp [f4]) rfl ?_
    conv => whnf
    repeat' first
      | (intro h; exfalso; revert h; simp; done)
      | (intro _; conv => whnf)
      | (apply And.intro <;> (conv => whnf))
      | (refine AllRow.of rfl ?_; conv => whnf)
      | (apply AllRow.map; intro _ _; conv => whnf)
      | (refine CallG.con call9 rfl (hlong ▸ long_ok t ht) ?_; conv => whnf)
      | (refine CallQG.con call9 rfl (hlong ▸ long_ok t ht) ?_; conv => whnf)
      | (refine CallG.con call8 rfl (small_ok) ?_; conv => whnf)
      | (refine CallQG.con call8 rfl (small_ok) ?_; conv => whnf)
      | exact ⟨rfl⟩
      | fail
    all_goals exact ⟨rfl⟩
  | false =>
    refine .run ttab_ok func4 rfl (by kernel_rfl) (by simp [f4]) rfl ?_
    conv => whnf
    repeat' first
      | (intro _; conv => whnf)
      | (apply And.intro <;> (conv => whnf))
      | (refine AllRow.of rfl ?_; conv => whnf)
      | (apply AllRow.map; intro _ _; conv => whnf)
      | (refine CallG.con call9 rfl (hlong ▸ long_ok t ht) ?_; conv => whnf)
      | (refine CallQG.con call9 rfl (hlong ▸ long_ok t ht) ?_; conv => whnf)
      | (refine CallG.con call8 rfl (small_ok) ?_; conv => whnf)
      | (refine CallQG.con call8 rfl (small_ok) ?_; conv => whnf)
      | exact ⟨rfl⟩
      | fail
    all_goals try (exact ⟨rfl⟩)
    all_goals try simp only [List.length_map] at *
    all_goals try (exfalso; first | contradiction | omega)
    rename_i hb0 hb1
    refine LoopG.weak (Weak.openBox 1 0 6 _ rfl rfl) ?_
    refine LoopG.of ttab_ok [1, 2, 5, 23, 24, 25] [0, 1, 2] (fun (i : Nat) => ⟨[(1, I n), (2, .ptr 0 0 0), (5, .ptr 1 0 0), (23, .d (dNodes t)), (24, I t.length), (25, I i)], [.box [.d (dNodes t)], .box [.vs 2 0 i], .arr 6 ((mvT n (t.take i)).map rNode) 0]⟩)
      (fun i => i ≤ t.length ∧ ∀ x, x ∈ t.take i → x.to ≤ 1099511627776 ∧ x.frm ≤ 1099511627776) (fun i => t.length - i) 0 (by kernel_rfl) (by simp) (by simp) (by simp) ?hs ⟨by omega, by simp⟩ ?_
    case hs =>
      first
        | (simp only [keepSt, keepE, Al.look, envOf, lend, ren, renL, renR, posOf, List.map_cons, List.map_nil]; done)
        | (simp only [keepSt, keepE, Al.look, envOf, lend, ren, renL, renR, posOf, List.map_cons, List.map_nil]; simp [I, S, B, U8, dI, dS, dB, dU8, dInts, dStrs, dNodes, ren, renL, renR, posOf, Al.look, envOf, mvT])
        | (simp [keepSt, keepE, lend, I, S, B, U8, dI, dS, dB, dU8, dInts, dStrs, dNodes, ren, renL, renR, posOf, Al.look, envOf, mvT])
    rintro i ⟨hi, hok⟩
    conv => whnf
    repeat' first
      | (intro _; conv => whnf)
      | (apply And.intro <;> (conv => whnf))
      | (refine AllRow.of rfl ?_; conv => whnf)
      | (apply AllRow.map; intro _ _; conv => whnf)
      | (refine CallG.con call8 rfl (small_ok) ?_; conv => whnf)
      | (refine CallQG.con call8 rfl (small_ok) ?_; conv => whnf)
      | exact ⟨rfl⟩
      | fail
    all_goals try simp only [Int.toNat_natCast, List.length_map] at *
    all_goals try (refine Side.mk ?_; omega)
    all_goals try (exfalso; rename_i hq; cases hq; done)
    · rename_i hlt x hx h1 h2
      have := (ht.node x (List.mem_of_getElem? hx)).frm
      exact ⟨by unfold okI at this; omega⟩
    · rename_i hlt x hx h1 h2
      have := (ht.node x (List.mem_of_getElem? hx)).to
      exact ⟨by unfold okI at this; omega⟩
    · exact ⟨by simp [oneD, Value.oneCell']⟩
    · refine ⟨?_⟩
      simp [pinsOf, mvT]
      omega
    · rename_i hlt x hx h1 h2
      refine RoundG.mk' (i + 1) (by simp) ?_ (by omega) ⟨by omega, ?_⟩
      · rw [mvT_take hx]
        first
          | (simp only [keepSt, keepE, Al.look, envOf, lend, ren, renL, renR, posOf, List.map_cons, List.map_nil]; done)
          | (simp only [keepSt, keepE, Al.look, envOf, lend, ren, renL, renR, posOf, List.map_cons, List.map_nil]; simp [I, S, B, U8, dI, dS, dB, dU8, dInts, dStrs, dNodes, ren, renL, renR, posOf, Al.look, envOf, mvT, mvN, rNode])
          | (simp [keepSt, keepE, lend, I, S, B, U8, dI, dS, dB, dU8, dInts, dStrs, dNodes, ren, renL, renR, posOf, Al.look, envOf, mvT, mvN, rNode])
        exact List.take_of_length_le (by simp; omega)
      · rw [List.take_add_one, hx]
        intro y hy
        rcases List.mem_append.1 hy with hy | hy
        · exact hok y hy
        · simp at hy; subst hy; omega
    · have hin : i = t.length := by omega
      subst hin
      rw [List.take_length] at *
      have hml : (mvT n t).length = t.length := by simp [mvT]
      have htm : okTree (mvT n t) := ⟨by rw [hml]; exact hl, fun y hy => by
        obtain ⟨x, hx, rfl⟩ := List.mem_map.1 hy
        have ox := ht.node x hx
        have h1 := hok x hx
        have h2 := ox.frm
        have h3 := ox.to
        unfold okI at h2 h3
        exact ⟨ox.kind, ox.name, ox.num, ox.len, ox.kids, ⟨by show _ ≤ x.frm + n; omega, by show x.frm + n ≤ _; omega⟩, ⟨by show _ ≤ x.to + n; omega, by show x.to + n ≤ _; omega⟩⟩⟩
      cases hc : checkS t with
      | false =>
        repeat' first
          | (intro _; conv => whnf)
          | (apply And.intro <;> (conv => whnf))
          | (refine AllRow.of rfl ?_; conv => whnf)
          | (apply AllRow.map; intro _ _; conv => whnf)
          | (refine CallG.eq call10 rfl (Print_bad t ht hc) ?_; conv => whnf)
          | exact ⟨rfl⟩
          | fail
        cases hcm : checkS (mvT n t) with
        | false =>
          refine CallG.eq call10 (fzU t n 0) (Print_bad (mvT n t) htm hcm) ?_
          conv => whnf
          repeat' first
            | (intro _; conv => whnf)
            | (apply And.intro <;> (conv => whnf))
            | (refine AllRow.of rfl ?_; conv => whnf)
            | (apply AllRow.map; intro _ _; conv => whnf)
            | (refine CallG.con call8 rfl (small_ok) ?_; conv => whnf)
            | (refine CallQG.con call8 rfl (small_ok) ?_; conv => whnf)
            | exact ⟨rfl⟩
            | fail
          all_goals first | exact Side.mk rfl | (exfalso; first | contradiction | (rename_i hq; exact hq (by simp [bytesEq, ba])) | (rename_i hq; exact hq rfl))
        | true =>
          refine CallG.eq call10 (fzU t n 0) (Print_good (mvT n t) htm hcm) ?_
          conv => whnf
          repeat' first
            | (intro _; conv => whnf)
            | (apply And.intro <;> (conv => whnf))
            | (refine AllRow.of rfl ?_; conv => whnf)
            | (apply AllRow.map; intro _ _; conv => whnf)
            | (refine CallG.con call8 rfl (small_ok) ?_; conv => whnf)
            | (refine CallQG.con call8 rfl (small_ok) ?_; conv => whnf)
            | exact ⟨rfl⟩
            | fail
          all_goals first | exact Side.mk rfl | (exfalso; first | contradiction | (rename_i hq; exact hq (by simp [bytesEq, ba])) | (rename_i hq; exact hq rfl))
      | true =>
        have hcm := checkS_mv (by_ := n) (by omega) hc
        have hpm := Print_good (mvT n t) htm hcm
        rw [printT_mv] at hpm
        have hsm := same_ok t (mvT n t) (by omega) (fun x hx => by have := (ht.node x hx).len; show x.kids.length ≤ 140737488355328; omega)
        rw [sameT_mv] at hsm
        repeat' first
          | (intro _; conv => whnf)
          | (apply And.intro <;> (conv => whnf))
          | (refine AllRow.of rfl ?_; conv => whnf)
          | (apply AllRow.map; intro _ _; conv => whnf)
          | (refine CallG.eq call10 rfl (Print_good t ht hc) ?_; conv => whnf)
          | exact ⟨rfl⟩
          | fail
        refine CallG.eq call10 (fzU t n 0) hpm ?_
        conv => whnf
        repeat' first
          | (intro _; conv => whnf)
          | (apply And.intro <;> (conv => whnf))
          | (refine AllRow.of rfl ?_; conv => whnf)
          | (apply AllRow.map; intro _ _; conv => whnf)
          | exact ⟨rfl⟩
          | fail
        all_goals try (first | exact Side.mk rfl | (exfalso; first | contradiction | (rename_i hq; exact hq rfl) | (rename_i hq; exact hq (by simp [bytesEq]))))
        refine CallG.eq call6 (fzV t n _) hsm ?_
        conv => whnf
        repeat' first
          | (intro _; conv => whnf)
          | (apply And.intro <;> (conv => whnf))
          | (refine AllRow.of rfl ?_; conv => whnf)
          | (apply AllRow.map; intro _ _; conv => whnf)
          | (refine CallG.con call8 rfl (small_ok) ?_; conv => whnf)
          | (refine CallQG.con call8 rfl (small_ok) ?_; conv => whnf)
          | exact ⟨rfl⟩
          | fail
        all_goals try (first | exact Side.mk rfl | (exfalso; first | contradiction | (rename_i hq; exact hq rfl)))
        all_goals trace_state
end Go.Proofs.Tryd
