/- Contracts of the reference's printers of trees, kind by kind. -/
import Derived.Test.YtobcdpmjaeflmaaGreatDoorRrA
set_option linter.unusedVariables false
set_option linter.unusedSimpArgs false
namespace Go.Proofs.Tryz
open Go Go.Al
set_option maxRecDepth 20000
set_option linter.unusedVariables false
theorem wt_listle {T : Int → List Bytes} {l : List Int} (j : Nat) : wt (listT T (l.take j)) ≤ wt (listT T l) := by
  cases l with
  | nil => simp [listT]
  | cons a l =>
    cases j with
    | zero => simp [listT, wt_nil]
    | succ j =>
      simp only [List.take_succ_cons, listT, wt_append]
      have e : l = l.take j ++ l.drop j := (List.take_append_drop j l).symm
      conv => rhs; rw [e]
      rw [List.map_append, List.flatten_append, wt_append]
      omega
theorem wt_allle {T : Int → List Bytes} {l : List Int} (j : Nat) : wt (allT T (l.take j)) ≤ wt (allT T l) := by
  unfold allT
  have e : l = l.take j ++ l.drop j := (List.take_append_drop j l).symm
  conv => rhs; rw [e]
  rw [List.map_append, List.flatten_append, wt_append]
  omega
theorem row_ok (t : List Al.Node) (T : Int → List Bytes) (l : List Int) (hl : l.length ≤ 140737488355328) (ih : ∀ k, k ∈ l → KidR t T k) : PutsR t 82 [.d (dInts l)] (listT T l) := by
  refine PutsR.of fun s hb => ?_
  try simp only [wt_append, wt_cons, wt_nil, List.length_cons, List.length_nil] at hb
  refine .run ttab_ok func82 rfl (by kernel_rfl) (by simp [f82]) rfl ?_
  conv => whnf
  repeat' first
    | (intro _; conv => whnf)
    | (apply And.intro <;> (conv => whnf))
    | (refine AllRow.of rfl ?_; conv => whnf)
    | (apply AllRow.map; intro _ _; conv => whnf)
    | exact ⟨rfl⟩
    | fail
  refine LoopG.of ttab_ok [0, 6, 7, 8] [0] (fun (j : Nat) => ⟨[(0, .ptr 0 0 0), (6, .d (dInts l)), (7, I l.length), (8, I j)], rrR t (putAll s (listT T (l.take j)))⟩) (fun j => j ≤ l.length) (fun j => l.length - j) 0 (by kernel_rfl) (by simp) posOf_one (by simp) ?hs (by omega) ?_
  case hs =>
    first
      | (simp only [keepSt, keepE, Al.look, envOf, lend, ren, renL, renR, posOf, List.map_cons, List.map_nil]; done)
      | (simp only [keepSt, keepE, Al.look, envOf, lend, ren, renL, renR, posOf, List.map_cons, List.map_nil]; simp [I, S, B, U8, dI, dS, dB, dU8, dInts, dStrs, dNodes, ren, renL, renR, posOf, Al.look, envOf, rrR, listT, putAll_nil])
      | (simp [keepSt, keepE, lend, I, S, B, U8, dI, dS, dB, dU8, dInts, dStrs, dNodes, ren, renL, renR, posOf, Al.look, envOf, rrR, listT, putAll_nil])
  intro j hj
  by_cases hlt : j < l.length
  · obtain ⟨k, hk⟩ : ∃ k, l[j]? = some k := ⟨_, List.getElem?_eq_getElem hlt⟩
    have hmem := List.mem_of_getElem? hk
    have hst := listT_step (T := T) hk
    have hle := wt_listle (T := T) (l := l) (j + 1)
    rw [hst] at hle
    have hrow : lat (List.map rI l) (j : Int).toNat = some (rI k) := by rw [lat_eq, List.getElem?_map, Int.toNat_natCast, hk]; rfl
    by_cases hj0 : j = 0
    · subst hj0
      simp only [if_pos, List.nil_append, wt_append] at hle hst
      conv => whnf
      repeat' first
        | (refine AllRow.of hrow ?_; conv => whnf)
        | (intro h; exfalso; revert h; simp; done)
        | (intro _; conv => whnf)
        | (apply And.intro <;> (conv => whnf))
        | (refine AllRow.of rfl ?_; conv => whnf)
        | (apply AllRow.map; intro _ _; conv => whnf)
        | (refine CallG.lend call26 [0] (by simp) (by simp) (by simp [isArr, pinsOf, rrR]) ((ih k hmem).put _ (by first | omega | (simp only [wt_append, wt_cons, wt_nil, List.length_cons, List.length_nil]; omega) | ((try simp only [putAll_putAll]); refine Nat.le_trans (Nat.add_le_add_right (putAll_len _ _) _) ?_; (try simp only [wt_append, wt_cons, wt_nil, List.length_append, List.length_cons, List.length_nil]); omega))) ?_; rintro _ _ ⟨rfl, rfl⟩; refine ⟨by simp [rrR], ?_⟩; conv => whnf)
        | exact ⟨rfl⟩
        | fail
      all_goals try (refine Side.mk ?_; first | omega | (simp only [List.length_map]; omega))
      all_goals try (exfalso; omega)
      refine RoundG.mk' (0 + 1) (by simp) ?_ (by omega) (by omega)
      rw [hst]
      first
        | (simp only [keepSt, keepE, Al.look, envOf, lend, ren, renL, renR, posOf, List.map_cons, List.map_nil]; done)
        | (simp only [keepSt, keepE, Al.look, envOf, lend, ren, renL, renR, posOf, List.map_cons, List.map_nil]; simp [I, S, B, U8, dI, dS, dB, dU8, dInts, dStrs, dNodes, ren, renL, renR, posOf, Al.look, envOf, rrR, putAll_putAll, List.append_assoc])
        | (simp [keepSt, keepE, lend, I, S, B, U8, dI, dS, dB, dU8, dInts, dStrs, dNodes, ren, renL, renR, posOf, Al.look, envOf, rrR, putAll_putAll, List.append_assoc])
    · rw [if_neg hj0] at hle hst
      simp only [wt_append, wt_cons, wt_nil, List.length_cons, List.length_nil] at hle
      conv => whnf
      repeat' first
        | (refine AllRow.of hrow ?_; conv => whnf)
        | (intro h; exfalso; revert h; simp; done)
        | (intro _; conv => whnf)
        | (apply And.intro <;> (conv => whnf))
        | (refine AllRow.of rfl ?_; conv => whnf)
        | (apply AllRow.map; intro _ _; conv => whnf)
        | (refine CallG.lend call53 [0] (by simp) (by simp) (by simp [isArr, pinsOf, rrR]) (rput_ok t _ _ (by first | omega | (simp only [wt_append, wt_cons, wt_nil, List.length_cons, List.length_nil]; omega) | ((try simp only [putAll_putAll]); refine Nat.le_trans (Nat.add_le_add_right (putAll_len _ _) _) ?_; (try simp only [wt_append, wt_cons, wt_nil, List.length_append, List.length_cons, List.length_nil]); omega))) ?_; rintro _ _ ⟨rfl, rfl⟩; refine ⟨by simp [rrR], ?_⟩; conv => whnf)
        | (refine CallG.lend call26 [0] (by simp) (by simp) (by simp [isArr, pinsOf, rrR]) ((ih k hmem).put _ (by first | omega | (simp only [wt_append, wt_cons, wt_nil, List.length_cons, List.length_nil]; omega) | ((try simp only [putAll_putAll]); refine Nat.le_trans (Nat.add_le_add_right (putAll_len _ _) _) ?_; (try simp only [wt_append, wt_cons, wt_nil, List.length_append, List.length_cons, List.length_nil]); omega))) ?_; rintro _ _ ⟨rfl, rfl⟩; refine ⟨by simp [rrR], ?_⟩; conv => whnf)
        | exact ⟨rfl⟩
        | fail
      all_goals try (refine Side.mk ?_; first | omega | (simp only [List.length_map]; omega))
      all_goals try (exfalso; omega)
      refine RoundG.mk' (j + 1) (by simp) ?_ (by omega) (by omega)
      rw [hst]
      first
        | (simp only [keepSt, keepE, Al.look, envOf, lend, ren, renL, renR, posOf, List.map_cons, List.map_nil]; done)
        | (simp only [keepSt, keepE, Al.look, envOf, lend, ren, renL, renR, posOf, List.map_cons, List.map_nil]; simp [I, S, B, U8, dI, dS, dB, dU8, dInts, dStrs, dNodes, ren, renL, renR, posOf, Al.look, envOf, rrR, putAll_putAll, List.append_assoc])
        | (simp [keepSt, keepE, lend, I, S, B, U8, dI, dS, dB, dU8, dInts, dStrs, dNodes, ren, renL, renR, posOf, Al.look, envOf, rrR, putAll_putAll, List.append_assoc])
  · conv => whnf
    repeat' first
      | (intro _; conv => whnf)
      | (apply And.intro <;> (conv => whnf))
      | (refine AllRow.of rfl ?_; conv => whnf)
      | (apply AllRow.map; intro _ _; conv => whnf)
      | exact ⟨rfl⟩
      | fail
    all_goals try (exfalso; omega)
    rw [List.take_of_length_le (by omega)]
    exact FinRr.mk' rfl
theorem braces_ok (t : List Al.Node) (T : Int → List Bytes) (ks : List Int) (hl : ks.length ≤ 17592186043904) (ih : ∀ k, k ∈ ks → KidR t T k) : PutsR t 83 [.d (dInts ks)] ([123] :: (listT T ks ++ [[125]])) := by
  refine PutsR.of fun s hb => ?_
  try simp only [wt_append, wt_cons, wt_nil, List.length_cons, List.length_nil] at hb
  refine .run ttab_ok func83 rfl (by kernel_rfl) (by simp [f83]) rfl ?_
  conv => whnf
  repeat' first
    | (intro h; exfalso; revert h; simp; done)
    | (intro _; conv => whnf)
    | (apply And.intro <;> (conv => whnf))
    | (refine AllRow.of rfl ?_; conv => whnf)
    | (apply AllRow.map; intro _ _; conv => whnf)
    | (refine CallG.lend call53 [0] (by simp) (by simp) (by simp [isArr, pinsOf, rrR]) (rput_ok t _ _ (by first | omega | (simp only [wt_append, wt_cons, wt_nil, List.length_cons, List.length_nil]; omega) | ((try simp only [putAll_putAll]); refine Nat.le_trans (Nat.add_le_add_right (putAll_len _ _) _) ?_; (try simp only [wt_append, wt_cons, wt_nil, List.length_append, List.length_cons, List.length_nil]); omega))) ?_; rintro _ _ ⟨rfl, rfl⟩; refine ⟨by simp [rrR], ?_⟩; conv => whnf)
    | (refine CallG.lend call82 [0] (by simp) (by simp) (by simp [isArr, pinsOf, rrR]) (row_ok t T ks (by omega) ih _ (by first | omega | (simp only [wt_append, wt_cons, wt_nil, List.length_cons, List.length_nil]; omega) | ((try simp only [putAll_putAll]); refine Nat.le_trans (Nat.add_le_add_right (putAll_len _ _) _) ?_; (try simp only [wt_append, wt_cons, wt_nil, List.length_append, List.length_cons, List.length_nil]); omega))) ?_; rintro _ _ ⟨rfl, rfl⟩; refine ⟨by simp [rrR], ?_⟩; conv => whnf)
    | exact ⟨rfl⟩
    | fail
  all_goals try (refine Side.mk ?_; first | omega | (simp; done) | (intro row hr; obtain ⟨_, _, rfl⟩ := List.mem_map.1 hr; rfl) | (simp only [List.length_map, List.length_cons, List.length_nil]; omega) | (dsimp only; simp only [List.length_map, List.length_cons, List.length_nil]; omega))
  all_goals try (exfalso; omega)
  all_goals try (exfalso; dsimp only at *; omega)
  all_goals exact FinRr.mk' (by simp [putAll_putAll, putAll_nil])
theorem ritem1_ok (t : List Al.Node) (T : Int → List Bytes) (nm : Bytes) (num : Int) (ks : List Int) (fr to : Int) (hl : ks.length ≤ 17592186043904) (ih : ∀ k, k ∈ ks → KidR t T k) : PutsR t 49 [aNode ⟨1, nm, num, ks, fr, to⟩] (allT T ks) := by
  refine PutsR.of fun s hb => ?_
  try simp only [wt_append, wt_cons, wt_nil, List.length_cons, List.length_nil] at hb
  refine .run ttab_ok func49 rfl (by kernel_rfl) (by simp [f49]) rfl ?_
  conv => whnf
  repeat' first
    | (intro h; exfalso; revert h; simp; done)
    | (intro _; conv => whnf)
    | (apply And.intro <;> (conv => whnf))
    | (refine AllRow.of rfl ?_; conv => whnf)
    | (apply AllRow.map; intro _ _; conv => whnf)
    | (refine CallG.lend call53 [0] (by simp) (by simp) (by simp [isArr, pinsOf, rrR]) (rput_ok t _ _ (by first | omega | (simp only [wt_append, wt_cons, wt_nil, List.length_cons, List.length_nil]; omega) | ((try simp only [putAll_putAll]); refine Nat.le_trans (Nat.add_le_add_right (putAll_len _ _) _) ?_; (try simp only [wt_append, wt_cons, wt_nil, List.length_append, List.length_cons, List.length_nil]); omega))) ?_; rintro _ _ ⟨rfl, rfl⟩; refine ⟨by simp [rrR], ?_⟩; conv => whnf)
    | exact ⟨rfl⟩
    | fail
  all_goals try (refine Side.mk ?_; first | omega | (simp; done) | (intro row hr; obtain ⟨_, _, rfl⟩ := List.mem_map.1 hr; rfl) | (simp only [List.length_map, List.length_cons, List.length_nil]; omega) | (dsimp only; simp only [List.length_map, List.length_cons, List.length_nil]; omega))
  refine LoopG.of ttab_ok [0, 34, 35, 36] [0] (fun (j : Nat) => ⟨[(0, .ptr 0 0 0), (34, .d (dInts ks)), (35, I ks.length), (36, I j)], rrR t (putAll s ([] ++ allT T (ks.take j)))⟩) (fun j => j ≤ ks.length) (fun j => ks.length - j) 0 (by kernel_rfl) (by simp) posOf_one (by simp) ?hs (by omega) ?_
  case hs =>
    first
      | (simp only [keepSt, keepE, Al.look, envOf, lend, ren, renL, renR, posOf, List.map_cons, List.map_nil]; done)
      | (simp only [keepSt, keepE, Al.look, envOf, lend, ren, renL, renR, posOf, List.map_cons, List.map_nil]; simp [I, S, B, U8, dI, dS, dB, dU8, dInts, dStrs, dNodes, ren, renL, renR, posOf, Al.look, envOf, rrR, allT, putAll_nil])
      | (simp [keepSt, keepE, lend, I, S, B, U8, dI, dS, dB, dU8, dInts, dStrs, dNodes, ren, renL, renR, posOf, Al.look, envOf, rrR, allT, putAll_nil])
  intro j hj
  have hle := wt_allle (T := T) (l := ks) (j + 1)
  by_cases hlt : j < ks.length
  · obtain ⟨k, hk⟩ : ∃ k, ks[j]? = some k := ⟨_, List.getElem?_eq_getElem hlt⟩
    have hst := allT_step (T := T) hk
    rw [hst, wt_append] at hle
    have hrow2 : lat (List.map rI ks) (j : Int).toNat = some (rI k) := by rw [lat_eq, List.getElem?_map, Int.toNat_natCast, hk]; rfl
    conv => whnf
    repeat' first
      | (refine AllRow.of hrow2 ?_; conv => whnf)
      | (intro h; exfalso; revert h; simp; done)
      | (intro _; conv => whnf)
      | (apply And.intro <;> (conv => whnf))
      | (refine AllRow.of rfl ?_; conv => whnf)
      | (apply AllRow.map; intro _ _; conv => whnf)
      | (refine CallG.lend call26 [0] (by simp) (by simp) (by simp [isArr, pinsOf, rrR]) ((ih k (List.mem_of_getElem? hk)).put _ (by first | omega | (simp only [wt_append, wt_cons, wt_nil, List.length_cons, List.length_nil]; omega) | ((try simp only [putAll_putAll]); refine Nat.le_trans (Nat.add_le_add_right (putAll_len _ _) _) ?_; (try simp only [wt_append, wt_cons, wt_nil, List.length_append, List.length_cons, List.length_nil]); omega))) ?_; rintro _ _ ⟨rfl, rfl⟩; refine ⟨by simp [rrR], ?_⟩; conv => whnf)
      | exact ⟨rfl⟩
      | fail
    all_goals try (refine Side.mk ?_; first | omega | (simp only [List.length_map]; omega))
    all_goals try (exfalso; omega)
    refine RoundG.mk' (j + 1) (by simp) ?_ (by omega) (by omega)
    rw [hst]
    first
      | (simp only [keepSt, keepE, Al.look, envOf, lend, ren, renL, renR, posOf, List.map_cons, List.map_nil]; done)
      | (simp only [keepSt, keepE, Al.look, envOf, lend, ren, renL, renR, posOf, List.map_cons, List.map_nil]; simp [I, S, B, U8, dI, dS, dB, dU8, dInts, dStrs, dNodes, ren, renL, renR, posOf, Al.look, envOf, rrR, putAll_putAll, List.append_assoc])
      | (simp [keepSt, keepE, lend, I, S, B, U8, dI, dS, dB, dU8, dInts, dStrs, dNodes, ren, renL, renR, posOf, Al.look, envOf, rrR, putAll_putAll, List.append_assoc])
  · have hjl : j = ks.length := by omega
    subst hjl
    rw [List.take_length]
    conv => whnf
    repeat' first
      | (intro h; exfalso; revert h; simp; done)
      | (intro _; conv => whnf)
      | (apply And.intro <;> (conv => whnf))
      | (refine AllRow.of rfl ?_; conv => whnf)
      | (apply AllRow.map; intro _ _; conv => whnf)
      | (refine CallG.lend call53 [0] (by simp) (by simp) (by simp [isArr, pinsOf, rrR]) (rput_ok t _ _ (by first | omega | (simp only [wt_append, wt_cons, wt_nil, List.length_cons, List.length_nil]; omega) | ((try simp only [putAll_putAll]); refine Nat.le_trans (Nat.add_le_add_right (putAll_len _ _) _) ?_; (try simp only [wt_append, wt_cons, wt_nil, List.length_append, List.length_cons, List.length_nil]); omega))) ?_; rintro _ _ ⟨rfl, rfl⟩; refine ⟨by simp [rrR], ?_⟩; conv => whnf)
      | exact ⟨rfl⟩
      | fail
    all_goals try (refine Side.mk ?_; first | omega | (simp; done) | (intro row hr; obtain ⟨_, _, rfl⟩ := List.mem_map.1 hr; rfl) | (simp only [List.length_map, List.length_cons, List.length_nil]; omega) | (dsimp only; simp only [List.length_map, List.length_cons, List.length_nil]; omega))
    all_goals try (exfalso; omega)
    all_goals exact FinRr.mk' (by simp [putAll_putAll, putAll_nil])
theorem ritem3_ok (t : List Al.Node) (T : Int → List Bytes) (nm : Bytes) (num : Int) (ks : List Int) (fr to : Int) (hl : ks.length ≤ 17592186043904) (ih : ∀ k, k ∈ ks → KidR t T k) : PutsR t 49 [aNode ⟨3, nm, num, ks, fr, to⟩] ([115, 116, 114, 117, 99, 116] :: nm :: [123] :: (listT T ks ++ [[125]])) := by
  refine PutsR.of fun s hb => ?_
  try simp only [wt_append, wt_cons, wt_nil, List.length_cons, List.length_nil] at hb
  refine .run ttab_ok func49 rfl (by kernel_rfl) (by simp [f49]) rfl ?_
  conv => whnf
  repeat' first
    | (intro h; exfalso; revert h; simp; done)
    | (intro _; conv => whnf)
    | (apply And.intro <;> (conv => whnf))
    | (refine AllRow.of rfl ?_; conv => whnf)
    | (apply AllRow.map; intro _ _; conv => whnf)
    | (refine CallG.lend call53 [0] (by simp) (by simp) (by simp [isArr, pinsOf, rrR]) (rput_ok t _ _ (by first | omega | (simp only [wt_append, wt_cons, wt_nil, List.length_cons, List.length_nil]; omega) | ((try simp only [putAll_putAll]); refine Nat.le_trans (Nat.add_le_add_right (putAll_len _ _) _) ?_; (try simp only [wt_append, wt_cons, wt_nil, List.length_append, List.length_cons, List.length_nil]); omega))) ?_; rintro _ _ ⟨rfl, rfl⟩; refine ⟨by simp [rrR], ?_⟩; conv => whnf)
    | (refine CallG.lend call83 [0] (by simp) (by simp) (by simp [isArr, pinsOf, rrR]) (braces_ok t T ks (by omega) ih _ (by first | omega | (simp only [wt_append, wt_cons, wt_nil, List.length_cons, List.length_nil]; omega) | ((try simp only [putAll_putAll]); refine Nat.le_trans (Nat.add_le_add_right (putAll_len _ _) _) ?_; (try simp only [wt_append, wt_cons, wt_nil, List.length_append, List.length_cons, List.length_nil]); omega))) ?_; rintro _ _ ⟨rfl, rfl⟩; refine ⟨by simp [rrR], ?_⟩; conv => whnf)
    | exact ⟨rfl⟩
    | fail
  all_goals try (refine Side.mk ?_; first | omega | (simp; done) | (intro row hr; obtain ⟨_, _, rfl⟩ := List.mem_map.1 hr; rfl) | (simp only [List.length_map, List.length_cons, List.length_nil]; omega) | (dsimp only; simp only [List.length_map, List.length_cons, List.length_nil]; omega))
  all_goals try (exfalso; omega)
  all_goals try (exfalso; dsimp only at *; omega)
  all_goals exact FinRr.mk' (by simp [putAll_putAll, putAll_nil])
theorem ritem4_ok (t : List Al.Node) (T : Int → List Bytes) (nm : Bytes) (num : Int) (ks : List Int) (fr to : Int) (hl : ks.length ≤ 17592186043904) (ih : ∀ k, k ∈ ks → KidR t T k) : PutsR t 49 [aNode ⟨4, nm, num, ks, fr, to⟩] ([101, 110, 117, 109] :: nm :: [123] :: (listT T ks ++ [[125]])) := by
  refine PutsR.of fun s hb => ?_
  try simp only [wt_append, wt_cons, wt_nil, List.length_cons, List.length_nil] at hb
  refine .run ttab_ok func49 rfl (by kernel_rfl) (by simp [f49]) rfl ?_
  conv => whnf
  repeat' first
    | (intro h; exfalso; revert h; simp; done)
    | (intro _; conv => whnf)
    | (apply And.intro <;> (conv => whnf))
    | (refine AllRow.of rfl ?_; conv => whnf)
    | (apply AllRow.map; intro _ _; conv => whnf)
    | (refine CallG.lend call53 [0] (by simp) (by simp) (by simp [isArr, pinsOf, rrR]) (rput_ok t _ _ (by first | omega | (simp only [wt_append, wt_cons, wt_nil, List.length_cons, List.length_nil]; omega) | ((try simp only [putAll_putAll]); refine Nat.le_trans (Nat.add_le_add_right (putAll_len _ _) _) ?_; (try simp only [wt_append, wt_cons, wt_nil, List.length_append, List.length_cons, List.length_nil]); omega))) ?_; rintro _ _ ⟨rfl, rfl⟩; refine ⟨by simp [rrR], ?_⟩; conv => whnf)
    | (refine CallG.lend call83 [0] (by simp) (by simp) (by simp [isArr, pinsOf, rrR]) (braces_ok t T ks (by omega) ih _ (by first | omega | (simp only [wt_append, wt_cons, wt_nil, List.length_cons, List.length_nil]; omega) | ((try simp only [putAll_putAll]); refine Nat.le_trans (Nat.add_le_add_right (putAll_len _ _) _) ?_; (try simp only [wt_append, wt_cons, wt_nil, List.length_append, List.length_cons, List.length_nil]); omega))) ?_; rintro _ _ ⟨rfl, rfl⟩; refine ⟨by simp [rrR], ?_⟩; conv => whnf)
    | exact ⟨rfl⟩
    | fail
  all_goals try (refine Side.mk ?_; first | omega | (simp; done) | (intro row hr; obtain ⟨_, _, rfl⟩ := List.mem_map.1 hr; rfl) | (simp only [List.length_map, List.length_cons, List.length_nil]; omega) | (dsimp only; simp only [List.length_map, List.length_cons, List.length_nil]; omega))
  all_goals try (exfalso; omega)
  all_goals try (exfalso; dsimp only at *; omega)
  all_goals exact FinRr.mk' (by simp [putAll_putAll, putAll_nil])
theorem ritem6a_ok (t : List Al.Node) (T : Int → List Bytes) (nm : Bytes) (num : Int) (fr to : Int)  : PutsR t 49 [aNode ⟨6, nm, num, [], fr, to⟩] ([nm]) := by
  refine PutsR.of fun s hb => ?_
  try simp only [wt_append, wt_cons, wt_nil, List.length_cons, List.length_nil] at hb
  refine .run ttab_ok func49 rfl (by kernel_rfl) (by simp [f49]) rfl ?_
  conv => whnf
  repeat' first
    | (intro h; exfalso; revert h; simp; done)
    | (intro _; conv => whnf)
    | (apply And.intro <;> (conv => whnf))
    | (refine AllRow.of rfl ?_; conv => whnf)
    | (apply AllRow.map; intro _ _; conv => whnf)
    | (refine CallG.lend call53 [0] (by simp) (by simp) (by simp [isArr, pinsOf, rrR]) (rput_ok t _ _ (by first | omega | (simp only [wt_append, wt_cons, wt_nil, List.length_cons, List.length_nil]; omega) | ((try simp only [putAll_putAll]); refine Nat.le_trans (Nat.add_le_add_right (putAll_len _ _) _) ?_; (try simp only [wt_append, wt_cons, wt_nil, List.length_append, List.length_cons, List.length_nil]); omega))) ?_; rintro _ _ ⟨rfl, rfl⟩; refine ⟨by simp [rrR], ?_⟩; conv => whnf)
    | exact ⟨rfl⟩
    | fail
  all_goals try (refine Side.mk ?_; first | omega | (simp; done) | (intro row hr; obtain ⟨_, _, rfl⟩ := List.mem_map.1 hr; rfl) | (simp only [List.length_map, List.length_cons, List.length_nil]; omega) | (dsimp only; simp only [List.length_map, List.length_cons, List.length_nil]; omega))
  all_goals try (exfalso; omega)
  all_goals try (exfalso; dsimp only at *; omega)
  all_goals exact FinRr.mk' (by simp [putAll_putAll, putAll_nil])
theorem ritem6b_ok (t : List Al.Node) (T : Int → List Bytes) (nm : Bytes) (num : Int) (fr to : Int) (ks : List Int) (k : Int) (hk : KidR t T k) : PutsR t 49 [aNode ⟨6, nm, num, k :: ks, fr, to⟩] (nm :: [40] :: (T k ++ [[41]])) := by
  refine PutsR.of fun s hb => ?_
  try simp only [wt_append, wt_cons, wt_nil, List.length_cons, List.length_nil] at hb
  refine .run ttab_ok func49 rfl (by kernel_rfl) (by simp [f49]) rfl ?_
  conv => whnf
  repeat' first
    | (intro h; exfalso; revert h; simp; done)
    | (intro _; conv => whnf)
    | (apply And.intro <;> (conv => whnf))
    | (refine AllRow.of rfl ?_; conv => whnf)
    | (apply AllRow.map; intro _ _; conv => whnf)
    | (refine CallG.lend call53 [0] (by simp) (by simp) (by simp [isArr, pinsOf, rrR]) (rput_ok t _ _ (by first | omega | (simp only [wt_append, wt_cons, wt_nil, List.length_cons, List.length_nil]; omega) | ((try simp only [putAll_putAll]); refine Nat.le_trans (Nat.add_le_add_right (putAll_len _ _) _) ?_; (try simp only [wt_append, wt_cons, wt_nil, List.length_append, List.length_cons, List.length_nil]); omega))) ?_; rintro _ _ ⟨rfl, rfl⟩; refine ⟨by simp [rrR], ?_⟩; conv => whnf)
    | (refine CallG.lend call26 [0] (by simp) (by simp) (by simp [isArr, pinsOf, rrR]) (hk.put _ (by first | omega | (simp only [wt_append, wt_cons, wt_nil, List.length_cons, List.length_nil]; omega) | ((try simp only [putAll_putAll]); refine Nat.le_trans (Nat.add_le_add_right (putAll_len _ _) _) ?_; (try simp only [wt_append, wt_cons, wt_nil, List.length_append, List.length_cons, List.length_nil]); omega))) ?_; rintro _ _ ⟨rfl, rfl⟩; refine ⟨by simp [rrR], ?_⟩; conv => whnf)
    | exact ⟨rfl⟩
    | fail
  all_goals try (refine Side.mk ?_; first | omega | (simp; done) | (intro row hr; obtain ⟨_, _, rfl⟩ := List.mem_map.1 hr; rfl) | (simp only [List.length_map, List.length_cons, List.length_nil]; omega) | (dsimp only; simp only [List.length_map, List.length_cons, List.length_nil]; omega))
  all_goals try (exfalso; omega)
  all_goals try (exfalso; dsimp only at *; omega)
  all_goals exact FinRr.mk' (by simp [putAll_putAll, putAll_nil])
theorem ritem5_ok (t : List Al.Node) (T : Int → List Bytes) (nm : Bytes) (num : Int) (fr to : Int) (k : Int) (hk : KidR t T k) : PutsR t 49 [aNode ⟨5, nm, num, [k], fr, to⟩] (nm :: [58] :: T k) := by
  refine PutsR.of fun s hb => ?_
  try simp only [wt_append, wt_cons, wt_nil, List.length_cons, List.length_nil] at hb
  refine .run ttab_ok func49 rfl (by kernel_rfl) (by simp [f49]) rfl ?_
  conv => whnf
  repeat' first
    | (intro h; exfalso; revert h; simp; done)
    | (intro _; conv => whnf)
    | (apply And.intro <;> (conv => whnf))
    | (refine AllRow.of rfl ?_; conv => whnf)
    | (apply AllRow.map; intro _ _; conv => whnf)
    | (refine CallG.lend call53 [0] (by simp) (by simp) (by simp [isArr, pinsOf, rrR]) (rput_ok t _ _ (by first | omega | (simp only [wt_append, wt_cons, wt_nil, List.length_cons, List.length_nil]; omega) | ((try simp only [putAll_putAll]); refine Nat.le_trans (Nat.add_le_add_right (putAll_len _ _) _) ?_; (try simp only [wt_append, wt_cons, wt_nil, List.length_append, List.length_cons, List.length_nil]); omega))) ?_; rintro _ _ ⟨rfl, rfl⟩; refine ⟨by simp [rrR], ?_⟩; conv => whnf)
    | (refine CallG.lend call26 [0] (by simp) (by simp) (by simp [isArr, pinsOf, rrR]) (hk.put _ (by first | omega | (simp only [wt_append, wt_cons, wt_nil, List.length_cons, List.length_nil]; omega) | ((try simp only [putAll_putAll]); refine Nat.le_trans (Nat.add_le_add_right (putAll_len _ _) _) ?_; (try simp only [wt_append, wt_cons, wt_nil, List.length_append, List.length_cons, List.length_nil]); omega))) ?_; rintro _ _ ⟨rfl, rfl⟩; refine ⟨by simp [rrR], ?_⟩; conv => whnf)
    | exact ⟨rfl⟩
    | fail
  all_goals try (refine Side.mk ?_; first | omega | (simp; done) | (intro row hr; obtain ⟨_, _, rfl⟩ := List.mem_map.1 hr; rfl) | (simp only [List.length_map, List.length_cons, List.length_nil]; omega) | (dsimp only; simp only [List.length_map, List.length_cons, List.length_nil]; omega))
  all_goals try (exfalso; omega)
  all_goals try (exfalso; dsimp only at *; omega)
  all_goals exact FinRr.mk' (by simp [putAll_putAll, putAll_nil])
theorem ritem7a_ok (t : List Al.Node) (T : Int → List Bytes) (nm : Bytes) (fr to : Int) (k : Int) (hk : KidR t T k) : PutsR t 49 [aNode ⟨7, nm, 1, [k], fr, to⟩] ([109, 117, 116] :: nm :: [58] :: T k) := by
  refine PutsR.of fun s hb => ?_
  try simp only [wt_append, wt_cons, wt_nil, List.length_cons, List.length_nil] at hb
  refine .run ttab_ok func49 rfl (by kernel_rfl) (by simp [f49]) rfl ?_
  conv => whnf
  repeat' first
    | (intro h; exfalso; revert h; simp; done)
    | (intro _; conv => whnf)
    | (apply And.intro <;> (conv => whnf))
    | (refine AllRow.of rfl ?_; conv => whnf)
    | (apply AllRow.map; intro _ _; conv => whnf)
    | (refine CallG.lend call53 [0] (by simp) (by simp) (by simp [isArr, pinsOf, rrR]) (rput_ok t _ _ (by first | omega | (simp only [wt_append, wt_cons, wt_nil, List.length_cons, List.length_nil]; omega) | ((try simp only [putAll_putAll]); refine Nat.le_trans (Nat.add_le_add_right (putAll_len _ _) _) ?_; (try simp only [wt_append, wt_cons, wt_nil, List.length_append, List.length_cons, List.length_nil]); omega))) ?_; rintro _ _ ⟨rfl, rfl⟩; refine ⟨by simp [rrR], ?_⟩; conv => whnf)
    | (refine CallG.lend call26 [0] (by simp) (by simp) (by simp [isArr, pinsOf, rrR]) (hk.put _ (by first | omega | (simp only [wt_append, wt_cons, wt_nil, List.length_cons, List.length_nil]; omega) | ((try simp only [putAll_putAll]); refine Nat.le_trans (Nat.add_le_add_right (putAll_len _ _) _) ?_; (try simp only [wt_append, wt_cons, wt_nil, List.length_append, List.length_cons, List.length_nil]); omega))) ?_; rintro _ _ ⟨rfl, rfl⟩; refine ⟨by simp [rrR], ?_⟩; conv => whnf)
    | exact ⟨rfl⟩
    | fail
  all_goals try (refine Side.mk ?_; first | omega | (simp; done) | (intro row hr; obtain ⟨_, _, rfl⟩ := List.mem_map.1 hr; rfl) | (simp only [List.length_map, List.length_cons, List.length_nil]; omega) | (dsimp only; simp only [List.length_map, List.length_cons, List.length_nil]; omega))
  all_goals try (exfalso; omega)
  all_goals try (exfalso; dsimp only at *; omega)
  all_goals exact FinRr.mk' (by simp [putAll_putAll, putAll_nil])
theorem ritem7b_ok (t : List Al.Node) (T : Int → List Bytes) (nm : Bytes) (num : Int) (fr to : Int) (hnum : num ≠ 1) (k : Int) (hk : KidR t T k) : PutsR t 49 [aNode ⟨7, nm, num, [k], fr, to⟩] (nm :: [58] :: T k) := by
  refine PutsR.of fun s hb => ?_
  try simp only [wt_append, wt_cons, wt_nil, List.length_cons, List.length_nil] at hb
  refine .run ttab_ok func49 rfl (by kernel_rfl) (by simp [f49]) rfl ?_
  conv => whnf
  repeat' first
    | (intro h; exfalso; revert h; simp; done)
    | (intro _; conv => whnf)
    | (apply And.intro <;> (conv => whnf))
    | (refine AllRow.of rfl ?_; conv => whnf)
    | (apply AllRow.map; intro _ _; conv => whnf)
    | (refine CallG.lend call53 [0] (by simp) (by simp) (by simp [isArr, pinsOf, rrR]) (rput_ok t _ _ (by first | omega | (simp only [wt_append, wt_cons, wt_nil, List.length_cons, List.length_nil]; omega) | ((try simp only [putAll_putAll]); refine Nat.le_trans (Nat.add_le_add_right (putAll_len _ _) _) ?_; (try simp only [wt_append, wt_cons, wt_nil, List.length_append, List.length_cons, List.length_nil]); omega))) ?_; rintro _ _ ⟨rfl, rfl⟩; refine ⟨by simp [rrR], ?_⟩; conv => whnf)
    | (refine CallG.lend call26 [0] (by simp) (by simp) (by simp [isArr, pinsOf, rrR]) (hk.put _ (by first | omega | (simp only [wt_append, wt_cons, wt_nil, List.length_cons, List.length_nil]; omega) | ((try simp only [putAll_putAll]); refine Nat.le_trans (Nat.add_le_add_right (putAll_len _ _) _) ?_; (try simp only [wt_append, wt_cons, wt_nil, List.length_append, List.length_cons, List.length_nil]); omega))) ?_; rintro _ _ ⟨rfl, rfl⟩; refine ⟨by simp [rrR], ?_⟩; conv => whnf)
    | exact ⟨rfl⟩
    | fail
  all_goals try (refine Side.mk ?_; first | omega | (simp; done) | (intro row hr; obtain ⟨_, _, rfl⟩ := List.mem_map.1 hr; rfl) | (simp only [List.length_map, List.length_cons, List.length_nil]; omega) | (dsimp only; simp only [List.length_map, List.length_cons, List.length_nil]; omega))
  all_goals try (exfalso; first | (rename_i hq; exact hnum hq) | (rename_i hq _; exact hnum hq) | (rename_i hq _ _; exact hnum hq))
  all_goals try (exfalso; omega)
  all_goals try (exfalso; dsimp only at *; omega)
  all_goals exact FinRr.mk' (by simp [putAll_putAll, putAll_nil])
theorem ritem2_ok (t : List Al.Node) (T : Int → List Bytes) (nm : Bytes) (n : Nat) (ks : List Int) (fr to : Int) (hl : ks.length ≤ 17592186043904) (ih : ∀ k, k ∈ ks → KidR t T k) (hn : ks.length = n + 2) (a : Int) (ha : ks[n]? = some a) (b : Int) (hb2 : ks[n + 1]? = some b) :
    PutsR t 49 [aNode ⟨2, nm, n, ks, fr, to⟩] ([102, 110] :: nm :: [40] :: (listT T (ks.take n) ++ ([41] :: ((if kindAt t a = 12 then [] else [45, 62] :: T a) ++ T b)))) := by
  have hka := ih a (List.mem_of_getElem? ha)
  have hkb := ih b (List.mem_of_getElem? hb2)
  have ihn : ∀ k, k ∈ ks.take n → KidR t T k := fun k hk => ih k (List.mem_of_mem_take hk)
  have hln : (ks.take n).length ≤ 140737488355328 := by simp; omega
  obtain ⟨y, hy⟩ := hka.node
  have h0 := hka.lo
  have h1 := hka.hi
  rw [kindAt_eq hy]
  have hrow1 : lat (List.map rI ks) (((List.map rI ks).length : Int) - 2).toNat = some (rI a) := by rw [lat_eq, List.getElem?_map, List.length_map, show ((ks.length : Int) - 2).toNat = n by omega, ha]; rfl
  have hrow2 : lat (List.map rI ks) (((List.map rI ks).length : Int) - 1).toNat = some (rI b) := by rw [lat_eq, List.getElem?_map, List.length_map, show ((ks.length : Int) - 1).toNat = n + 1 by omega, hb2]; rfl
  have hrow3 : lat (List.map rNode t) a.toNat = some (rNode y) := by rw [lat_eq, List.getElem?_map, hy]; rfl
  by_cases h12 : y.kind = 12
  · rw [if_pos h12]
    refine PutsR.of fun s hb => ?_
    try simp only [wt_append, wt_cons, wt_nil, List.length_cons, List.length_nil] at hb
    refine .run ttab_ok func49 rfl (by kernel_rfl) (by simp [f49]) rfl ?_
    conv => whnf
    repeat' first
      | (refine CallG.at [.ptr 0 0 0, .d (dInts (ks.take n))] ?ha ?_; (case ha => (simp only [List.length_map, hn]; rw [show (((n + 2 : Nat) : Int) - 2) = (n : Int) by omega]; simp [dInts, List.map_take]; done)); refine CallG.lend call82 [0] (by simp) (by simp) (by simp [isArr, pinsOf, rrR]) (row_ok t T (ks.take n) hln ihn _ (by first | omega | (simp only [wt_append, wt_cons, wt_nil, List.length_cons, List.length_nil]; omega) | ((try simp only [putAll_putAll]); refine Nat.le_trans (Nat.add_le_add_right (putAll_len _ _) _) ?_; (try simp only [wt_append, wt_cons, wt_nil, List.length_append, List.length_cons, List.length_nil]); omega))) ?_; rintro _ _ ⟨rfl, rfl⟩; refine ⟨by simp [rrR], ?_⟩; conv => whnf)
      | (first | (refine AllRow.of hrow1 ?_; conv => whnf) | (refine AllRow.of hrow2 ?_; conv => whnf) | (refine AllRow.of hrow3 ?_; conv => whnf))
      | (intro h; exfalso; revert h; simp; done)
      | (intro _; conv => whnf)
      | (apply And.intro <;> (conv => whnf))
      | (refine AllRow.of rfl ?_; conv => whnf)
      | (apply AllRow.map; intro _ _; conv => whnf)
      | (refine CallG.lend call53 [0] (by simp) (by simp) (by simp [isArr, pinsOf, rrR]) (rput_ok t _ _ (by first | omega | (simp only [wt_append, wt_cons, wt_nil, List.length_cons, List.length_nil]; omega) | ((try simp only [putAll_putAll]); refine Nat.le_trans (Nat.add_le_add_right (putAll_len _ _) _) ?_; (try simp only [wt_append, wt_cons, wt_nil, List.length_append, List.length_cons, List.length_nil]); omega))) ?_; rintro _ _ ⟨rfl, rfl⟩; refine ⟨by simp [rrR], ?_⟩; conv => whnf)
      | (refine CallG.lend call26 [0] (by simp) (by simp) (by simp [isArr, pinsOf, rrR]) (hka.put _ (by first | omega | (simp only [wt_append, wt_cons, wt_nil, List.length_cons, List.length_nil]; omega) | ((try simp only [putAll_putAll]); refine Nat.le_trans (Nat.add_le_add_right (putAll_len _ _) _) ?_; (try simp only [wt_append, wt_cons, wt_nil, List.length_append, List.length_cons, List.length_nil]); omega))) ?_; rintro _ _ ⟨rfl, rfl⟩; refine ⟨by simp [rrR], ?_⟩; conv => whnf)
      | (refine CallG.lend call26 [0] (by simp) (by simp) (by simp [isArr, pinsOf, rrR]) (hkb.put _ (by first | omega | (simp only [wt_append, wt_cons, wt_nil, List.length_cons, List.length_nil]; omega) | ((try simp only [putAll_putAll]); refine Nat.le_trans (Nat.add_le_add_right (putAll_len _ _) _) ?_; (try simp only [wt_append, wt_cons, wt_nil, List.length_append, List.length_cons, List.length_nil]); omega))) ?_; rintro _ _ ⟨rfl, rfl⟩; refine ⟨by simp [rrR], ?_⟩; conv => whnf)
      | exact ⟨rfl⟩
      | fail
    all_goals try (refine Side.mk ?_; first | omega | (simp; done) | (intro row hr; obtain ⟨_, _, rfl⟩ := List.mem_map.1 hr; rfl) | (simp only [List.length_map, List.length_cons, List.length_nil]; omega) | (dsimp only; simp only [List.length_map, List.length_cons, List.length_nil]; omega))
    all_goals try (exfalso; first | contradiction | (rename_i hq; exact hq h12) | (rename_i hq; exact h12 hq))
    all_goals try (exfalso; omega)
    all_goals try (exfalso; dsimp only at *; omega)
    all_goals exact FinRr.mk' (by simp [putAll_putAll, putAll_nil])
  · rw [if_neg h12]
    refine PutsR.of fun s hb => ?_
    try simp only [wt_append, wt_cons, wt_nil, List.length_cons, List.length_nil] at hb
    refine .run ttab_ok func49 rfl (by kernel_rfl) (by simp [f49]) rfl ?_
    conv => whnf
    repeat' first
      | (refine CallG.at [.ptr 0 0 0, .d (dInts (ks.take n))] ?ha ?_; (case ha => (simp only [List.length_map, hn]; rw [show (((n + 2 : Nat) : Int) - 2) = (n : Int) by omega]; simp [dInts, List.map_take]; done)); refine CallG.lend call82 [0] (by simp) (by simp) (by simp [isArr, pinsOf, rrR]) (row_ok t T (ks.take n) hln ihn _ (by first | omega | (simp only [wt_append, wt_cons, wt_nil, List.length_cons, List.length_nil]; omega) | ((try simp only [putAll_putAll]); refine Nat.le_trans (Nat.add_le_add_right (putAll_len _ _) _) ?_; (try simp only [wt_append, wt_cons, wt_nil, List.length_append, List.length_cons, List.length_nil]); omega))) ?_; rintro _ _ ⟨rfl, rfl⟩; refine ⟨by simp [rrR], ?_⟩; conv => whnf)
      | (first | (refine AllRow.of hrow1 ?_; conv => whnf) | (refine AllRow.of hrow2 ?_; conv => whnf) | (refine AllRow.of hrow3 ?_; conv => whnf))
      | (intro h; exfalso; revert h; simp; done)
      | (intro _; conv => whnf)
      | (apply And.intro <;> (conv => whnf))
      | (refine AllRow.of rfl ?_; conv => whnf)
      | (apply AllRow.map; intro _ _; conv => whnf)
      | (refine CallG.lend call53 [0] (by simp) (by simp) (by simp [isArr, pinsOf, rrR]) (rput_ok t _ _ (by first | omega | (simp only [wt_append, wt_cons, wt_nil, List.length_cons, List.length_nil]; omega) | ((try simp only [putAll_putAll]); refine Nat.le_trans (Nat.add_le_add_right (putAll_len _ _) _) ?_; (try simp only [wt_append, wt_cons, wt_nil, List.length_append, List.length_cons, List.length_nil]); omega))) ?_; rintro _ _ ⟨rfl, rfl⟩; refine ⟨by simp [rrR], ?_⟩; conv => whnf)
      | (refine CallG.lend call26 [0] (by simp) (by simp) (by simp [isArr, pinsOf, rrR]) (hka.put _ (by first | omega | (simp only [wt_append, wt_cons, wt_nil, List.length_cons, List.length_nil]; omega) | ((try simp only [putAll_putAll]); refine Nat.le_trans (Nat.add_le_add_right (putAll_len _ _) _) ?_; (try simp only [wt_append, wt_cons, wt_nil, List.length_append, List.length_cons, List.length_nil]); omega))) ?_; rintro _ _ ⟨rfl, rfl⟩; refine ⟨by simp [rrR], ?_⟩; conv => whnf)
      | (refine CallG.lend call26 [0] (by simp) (by simp) (by simp [isArr, pinsOf, rrR]) (hkb.put _ (by first | omega | (simp only [wt_append, wt_cons, wt_nil, List.length_cons, List.length_nil]; omega) | ((try simp only [putAll_putAll]); refine Nat.le_trans (Nat.add_le_add_right (putAll_len _ _) _) ?_; (try simp only [wt_append, wt_cons, wt_nil, List.length_append, List.length_cons, List.length_nil]); omega))) ?_; rintro _ _ ⟨rfl, rfl⟩; refine ⟨by simp [rrR], ?_⟩; conv => whnf)
      | exact ⟨rfl⟩
      | fail
    all_goals try (refine Side.mk ?_; first | omega | (simp; done) | (intro row hr; obtain ⟨_, _, rfl⟩ := List.mem_map.1 hr; rfl) | (simp only [List.length_map, List.length_cons, List.length_nil]; omega) | (dsimp only; simp only [List.length_map, List.length_cons, List.length_nil]; omega))
    all_goals try (exfalso; first | contradiction | (rename_i hq; exact hq h12) | (rename_i hq; exact h12 hq))
    all_goals try (exfalso; omega)
    all_goals try (exfalso; dsimp only at *; omega)
    all_goals exact FinRr.mk' (by simp [putAll_putAll, putAll_nil])
theorem rtyp10_ok (t : List Al.Node) (T : Int → List Bytes) (nm : Bytes) (num : Int) (ks : List Int) (fr to : Int) : PutsR t 50 [aNode ⟨10, nm, num, ks, fr, to⟩] ([[105, 54, 52]]) := by
  refine PutsR.of fun s hb => ?_
  try simp only [wt_append, wt_cons, wt_nil, List.length_cons, List.length_nil] at hb
  refine .run ttab_ok func50 rfl (by kernel_rfl) (by simp [f50]) rfl ?_
  conv => whnf
  repeat' first
    | (intro h; exfalso; revert h; simp; done)
    | (intro _; conv => whnf)
    | (apply And.intro <;> (conv => whnf))
    | (refine AllRow.of rfl ?_; conv => whnf)
    | (apply AllRow.map; intro _ _; conv => whnf)
    | (refine CallG.lend call53 [0] (by simp) (by simp) (by simp [isArr, pinsOf, rrR]) (rput_ok t _ _ (by first | omega | (simp only [wt_append, wt_cons, wt_nil, List.length_cons, List.length_nil]; omega) | ((try simp only [putAll_putAll]); refine Nat.le_trans (Nat.add_le_add_right (putAll_len _ _) _) ?_; (try simp only [wt_append, wt_cons, wt_nil, List.length_append, List.length_cons, List.length_nil]); omega))) ?_; rintro _ _ ⟨rfl, rfl⟩; refine ⟨by simp [rrR], ?_⟩; conv => whnf)
    | exact ⟨rfl⟩
    | fail
  all_goals try (refine Side.mk ?_; first | omega | (simp; done) | (intro row hr; obtain ⟨_, _, rfl⟩ := List.mem_map.1 hr; rfl) | (simp only [List.length_map, List.length_cons, List.length_nil]; omega) | (dsimp only; simp only [List.length_map, List.length_cons, List.length_nil]; omega))
  all_goals try (exfalso; omega)
  all_goals try (exfalso; dsimp only at *; omega)
  all_goals exact FinRr.mk' (by simp [putAll_putAll, putAll_nil])
theorem rtyp11_ok (t : List Al.Node) (T : Int → List Bytes) (nm : Bytes) (num : Int) (ks : List Int) (fr to : Int) : PutsR t 50 [aNode ⟨11, nm, num, ks, fr, to⟩] ([[98, 111, 111, 108]]) := by
  refine PutsR.of fun s hb => ?_
  try simp only [wt_append, wt_cons, wt_nil, List.length_cons, List.length_nil] at hb
  refine .run ttab_ok func50 rfl (by kernel_rfl) (by simp [f50]) rfl ?_
  conv => whnf
  repeat' first
    | (intro h; exfalso; revert h; simp; done)
    | (intro _; conv => whnf)
    | (apply And.intro <;> (conv => whnf))
    | (refine AllRow.of rfl ?_; conv => whnf)
    | (apply AllRow.map; intro _ _; conv => whnf)
    | (refine CallG.lend call53 [0] (by simp) (by simp) (by simp [isArr, pinsOf, rrR]) (rput_ok t _ _ (by first | omega | (simp only [wt_append, wt_cons, wt_nil, List.length_cons, List.length_nil]; omega) | ((try simp only [putAll_putAll]); refine Nat.le_trans (Nat.add_le_add_right (putAll_len _ _) _) ?_; (try simp only [wt_append, wt_cons, wt_nil, List.length_append, List.length_cons, List.length_nil]); omega))) ?_; rintro _ _ ⟨rfl, rfl⟩; refine ⟨by simp [rrR], ?_⟩; conv => whnf)
    | exact ⟨rfl⟩
    | fail
  all_goals try (refine Side.mk ?_; first | omega | (simp; done) | (intro row hr; obtain ⟨_, _, rfl⟩ := List.mem_map.1 hr; rfl) | (simp only [List.length_map, List.length_cons, List.length_nil]; omega) | (dsimp only; simp only [List.length_map, List.length_cons, List.length_nil]; omega))
  all_goals try (exfalso; omega)
  all_goals try (exfalso; dsimp only at *; omega)
  all_goals exact FinRr.mk' (by simp [putAll_putAll, putAll_nil])
theorem rtyp12_ok (t : List Al.Node) (T : Int → List Bytes) (nm : Bytes) (num : Int) (ks : List Int) (fr to : Int) : PutsR t 50 [aNode ⟨12, nm, num, ks, fr, to⟩] ([[40], [41]]) := by
  refine PutsR.of fun s hb => ?_
  try simp only [wt_append, wt_cons, wt_nil, List.length_cons, List.length_nil] at hb
  refine .run ttab_ok func50 rfl (by kernel_rfl) (by simp [f50]) rfl ?_
  conv => whnf
  repeat' first
    | (intro h; exfalso; revert h; simp; done)
    | (intro _; conv => whnf)
    | (apply And.intro <;> (conv => whnf))
    | (refine AllRow.of rfl ?_; conv => whnf)
    | (apply AllRow.map; intro _ _; conv => whnf)
    | (refine CallG.lend call53 [0] (by simp) (by simp) (by simp [isArr, pinsOf, rrR]) (rput_ok t _ _ (by first | omega | (simp only [wt_append, wt_cons, wt_nil, List.length_cons, List.length_nil]; omega) | ((try simp only [putAll_putAll]); refine Nat.le_trans (Nat.add_le_add_right (putAll_len _ _) _) ?_; (try simp only [wt_append, wt_cons, wt_nil, List.length_append, List.length_cons, List.length_nil]); omega))) ?_; rintro _ _ ⟨rfl, rfl⟩; refine ⟨by simp [rrR], ?_⟩; conv => whnf)
    | exact ⟨rfl⟩
    | fail
  all_goals try (refine Side.mk ?_; first | omega | (simp; done) | (intro row hr; obtain ⟨_, _, rfl⟩ := List.mem_map.1 hr; rfl) | (simp only [List.length_map, List.length_cons, List.length_nil]; omega) | (dsimp only; simp only [List.length_map, List.length_cons, List.length_nil]; omega))
  all_goals try (exfalso; omega)
  all_goals try (exfalso; dsimp only at *; omega)
  all_goals exact FinRr.mk' (by simp [putAll_putAll, putAll_nil])
theorem rtyp13_ok (t : List Al.Node) (T : Int → List Bytes) (nm : Bytes) (num : Int) (ks : List Int) (fr to : Int) : PutsR t 50 [aNode ⟨13, nm, num, ks, fr, to⟩] ([nm]) := by
  refine PutsR.of fun s hb => ?_
  try simp only [wt_append, wt_cons, wt_nil, List.length_cons, List.length_nil] at hb
  refine .run ttab_ok func50 rfl (by kernel_rfl) (by simp [f50]) rfl ?_
  conv => whnf
  repeat' first
    | (intro h; exfalso; revert h; simp; done)
    | (intro _; conv => whnf)
    | (apply And.intro <;> (conv => whnf))
    | (refine AllRow.of rfl ?_; conv => whnf)
    | (apply AllRow.map; intro _ _; conv => whnf)
    | (refine CallG.lend call53 [0] (by simp) (by simp) (by simp [isArr, pinsOf, rrR]) (rput_ok t _ _ (by first | omega | (simp only [wt_append, wt_cons, wt_nil, List.length_cons, List.length_nil]; omega) | ((try simp only [putAll_putAll]); refine Nat.le_trans (Nat.add_le_add_right (putAll_len _ _) _) ?_; (try simp only [wt_append, wt_cons, wt_nil, List.length_append, List.length_cons, List.length_nil]); omega))) ?_; rintro _ _ ⟨rfl, rfl⟩; refine ⟨by simp [rrR], ?_⟩; conv => whnf)
    | exact ⟨rfl⟩
    | fail
  all_goals try (refine Side.mk ?_; first | omega | (simp; done) | (intro row hr; obtain ⟨_, _, rfl⟩ := List.mem_map.1 hr; rfl) | (simp only [List.length_map, List.length_cons, List.length_nil]; omega) | (dsimp only; simp only [List.length_map, List.length_cons, List.length_nil]; omega))
  all_goals try (exfalso; omega)
  all_goals try (exfalso; dsimp only at *; omega)
  all_goals exact FinRr.mk' (by simp [putAll_putAll, putAll_nil])
theorem rtyp14_ok (t : List Al.Node) (T : Int → List Bytes) (nm : Bytes) (num : Int) (fr to : Int) (k : Int) (hk : KidR t T k) : PutsR t 50 [aNode ⟨14, nm, num, [k], fr, to⟩] ([38] :: T k) := by
  refine PutsR.of fun s hb => ?_
  try simp only [wt_append, wt_cons, wt_nil, List.length_cons, List.length_nil] at hb
  refine .run ttab_ok func50 rfl (by kernel_rfl) (by simp [f50]) rfl ?_
  conv => whnf
  repeat' first
    | (intro h; exfalso; revert h; simp; done)
    | (intro _; conv => whnf)
    | (apply And.intro <;> (conv => whnf))
    | (refine AllRow.of rfl ?_; conv => whnf)
    | (apply AllRow.map; intro _ _; conv => whnf)
    | (refine CallG.lend call53 [0] (by simp) (by simp) (by simp [isArr, pinsOf, rrR]) (rput_ok t _ _ (by first | omega | (simp only [wt_append, wt_cons, wt_nil, List.length_cons, List.length_nil]; omega) | ((try simp only [putAll_putAll]); refine Nat.le_trans (Nat.add_le_add_right (putAll_len _ _) _) ?_; (try simp only [wt_append, wt_cons, wt_nil, List.length_append, List.length_cons, List.length_nil]); omega))) ?_; rintro _ _ ⟨rfl, rfl⟩; refine ⟨by simp [rrR], ?_⟩; conv => whnf)
    | (refine CallG.lend call26 [0] (by simp) (by simp) (by simp [isArr, pinsOf, rrR]) (hk.put _ (by first | omega | (simp only [wt_append, wt_cons, wt_nil, List.length_cons, List.length_nil]; omega) | ((try simp only [putAll_putAll]); refine Nat.le_trans (Nat.add_le_add_right (putAll_len _ _) _) ?_; (try simp only [wt_append, wt_cons, wt_nil, List.length_append, List.length_cons, List.length_nil]); omega))) ?_; rintro _ _ ⟨rfl, rfl⟩; refine ⟨by simp [rrR], ?_⟩; conv => whnf)
    | exact ⟨rfl⟩
    | fail
  all_goals try (refine Side.mk ?_; first | omega | (simp; done) | (intro row hr; obtain ⟨_, _, rfl⟩ := List.mem_map.1 hr; rfl) | (simp only [List.length_map, List.length_cons, List.length_nil]; omega) | (dsimp only; simp only [List.length_map, List.length_cons, List.length_nil]; omega))
  all_goals try (exfalso; omega)
  all_goals try (exfalso; dsimp only at *; omega)
  all_goals exact FinRr.mk' (by simp [putAll_putAll, putAll_nil])
theorem rtyp15_ok (t : List Al.Node) (T : Int → List Bytes) (nm : Bytes) (num : Int) (fr to : Int) (k : Int) (hk : KidR t T k) : PutsR t 50 [aNode ⟨15, nm, num, [k], fr, to⟩] ([38] :: [109, 117, 116] :: T k) := by
  refine PutsR.of fun s hb => ?_
  try simp only [wt_append, wt_cons, wt_nil, List.length_cons, List.length_nil] at hb
  refine .run ttab_ok func50 rfl (by kernel_rfl) (by simp [f50]) rfl ?_
  conv => whnf
  repeat' first
    | (intro h; exfalso; revert h; simp; done)
    | (intro _; conv => whnf)
    | (apply And.intro <;> (conv => whnf))
    | (refine AllRow.of rfl ?_; conv => whnf)
    | (apply AllRow.map; intro _ _; conv => whnf)
    | (refine CallG.lend call53 [0] (by simp) (by simp) (by simp [isArr, pinsOf, rrR]) (rput_ok t _ _ (by first | omega | (simp only [wt_append, wt_cons, wt_nil, List.length_cons, List.length_nil]; omega) | ((try simp only [putAll_putAll]); refine Nat.le_trans (Nat.add_le_add_right (putAll_len _ _) _) ?_; (try simp only [wt_append, wt_cons, wt_nil, List.length_append, List.length_cons, List.length_nil]); omega))) ?_; rintro _ _ ⟨rfl, rfl⟩; refine ⟨by simp [rrR], ?_⟩; conv => whnf)
    | (refine CallG.lend call26 [0] (by simp) (by simp) (by simp [isArr, pinsOf, rrR]) (hk.put _ (by first | omega | (simp only [wt_append, wt_cons, wt_nil, List.length_cons, List.length_nil]; omega) | ((try simp only [putAll_putAll]); refine Nat.le_trans (Nat.add_le_add_right (putAll_len _ _) _) ?_; (try simp only [wt_append, wt_cons, wt_nil, List.length_append, List.length_cons, List.length_nil]); omega))) ?_; rintro _ _ ⟨rfl, rfl⟩; refine ⟨by simp [rrR], ?_⟩; conv => whnf)
    | exact ⟨rfl⟩
    | fail
  all_goals try (refine Side.mk ?_; first | omega | (simp; done) | (intro row hr; obtain ⟨_, _, rfl⟩ := List.mem_map.1 hr; rfl) | (simp only [List.length_map, List.length_cons, List.length_nil]; omega) | (dsimp only; simp only [List.length_map, List.length_cons, List.length_nil]; omega))
  all_goals try (exfalso; omega)
  all_goals try (exfalso; dsimp only at *; omega)
  all_goals exact FinRr.mk' (by simp [putAll_putAll, putAll_nil])
theorem rtyp16_ok (t : List Al.Node) (T : Int → List Bytes) (nm : Bytes) (num : Int) (fr to : Int) (k : Int) (hk : KidR t T k) : PutsR t 50 [aNode ⟨16, nm, num, [k], fr, to⟩] ([66, 111, 120] :: [60] :: (T k ++ [[62]])) := by
  refine PutsR.of fun s hb => ?_
  try simp only [wt_append, wt_cons, wt_nil, List.length_cons, List.length_nil] at hb
  refine .run ttab_ok func50 rfl (by kernel_rfl) (by simp [f50]) rfl ?_
  conv => whnf
  repeat' first
    | (intro h; exfalso; revert h; simp; done)
    | (intro _; conv => whnf)
    | (apply And.intro <;> (conv => whnf))
    | (refine AllRow.of rfl ?_; conv => whnf)
    | (apply AllRow.map; intro _ _; conv => whnf)
    | (refine CallG.lend call53 [0] (by simp) (by simp) (by simp [isArr, pinsOf, rrR]) (rput_ok t _ _ (by first | omega | (simp only [wt_append, wt_cons, wt_nil, List.length_cons, List.length_nil]; omega) | ((try simp only [putAll_putAll]); refine Nat.le_trans (Nat.add_le_add_right (putAll_len _ _) _) ?_; (try simp only [wt_append, wt_cons, wt_nil, List.length_append, List.length_cons, List.length_nil]); omega))) ?_; rintro _ _ ⟨rfl, rfl⟩; refine ⟨by simp [rrR], ?_⟩; conv => whnf)
    | (refine CallG.lend call26 [0] (by simp) (by simp) (by simp [isArr, pinsOf, rrR]) (hk.put _ (by first | omega | (simp only [wt_append, wt_cons, wt_nil, List.length_cons, List.length_nil]; omega) | ((try simp only [putAll_putAll]); refine Nat.le_trans (Nat.add_le_add_right (putAll_len _ _) _) ?_; (try simp only [wt_append, wt_cons, wt_nil, List.length_append, List.length_cons, List.length_nil]); omega))) ?_; rintro _ _ ⟨rfl, rfl⟩; refine ⟨by simp [rrR], ?_⟩; conv => whnf)
    | exact ⟨rfl⟩
    | fail
  all_goals try (refine Side.mk ?_; first | omega | (simp; done) | (intro row hr; obtain ⟨_, _, rfl⟩ := List.mem_map.1 hr; rfl) | (simp only [List.length_map, List.length_cons, List.length_nil]; omega) | (dsimp only; simp only [List.length_map, List.length_cons, List.length_nil]; omega))
  all_goals try (exfalso; omega)
  all_goals try (exfalso; dsimp only at *; omega)
  all_goals exact FinRr.mk' (by simp [putAll_putAll, putAll_nil])
theorem rleta1_ok (t : List Al.Node) (T : Int → List Bytes) (nm : Bytes) (fr to : Int) (k : Int) (hk : KidR t T k) : PutsR t 52 [aNode ⟨21, nm, 1, [k], fr, to⟩] ([108, 101, 116] :: [109, 117, 116] :: nm :: [61] :: (T k ++ [[59]])) := by
  refine PutsR.of fun s hb => ?_
  try simp only [wt_append, wt_cons, wt_nil, List.length_cons, List.length_nil] at hb
  refine .run ttab_ok func52 rfl (by kernel_rfl) (by simp [f52]) rfl ?_
  conv => whnf
  repeat' first
    | (intro h; exfalso; revert h; simp; done)
    | (intro _; conv => whnf)
    | (apply And.intro <;> (conv => whnf))
    | (refine AllRow.of rfl ?_; conv => whnf)
    | (apply AllRow.map; intro _ _; conv => whnf)
    | (refine CallG.lend call53 [0] (by simp) (by simp) (by simp [isArr, pinsOf, rrR]) (rput_ok t _ _ (by first | omega | (simp only [wt_append, wt_cons, wt_nil, List.length_cons, List.length_nil]; omega) | ((try simp only [putAll_putAll]); refine Nat.le_trans (Nat.add_le_add_right (putAll_len _ _) _) ?_; (try simp only [wt_append, wt_cons, wt_nil, List.length_append, List.length_cons, List.length_nil]); omega))) ?_; rintro _ _ ⟨rfl, rfl⟩; refine ⟨by simp [rrR], ?_⟩; conv => whnf)
    | (refine CallG.lend call26 [0] (by simp) (by simp) (by simp [isArr, pinsOf, rrR]) (hk.put _ (by first | omega | (simp only [wt_append, wt_cons, wt_nil, List.length_cons, List.length_nil]; omega) | ((try simp only [putAll_putAll]); refine Nat.le_trans (Nat.add_le_add_right (putAll_len _ _) _) ?_; (try simp only [wt_append, wt_cons, wt_nil, List.length_append, List.length_cons, List.length_nil]); omega))) ?_; rintro _ _ ⟨rfl, rfl⟩; refine ⟨by simp [rrR], ?_⟩; conv => whnf)
    | exact ⟨rfl⟩
    | fail
  all_goals try (refine Side.mk ?_; first | omega | (simp; done) | (intro row hr; obtain ⟨_, _, rfl⟩ := List.mem_map.1 hr; rfl) | (simp only [List.length_map, List.length_cons, List.length_nil]; omega) | (dsimp only; simp only [List.length_map, List.length_cons, List.length_nil]; omega))
  all_goals try (exfalso; omega)
  all_goals try (exfalso; dsimp only at *; omega)
  all_goals exact FinRr.mk' (by simp [putAll_putAll, putAll_nil])
theorem rleta0_ok (t : List Al.Node) (T : Int → List Bytes) (nm : Bytes) (num : Int) (fr to : Int) (hnum : num ≠ 1) (k : Int) (hk : KidR t T k) : PutsR t 52 [aNode ⟨21, nm, num, [k], fr, to⟩] ([108, 101, 116] :: nm :: [61] :: (T k ++ [[59]])) := by
  refine PutsR.of fun s hb => ?_
  try simp only [wt_append, wt_cons, wt_nil, List.length_cons, List.length_nil] at hb
  refine .run ttab_ok func52 rfl (by kernel_rfl) (by simp [f52]) rfl ?_
  conv => whnf
  repeat' first
    | (intro h; exfalso; revert h; simp; done)
    | (intro _; conv => whnf)
    | (apply And.intro <;> (conv => whnf))
    | (refine AllRow.of rfl ?_; conv => whnf)
    | (apply AllRow.map; intro _ _; conv => whnf)
    | (refine CallG.lend call53 [0] (by simp) (by simp) (by simp [isArr, pinsOf, rrR]) (rput_ok t _ _ (by first | omega | (simp only [wt_append, wt_cons, wt_nil, List.length_cons, List.length_nil]; omega) | ((try simp only [putAll_putAll]); refine Nat.le_trans (Nat.add_le_add_right (putAll_len _ _) _) ?_; (try simp only [wt_append, wt_cons, wt_nil, List.length_append, List.length_cons, List.length_nil]); omega))) ?_; rintro _ _ ⟨rfl, rfl⟩; refine ⟨by simp [rrR], ?_⟩; conv => whnf)
    | (refine CallG.lend call26 [0] (by simp) (by simp) (by simp [isArr, pinsOf, rrR]) (hk.put _ (by first | omega | (simp only [wt_append, wt_cons, wt_nil, List.length_cons, List.length_nil]; omega) | ((try simp only [putAll_putAll]); refine Nat.le_trans (Nat.add_le_add_right (putAll_len _ _) _) ?_; (try simp only [wt_append, wt_cons, wt_nil, List.length_append, List.length_cons, List.length_nil]); omega))) ?_; rintro _ _ ⟨rfl, rfl⟩; refine ⟨by simp [rrR], ?_⟩; conv => whnf)
    | exact ⟨rfl⟩
    | fail
  all_goals try (refine Side.mk ?_; first | omega | (simp; done) | (intro row hr; obtain ⟨_, _, rfl⟩ := List.mem_map.1 hr; rfl) | (simp only [List.length_map, List.length_cons, List.length_nil]; omega) | (dsimp only; simp only [List.length_map, List.length_cons, List.length_nil]; omega))
  all_goals try (exfalso; first | (rename_i hq; exact hnum hq) | (rename_i hq _; exact hnum hq) | (rename_i hq _ _; exact hnum hq))
  all_goals try (exfalso; omega)
  all_goals try (exfalso; dsimp only at *; omega)
  all_goals exact FinRr.mk' (by simp [putAll_putAll, putAll_nil])
theorem rletb1_ok (t : List Al.Node) (T : Int → List Bytes) (nm : Bytes) (fr to : Int) (k : Int) (m : Int) (hk : KidR t T k) (hm : KidR t T m) : PutsR t 52 [aNode ⟨21, nm, 1, [k, m], fr, to⟩] ([108, 101, 116] :: [109, 117, 116] :: nm :: [58] :: (T k ++ ([61] :: (T m ++ [[59]])))) := by
  refine PutsR.of fun s hb => ?_
  try simp only [wt_append, wt_cons, wt_nil, List.length_cons, List.length_nil] at hb
  refine .run ttab_ok func52 rfl (by kernel_rfl) (by simp [f52]) rfl ?_
  conv => whnf
  repeat' first
    | (intro h; exfalso; revert h; simp; done)
    | (intro _; conv => whnf)
    | (apply And.intro <;> (conv => whnf))
    | (refine AllRow.of rfl ?_; conv => whnf)
    | (apply AllRow.map; intro _ _; conv => whnf)
    | (refine CallG.lend call53 [0] (by simp) (by simp) (by simp [isArr, pinsOf, rrR]) (rput_ok t _ _ (by first | omega | (simp only [wt_append, wt_cons, wt_nil, List.length_cons, List.length_nil]; omega) | ((try simp only [putAll_putAll]); refine Nat.le_trans (Nat.add_le_add_right (putAll_len _ _) _) ?_; (try simp only [wt_append, wt_cons, wt_nil, List.length_append, List.length_cons, List.length_nil]); omega))) ?_; rintro _ _ ⟨rfl, rfl⟩; refine ⟨by simp [rrR], ?_⟩; conv => whnf)
    | (refine CallG.lend call26 [0] (by simp) (by simp) (by simp [isArr, pinsOf, rrR]) (hk.put _ (by first | omega | (simp only [wt_append, wt_cons, wt_nil, List.length_cons, List.length_nil]; omega) | ((try simp only [putAll_putAll]); refine Nat.le_trans (Nat.add_le_add_right (putAll_len _ _) _) ?_; (try simp only [wt_append, wt_cons, wt_nil, List.length_append, List.length_cons, List.length_nil]); omega))) ?_; rintro _ _ ⟨rfl, rfl⟩; refine ⟨by simp [rrR], ?_⟩; conv => whnf)
    | (refine CallG.lend call26 [0] (by simp) (by simp) (by simp [isArr, pinsOf, rrR]) (hm.put _ (by first | omega | (simp only [wt_append, wt_cons, wt_nil, List.length_cons, List.length_nil]; omega) | ((try simp only [putAll_putAll]); refine Nat.le_trans (Nat.add_le_add_right (putAll_len _ _) _) ?_; (try simp only [wt_append, wt_cons, wt_nil, List.length_append, List.length_cons, List.length_nil]); omega))) ?_; rintro _ _ ⟨rfl, rfl⟩; refine ⟨by simp [rrR], ?_⟩; conv => whnf)
    | exact ⟨rfl⟩
    | fail
  all_goals try (refine Side.mk ?_; first | omega | (simp; done) | (intro row hr; obtain ⟨_, _, rfl⟩ := List.mem_map.1 hr; rfl) | (simp only [List.length_map, List.length_cons, List.length_nil]; omega) | (dsimp only; simp only [List.length_map, List.length_cons, List.length_nil]; omega))
  all_goals try (exfalso; omega)
  all_goals try (exfalso; dsimp only at *; omega)
  all_goals exact FinRr.mk' (by simp [putAll_putAll, putAll_nil])
theorem rletb0_ok (t : List Al.Node) (T : Int → List Bytes) (nm : Bytes) (num : Int) (fr to : Int) (hnum : num ≠ 1) (k : Int) (m : Int) (hk : KidR t T k) (hm : KidR t T m) : PutsR t 52 [aNode ⟨21, nm, num, [k, m], fr, to⟩] ([108, 101, 116] :: nm :: [58] :: (T k ++ ([61] :: (T m ++ [[59]])))) := by
  refine PutsR.of fun s hb => ?_
  try simp only [wt_append, wt_cons, wt_nil, List.length_cons, List.length_nil] at hb
  refine .run ttab_ok func52 rfl (by kernel_rfl) (by simp [f52]) rfl ?_
  conv => whnf
  repeat' first
    | (intro h; exfalso; revert h; simp; done)
    | (intro _; conv => whnf)
    | (apply And.intro <;> (conv => whnf))
    | (refine AllRow.of rfl ?_; conv => whnf)
    | (apply AllRow.map; intro _ _; conv => whnf)
    | (refine CallG.lend call53 [0] (by simp) (by simp) (by simp [isArr, pinsOf, rrR]) (rput_ok t _ _ (by first | omega | (simp only [wt_append, wt_cons, wt_nil, List.length_cons, List.length_nil]; omega) | ((try simp only [putAll_putAll]); refine Nat.le_trans (Nat.add_le_add_right (putAll_len _ _) _) ?_; (try simp only [wt_append, wt_cons, wt_nil, List.length_append, List.length_cons, List.length_nil]); omega))) ?_; rintro _ _ ⟨rfl, rfl⟩; refine ⟨by simp [rrR], ?_⟩; conv => whnf)
    | (refine CallG.lend call26 [0] (by simp) (by simp) (by simp [isArr, pinsOf, rrR]) (hk.put _ (by first | omega | (simp only [wt_append, wt_cons, wt_nil, List.length_cons, List.length_nil]; omega) | ((try simp only [putAll_putAll]); refine Nat.le_trans (Nat.add_le_add_right (putAll_len _ _) _) ?_; (try simp only [wt_append, wt_cons, wt_nil, List.length_append, List.length_cons, List.length_nil]); omega))) ?_; rintro _ _ ⟨rfl, rfl⟩; refine ⟨by simp [rrR], ?_⟩; conv => whnf)
    | (refine CallG.lend call26 [0] (by simp) (by simp) (by simp [isArr, pinsOf, rrR]) (hm.put _ (by first | omega | (simp only [wt_append, wt_cons, wt_nil, List.length_cons, List.length_nil]; omega) | ((try simp only [putAll_putAll]); refine Nat.le_trans (Nat.add_le_add_right (putAll_len _ _) _) ?_; (try simp only [wt_append, wt_cons, wt_nil, List.length_append, List.length_cons, List.length_nil]); omega))) ?_; rintro _ _ ⟨rfl, rfl⟩; refine ⟨by simp [rrR], ?_⟩; conv => whnf)
    | exact ⟨rfl⟩
    | fail
  all_goals try (refine Side.mk ?_; first | omega | (simp; done) | (intro row hr; obtain ⟨_, _, rfl⟩ := List.mem_map.1 hr; rfl) | (simp only [List.length_map, List.length_cons, List.length_nil]; omega) | (dsimp only; simp only [List.length_map, List.length_cons, List.length_nil]; omega))
  all_goals try (exfalso; first | (rename_i hq; exact hnum hq) | (rename_i hq _; exact hnum hq) | (rename_i hq _ _; exact hnum hq))
  all_goals try (exfalso; omega)
  all_goals try (exfalso; dsimp only at *; omega)
  all_goals exact FinRr.mk' (by simp [putAll_putAll, putAll_nil])
theorem rstmt22_ok (t : List Al.Node) (T : Int → List Bytes) (nm : Bytes) (num : Int) (fr to : Int) (k : Int) (hk : KidR t T k) : PutsR t 52 [aNode ⟨22, nm, num, [k], fr, to⟩] (T k ++ [[59]]) := by
  refine PutsR.of fun s hb => ?_
  try simp only [wt_append, wt_cons, wt_nil, List.length_cons, List.length_nil] at hb
  refine .run ttab_ok func52 rfl (by kernel_rfl) (by simp [f52]) rfl ?_
  conv => whnf
  repeat' first
    | (intro h; exfalso; revert h; simp; done)
    | (intro _; conv => whnf)
    | (apply And.intro <;> (conv => whnf))
    | (refine AllRow.of rfl ?_; conv => whnf)
    | (apply AllRow.map; intro _ _; conv => whnf)
    | (refine CallG.lend call53 [0] (by simp) (by simp) (by simp [isArr, pinsOf, rrR]) (rput_ok t _ _ (by first | omega | (simp only [wt_append, wt_cons, wt_nil, List.length_cons, List.length_nil]; omega) | ((try simp only [putAll_putAll]); refine Nat.le_trans (Nat.add_le_add_right (putAll_len _ _) _) ?_; (try simp only [wt_append, wt_cons, wt_nil, List.length_append, List.length_cons, List.length_nil]); omega))) ?_; rintro _ _ ⟨rfl, rfl⟩; refine ⟨by simp [rrR], ?_⟩; conv => whnf)
    | (refine CallG.lend call26 [0] (by simp) (by simp) (by simp [isArr, pinsOf, rrR]) (hk.put _ (by first | omega | (simp only [wt_append, wt_cons, wt_nil, List.length_cons, List.length_nil]; omega) | ((try simp only [putAll_putAll]); refine Nat.le_trans (Nat.add_le_add_right (putAll_len _ _) _) ?_; (try simp only [wt_append, wt_cons, wt_nil, List.length_append, List.length_cons, List.length_nil]); omega))) ?_; rintro _ _ ⟨rfl, rfl⟩; refine ⟨by simp [rrR], ?_⟩; conv => whnf)
    | exact ⟨rfl⟩
    | fail
  all_goals try (refine Side.mk ?_; first | omega | (simp; done) | (intro row hr; obtain ⟨_, _, rfl⟩ := List.mem_map.1 hr; rfl) | (simp only [List.length_map, List.length_cons, List.length_nil]; omega) | (dsimp only; simp only [List.length_map, List.length_cons, List.length_nil]; omega))
  all_goals try (exfalso; omega)
  all_goals try (exfalso; dsimp only at *; omega)
  all_goals exact FinRr.mk' (by simp [putAll_putAll, putAll_nil])
theorem rstmt23_ok (t : List Al.Node) (T : Int → List Bytes) (nm : Bytes) (num : Int) (fr to : Int) (k : Int) (m : Int) (hk : KidR t T k) (hm : KidR t T m) : PutsR t 52 [aNode ⟨23, nm, num, [k, m], fr, to⟩] (opT t T k false ++ ([61] :: (opT t T m false ++ [[59]]))) := by
  refine PutsR.of fun s hb => ?_
  try simp only [wt_append, wt_cons, wt_nil, List.length_cons, List.length_nil] at hb
  refine .run ttab_ok func52 rfl (by kernel_rfl) (by simp [f52]) rfl ?_
  conv => whnf
  repeat' first
    | (intro h; exfalso; revert h; simp; done)
    | (intro _; conv => whnf)
    | (apply And.intro <;> (conv => whnf))
    | (refine AllRow.of rfl ?_; conv => whnf)
    | (apply AllRow.map; intro _ _; conv => whnf)
    | (refine CallG.lend call53 [0] (by simp) (by simp) (by simp [isArr, pinsOf, rrR]) (rput_ok t _ _ (by first | omega | (simp only [wt_append, wt_cons, wt_nil, List.length_cons, List.length_nil]; omega) | ((try simp only [putAll_putAll]); refine Nat.le_trans (Nat.add_le_add_right (putAll_len _ _) _) ?_; (try simp only [wt_append, wt_cons, wt_nil, List.length_append, List.length_cons, List.length_nil]); omega))) ?_; rintro _ _ ⟨rfl, rfl⟩; refine ⟨by simp [rrR], ?_⟩; conv => whnf)
    | (refine CallG.lend call56 [0] (by simp) (by simp) (by simp [isArr, pinsOf, rrR]) (rop_ok hk false _ (by first | omega | (simp only [wt_append, wt_cons, wt_nil, List.length_cons, List.length_nil]; omega) | ((try simp only [putAll_putAll]); refine Nat.le_trans (Nat.add_le_add_right (putAll_len _ _) _) ?_; (try simp only [wt_append, wt_cons, wt_nil, List.length_append, List.length_cons, List.length_nil]); omega))) ?_; rintro _ _ ⟨rfl, rfl⟩; refine ⟨by simp [rrR], ?_⟩; conv => whnf)
    | (refine CallG.lend call56 [0] (by simp) (by simp) (by simp [isArr, pinsOf, rrR]) (rop_ok hm false _ (by first | omega | (simp only [wt_append, wt_cons, wt_nil, List.length_cons, List.length_nil]; omega) | ((try simp only [putAll_putAll]); refine Nat.le_trans (Nat.add_le_add_right (putAll_len _ _) _) ?_; (try simp only [wt_append, wt_cons, wt_nil, List.length_append, List.length_cons, List.length_nil]); omega))) ?_; rintro _ _ ⟨rfl, rfl⟩; refine ⟨by simp [rrR], ?_⟩; conv => whnf)
    | exact ⟨rfl⟩
    | fail
  all_goals try (refine Side.mk ?_; first | omega | (simp; done) | (intro row hr; obtain ⟨_, _, rfl⟩ := List.mem_map.1 hr; rfl) | (simp only [List.length_map, List.length_cons, List.length_nil]; omega) | (dsimp only; simp only [List.length_map, List.length_cons, List.length_nil]; omega))
  all_goals try (exfalso; omega)
  all_goals try (exfalso; dsimp only at *; omega)
  all_goals exact FinRr.mk' (by simp [putAll_putAll, putAll_nil])
theorem rstmt24_ok (t : List Al.Node) (T : Int → List Bytes) (nm : Bytes) (num : Int) (fr to : Int) (k : Int) (m : Int) (hk : KidR t T k) (hm : KidR t T m) : PutsR t 52 [aNode ⟨24, nm, num, [k, m], fr, to⟩] ([119, 104, 105, 108, 101] :: (opT t T k false ++ T m)) := by
  refine PutsR.of fun s hb => ?_
  try simp only [wt_append, wt_cons, wt_nil, List.length_cons, List.length_nil] at hb
  refine .run ttab_ok func52 rfl (by kernel_rfl) (by simp [f52]) rfl ?_
  conv => whnf
  repeat' first
    | (intro h; exfalso; revert h; simp; done)
    | (intro _; conv => whnf)
    | (apply And.intro <;> (conv => whnf))
    | (refine AllRow.of rfl ?_; conv => whnf)
    | (apply AllRow.map; intro _ _; conv => whnf)
    | (refine CallG.lend call53 [0] (by simp) (by simp) (by simp [isArr, pinsOf, rrR]) (rput_ok t _ _ (by first | omega | (simp only [wt_append, wt_cons, wt_nil, List.length_cons, List.length_nil]; omega) | ((try simp only [putAll_putAll]); refine Nat.le_trans (Nat.add_le_add_right (putAll_len _ _) _) ?_; (try simp only [wt_append, wt_cons, wt_nil, List.length_append, List.length_cons, List.length_nil]); omega))) ?_; rintro _ _ ⟨rfl, rfl⟩; refine ⟨by simp [rrR], ?_⟩; conv => whnf)
    | (refine CallG.lend call56 [0] (by simp) (by simp) (by simp [isArr, pinsOf, rrR]) (rop_ok hk false _ (by first | omega | (simp only [wt_append, wt_cons, wt_nil, List.length_cons, List.length_nil]; omega) | ((try simp only [putAll_putAll]); refine Nat.le_trans (Nat.add_le_add_right (putAll_len _ _) _) ?_; (try simp only [wt_append, wt_cons, wt_nil, List.length_append, List.length_cons, List.length_nil]); omega))) ?_; rintro _ _ ⟨rfl, rfl⟩; refine ⟨by simp [rrR], ?_⟩; conv => whnf)
    | (refine CallG.lend call26 [0] (by simp) (by simp) (by simp [isArr, pinsOf, rrR]) (hm.put _ (by first | omega | (simp only [wt_append, wt_cons, wt_nil, List.length_cons, List.length_nil]; omega) | ((try simp only [putAll_putAll]); refine Nat.le_trans (Nat.add_le_add_right (putAll_len _ _) _) ?_; (try simp only [wt_append, wt_cons, wt_nil, List.length_append, List.length_cons, List.length_nil]); omega))) ?_; rintro _ _ ⟨rfl, rfl⟩; refine ⟨by simp [rrR], ?_⟩; conv => whnf)
    | exact ⟨rfl⟩
    | fail
  all_goals try (refine Side.mk ?_; first | omega | (simp; done) | (intro row hr; obtain ⟨_, _, rfl⟩ := List.mem_map.1 hr; rfl) | (simp only [List.length_map, List.length_cons, List.length_nil]; omega) | (dsimp only; simp only [List.length_map, List.length_cons, List.length_nil]; omega))
  all_goals try (exfalso; omega)
  all_goals try (exfalso; dsimp only at *; omega)
  all_goals exact FinRr.mk' (by simp [putAll_putAll, putAll_nil])
theorem rstmt25a_ok (t : List Al.Node) (T : Int → List Bytes) (nm : Bytes) (num : Int) (fr to : Int)  : PutsR t 52 [aNode ⟨25, nm, num, [], fr, to⟩] ([[114, 101, 116, 117, 114, 110], [59]]) := by
  refine PutsR.of fun s hb => ?_
  try simp only [wt_append, wt_cons, wt_nil, List.length_cons, List.length_nil] at hb
  refine .run ttab_ok func52 rfl (by kernel_rfl) (by simp [f52]) rfl ?_
  conv => whnf
  repeat' first
    | (intro h; exfalso; revert h; simp; done)
    | (intro _; conv => whnf)
    | (apply And.intro <;> (conv => whnf))
    | (refine AllRow.of rfl ?_; conv => whnf)
    | (apply AllRow.map; intro _ _; conv => whnf)
    | (refine CallG.lend call53 [0] (by simp) (by simp) (by simp [isArr, pinsOf, rrR]) (rput_ok t _ _ (by first | omega | (simp only [wt_append, wt_cons, wt_nil, List.length_cons, List.length_nil]; omega) | ((try simp only [putAll_putAll]); refine Nat.le_trans (Nat.add_le_add_right (putAll_len _ _) _) ?_; (try simp only [wt_append, wt_cons, wt_nil, List.length_append, List.length_cons, List.length_nil]); omega))) ?_; rintro _ _ ⟨rfl, rfl⟩; refine ⟨by simp [rrR], ?_⟩; conv => whnf)
    | exact ⟨rfl⟩
    | fail
  all_goals try (refine Side.mk ?_; first | omega | (simp; done) | (intro row hr; obtain ⟨_, _, rfl⟩ := List.mem_map.1 hr; rfl) | (simp only [List.length_map, List.length_cons, List.length_nil]; omega) | (dsimp only; simp only [List.length_map, List.length_cons, List.length_nil]; omega))
  all_goals try (exfalso; omega)
  all_goals try (exfalso; dsimp only at *; omega)
  all_goals exact FinRr.mk' (by simp [putAll_putAll, putAll_nil])
theorem rstmt25b_ok (t : List Al.Node) (T : Int → List Bytes) (nm : Bytes) (num : Int) (fr to : Int) (k : Int) (hk : KidR t T k) : PutsR t 52 [aNode ⟨25, nm, num, [k], fr, to⟩] ([114, 101, 116, 117, 114, 110] :: (T k ++ [[59]])) := by
  refine PutsR.of fun s hb => ?_
  try simp only [wt_append, wt_cons, wt_nil, List.length_cons, List.length_nil] at hb
  refine .run ttab_ok func52 rfl (by kernel_rfl) (by simp [f52]) rfl ?_
  conv => whnf
  repeat' first
    | (intro h; exfalso; revert h; simp; done)
    | (intro _; conv => whnf)
    | (apply And.intro <;> (conv => whnf))
    | (refine AllRow.of rfl ?_; conv => whnf)
    | (apply AllRow.map; intro _ _; conv => whnf)
    | (refine CallG.lend call53 [0] (by simp) (by simp) (by simp [isArr, pinsOf, rrR]) (rput_ok t _ _ (by first | omega | (simp only [wt_append, wt_cons, wt_nil, List.length_cons, List.length_nil]; omega) | ((try simp only [putAll_putAll]); refine Nat.le_trans (Nat.add_le_add_right (putAll_len _ _) _) ?_; (try simp only [wt_append, wt_cons, wt_nil, List.length_append, List.length_cons, List.length_nil]); omega))) ?_; rintro _ _ ⟨rfl, rfl⟩; refine ⟨by simp [rrR], ?_⟩; conv => whnf)
    | (refine CallG.lend call26 [0] (by simp) (by simp) (by simp [isArr, pinsOf, rrR]) (hk.put _ (by first | omega | (simp only [wt_append, wt_cons, wt_nil, List.length_cons, List.length_nil]; omega) | ((try simp only [putAll_putAll]); refine Nat.le_trans (Nat.add_le_add_right (putAll_len _ _) _) ?_; (try simp only [wt_append, wt_cons, wt_nil, List.length_append, List.length_cons, List.length_nil]); omega))) ?_; rintro _ _ ⟨rfl, rfl⟩; refine ⟨by simp [rrR], ?_⟩; conv => whnf)
    | exact ⟨rfl⟩
    | fail
  all_goals try (refine Side.mk ?_; first | omega | (simp; done) | (intro row hr; obtain ⟨_, _, rfl⟩ := List.mem_map.1 hr; rfl) | (simp only [List.length_map, List.length_cons, List.length_nil]; omega) | (dsimp only; simp only [List.length_map, List.length_cons, List.length_nil]; omega))
  all_goals try (exfalso; omega)
  all_goals try (exfalso; dsimp only at *; omega)
  all_goals exact FinRr.mk' (by simp [putAll_putAll, putAll_nil])
theorem rstmt26_ok (t : List Al.Node) (T : Int → List Bytes) (nm : Bytes) (num : Int) (ks : List Int) (fr to : Int) : PutsR t 52 [aNode ⟨26, nm, num, ks, fr, to⟩] ([[98, 114, 101, 97, 107], [59]]) := by
  refine PutsR.of fun s hb => ?_
  try simp only [wt_append, wt_cons, wt_nil, List.length_cons, List.length_nil] at hb
  refine .run ttab_ok func52 rfl (by kernel_rfl) (by simp [f52]) rfl ?_
  conv => whnf
  repeat' first
    | (intro h; exfalso; revert h; simp; done)
    | (intro _; conv => whnf)
    | (apply And.intro <;> (conv => whnf))
    | (refine AllRow.of rfl ?_; conv => whnf)
    | (apply AllRow.map; intro _ _; conv => whnf)
    | (refine CallG.lend call53 [0] (by simp) (by simp) (by simp [isArr, pinsOf, rrR]) (rput_ok t _ _ (by first | omega | (simp only [wt_append, wt_cons, wt_nil, List.length_cons, List.length_nil]; omega) | ((try simp only [putAll_putAll]); refine Nat.le_trans (Nat.add_le_add_right (putAll_len _ _) _) ?_; (try simp only [wt_append, wt_cons, wt_nil, List.length_append, List.length_cons, List.length_nil]); omega))) ?_; rintro _ _ ⟨rfl, rfl⟩; refine ⟨by simp [rrR], ?_⟩; conv => whnf)
    | exact ⟨rfl⟩
    | fail
  all_goals try (refine Side.mk ?_; first | omega | (simp; done) | (intro row hr; obtain ⟨_, _, rfl⟩ := List.mem_map.1 hr; rfl) | (simp only [List.length_map, List.length_cons, List.length_nil]; omega) | (dsimp only; simp only [List.length_map, List.length_cons, List.length_nil]; omega))
  all_goals try (exfalso; omega)
  all_goals try (exfalso; dsimp only at *; omega)
  all_goals exact FinRr.mk' (by simp [putAll_putAll, putAll_nil])
theorem rstmt27_ok (t : List Al.Node) (T : Int → List Bytes) (nm : Bytes) (num : Int) (ks : List Int) (fr to : Int) : PutsR t 52 [aNode ⟨27, nm, num, ks, fr, to⟩] ([[99, 111, 110, 116, 105, 110, 117, 101], [59]]) := by
  refine PutsR.of fun s hb => ?_
  try simp only [wt_append, wt_cons, wt_nil, List.length_cons, List.length_nil] at hb
  refine .run ttab_ok func52 rfl (by kernel_rfl) (by simp [f52]) rfl ?_
  conv => whnf
  repeat' first
    | (intro h; exfalso; revert h; simp; done)
    | (intro _; conv => whnf)
    | (apply And.intro <;> (conv => whnf))
    | (refine AllRow.of rfl ?_; conv => whnf)
    | (apply AllRow.map; intro _ _; conv => whnf)
    | (refine CallG.lend call53 [0] (by simp) (by simp) (by simp [isArr, pinsOf, rrR]) (rput_ok t _ _ (by first | omega | (simp only [wt_append, wt_cons, wt_nil, List.length_cons, List.length_nil]; omega) | ((try simp only [putAll_putAll]); refine Nat.le_trans (Nat.add_le_add_right (putAll_len _ _) _) ?_; (try simp only [wt_append, wt_cons, wt_nil, List.length_append, List.length_cons, List.length_nil]); omega))) ?_; rintro _ _ ⟨rfl, rfl⟩; refine ⟨by simp [rrR], ?_⟩; conv => whnf)
    | exact ⟨rfl⟩
    | fail
  all_goals try (refine Side.mk ?_; first | omega | (simp; done) | (intro row hr; obtain ⟨_, _, rfl⟩ := List.mem_map.1 hr; rfl) | (simp only [List.length_map, List.length_cons, List.length_nil]; omega) | (dsimp only; simp only [List.length_map, List.length_cons, List.length_nil]; omega))
  all_goals try (exfalso; omega)
  all_goals try (exfalso; dsimp only at *; omega)
  all_goals exact FinRr.mk' (by simp [putAll_putAll, putAll_nil])
theorem rexpr39_ok (t : List Al.Node) (T : Int → List Bytes) (nm : Bytes) (num : Int) (fr to : Int) (k : Int) (hk : KidR t T k) : PutsR t 59 [aNode ⟨39, nm, num, [k], fr, to⟩] ([45] :: opT t T k false) := by
  refine PutsR.of fun s hb => ?_
  try simp only [wt_append, wt_cons, wt_nil, List.length_cons, List.length_nil] at hb
  refine .run ttab_ok func59 rfl (by kernel_rfl) (by simp [f59]) rfl ?_
  conv => whnf
  repeat' first
    | (intro h; exfalso; revert h; simp; done)
    | (intro _; conv => whnf)
    | (apply And.intro <;> (conv => whnf))
    | (refine AllRow.of rfl ?_; conv => whnf)
    | (apply AllRow.map; intro _ _; conv => whnf)
    | (refine CallG.lend call53 [0] (by simp) (by simp) (by simp [isArr, pinsOf, rrR]) (rput_ok t _ _ (by first | omega | (simp only [wt_append, wt_cons, wt_nil, List.length_cons, List.length_nil]; omega) | ((try simp only [putAll_putAll]); refine Nat.le_trans (Nat.add_le_add_right (putAll_len _ _) _) ?_; (try simp only [wt_append, wt_cons, wt_nil, List.length_append, List.length_cons, List.length_nil]); omega))) ?_; rintro _ _ ⟨rfl, rfl⟩; refine ⟨by simp [rrR], ?_⟩; conv => whnf)
    | (refine CallG.lend call56 [0] (by simp) (by simp) (by simp [isArr, pinsOf, rrR]) (rop_ok hk false _ (by first | omega | (simp only [wt_append, wt_cons, wt_nil, List.length_cons, List.length_nil]; omega) | ((try simp only [putAll_putAll]); refine Nat.le_trans (Nat.add_le_add_right (putAll_len _ _) _) ?_; (try simp only [wt_append, wt_cons, wt_nil, List.length_append, List.length_cons, List.length_nil]); omega))) ?_; rintro _ _ ⟨rfl, rfl⟩; refine ⟨by simp [rrR], ?_⟩; conv => whnf)
    | exact ⟨rfl⟩
    | fail
  all_goals try (refine Side.mk ?_; first | omega | (simp; done) | (intro row hr; obtain ⟨_, _, rfl⟩ := List.mem_map.1 hr; rfl) | (simp only [List.length_map, List.length_cons, List.length_nil]; omega) | (dsimp only; simp only [List.length_map, List.length_cons, List.length_nil]; omega))
  all_goals try (exfalso; omega)
  all_goals try (exfalso; dsimp only at *; omega)
  all_goals exact FinRr.mk' (by simp [putAll_putAll, putAll_nil])
theorem rexpr40_ok (t : List Al.Node) (T : Int → List Bytes) (nm : Bytes) (num : Int) (fr to : Int) (k : Int) (hk : KidR t T k) : PutsR t 59 [aNode ⟨40, nm, num, [k], fr, to⟩] ([33] :: opT t T k false) := by
  refine PutsR.of fun s hb => ?_
  try simp only [wt_append, wt_cons, wt_nil, List.length_cons, List.length_nil] at hb
  refine .run ttab_ok func59 rfl (by kernel_rfl) (by simp [f59]) rfl ?_
  conv => whnf
  repeat' first
    | (intro h; exfalso; revert h; simp; done)
    | (intro _; conv => whnf)
    | (apply And.intro <;> (conv => whnf))
    | (refine AllRow.of rfl ?_; conv => whnf)
    | (apply AllRow.map; intro _ _; conv => whnf)
    | (refine CallG.lend call53 [0] (by simp) (by simp) (by simp [isArr, pinsOf, rrR]) (rput_ok t _ _ (by first | omega | (simp only [wt_append, wt_cons, wt_nil, List.length_cons, List.length_nil]; omega) | ((try simp only [putAll_putAll]); refine Nat.le_trans (Nat.add_le_add_right (putAll_len _ _) _) ?_; (try simp only [wt_append, wt_cons, wt_nil, List.length_append, List.length_cons, List.length_nil]); omega))) ?_; rintro _ _ ⟨rfl, rfl⟩; refine ⟨by simp [rrR], ?_⟩; conv => whnf)
    | (refine CallG.lend call56 [0] (by simp) (by simp) (by simp [isArr, pinsOf, rrR]) (rop_ok hk false _ (by first | omega | (simp only [wt_append, wt_cons, wt_nil, List.length_cons, List.length_nil]; omega) | ((try simp only [putAll_putAll]); refine Nat.le_trans (Nat.add_le_add_right (putAll_len _ _) _) ?_; (try simp only [wt_append, wt_cons, wt_nil, List.length_append, List.length_cons, List.length_nil]); omega))) ?_; rintro _ _ ⟨rfl, rfl⟩; refine ⟨by simp [rrR], ?_⟩; conv => whnf)
    | exact ⟨rfl⟩
    | fail
  all_goals try (refine Side.mk ?_; first | omega | (simp; done) | (intro row hr; obtain ⟨_, _, rfl⟩ := List.mem_map.1 hr; rfl) | (simp only [List.length_map, List.length_cons, List.length_nil]; omega) | (dsimp only; simp only [List.length_map, List.length_cons, List.length_nil]; omega))
  all_goals try (exfalso; omega)
  all_goals try (exfalso; dsimp only at *; omega)
  all_goals exact FinRr.mk' (by simp [putAll_putAll, putAll_nil])
theorem rexpr42_ok (t : List Al.Node) (T : Int → List Bytes) (nm : Bytes) (num : Int) (fr to : Int) (k : Int) (hk : KidR t T k) : PutsR t 59 [aNode ⟨42, nm, num, [k], fr, to⟩] ([42] :: opT t T k false) := by
  refine PutsR.of fun s hb => ?_
  try simp only [wt_append, wt_cons, wt_nil, List.length_cons, List.length_nil] at hb
  refine .run ttab_ok func59 rfl (by kernel_rfl) (by simp [f59]) rfl ?_
  conv => whnf
  repeat' first
    | (intro h; exfalso; revert h; simp; done)
    | (intro _; conv => whnf)
    | (apply And.intro <;> (conv => whnf))
    | (refine AllRow.of rfl ?_; conv => whnf)
    | (apply AllRow.map; intro _ _; conv => whnf)
    | (refine CallG.lend call53 [0] (by simp) (by simp) (by simp [isArr, pinsOf, rrR]) (rput_ok t _ _ (by first | omega | (simp only [wt_append, wt_cons, wt_nil, List.length_cons, List.length_nil]; omega) | ((try simp only [putAll_putAll]); refine Nat.le_trans (Nat.add_le_add_right (putAll_len _ _) _) ?_; (try simp only [wt_append, wt_cons, wt_nil, List.length_append, List.length_cons, List.length_nil]); omega))) ?_; rintro _ _ ⟨rfl, rfl⟩; refine ⟨by simp [rrR], ?_⟩; conv => whnf)
    | (refine CallG.lend call56 [0] (by simp) (by simp) (by simp [isArr, pinsOf, rrR]) (rop_ok hk false _ (by first | omega | (simp only [wt_append, wt_cons, wt_nil, List.length_cons, List.length_nil]; omega) | ((try simp only [putAll_putAll]); refine Nat.le_trans (Nat.add_le_add_right (putAll_len _ _) _) ?_; (try simp only [wt_append, wt_cons, wt_nil, List.length_append, List.length_cons, List.length_nil]); omega))) ?_; rintro _ _ ⟨rfl, rfl⟩; refine ⟨by simp [rrR], ?_⟩; conv => whnf)
    | exact ⟨rfl⟩
    | fail
  all_goals try (refine Side.mk ?_; first | omega | (simp; done) | (intro row hr; obtain ⟨_, _, rfl⟩ := List.mem_map.1 hr; rfl) | (simp only [List.length_map, List.length_cons, List.length_nil]; omega) | (dsimp only; simp only [List.length_map, List.length_cons, List.length_nil]; omega))
  all_goals try (exfalso; omega)
  all_goals try (exfalso; dsimp only at *; omega)
  all_goals exact FinRr.mk' (by simp [putAll_putAll, putAll_nil])
theorem rexpr43a_ok (t : List Al.Node) (T : Int → List Bytes) (nm : Bytes) (fr to : Int) (k : Int) (hk : KidR t T k) : PutsR t 59 [aNode ⟨43, nm, 1, [k], fr, to⟩] ([38] :: [109, 117, 116] :: opT t T k false) := by
  refine PutsR.of fun s hb => ?_
  try simp only [wt_append, wt_cons, wt_nil, List.length_cons, List.length_nil] at hb
  refine .run ttab_ok func59 rfl (by kernel_rfl) (by simp [f59]) rfl ?_
  conv => whnf
  repeat' first
    | (intro h; exfalso; revert h; simp; done)
    | (intro _; conv => whnf)
    | (apply And.intro <;> (conv => whnf))
    | (refine AllRow.of rfl ?_; conv => whnf)
    | (apply AllRow.map; intro _ _; conv => whnf)
    | (refine CallG.lend call53 [0] (by simp) (by simp) (by simp [isArr, pinsOf, rrR]) (rput_ok t _ _ (by first | omega | (simp only [wt_append, wt_cons, wt_nil, List.length_cons, List.length_nil]; omega) | ((try simp only [putAll_putAll]); refine Nat.le_trans (Nat.add_le_add_right (putAll_len _ _) _) ?_; (try simp only [wt_append, wt_cons, wt_nil, List.length_append, List.length_cons, List.length_nil]); omega))) ?_; rintro _ _ ⟨rfl, rfl⟩; refine ⟨by simp [rrR], ?_⟩; conv => whnf)
    | (refine CallG.lend call56 [0] (by simp) (by simp) (by simp [isArr, pinsOf, rrR]) (rop_ok hk false _ (by first | omega | (simp only [wt_append, wt_cons, wt_nil, List.length_cons, List.length_nil]; omega) | ((try simp only [putAll_putAll]); refine Nat.le_trans (Nat.add_le_add_right (putAll_len _ _) _) ?_; (try simp only [wt_append, wt_cons, wt_nil, List.length_append, List.length_cons, List.length_nil]); omega))) ?_; rintro _ _ ⟨rfl, rfl⟩; refine ⟨by simp [rrR], ?_⟩; conv => whnf)
    | exact ⟨rfl⟩
    | fail
  all_goals try (refine Side.mk ?_; first | omega | (simp; done) | (intro row hr; obtain ⟨_, _, rfl⟩ := List.mem_map.1 hr; rfl) | (simp only [List.length_map, List.length_cons, List.length_nil]; omega) | (dsimp only; simp only [List.length_map, List.length_cons, List.length_nil]; omega))
  all_goals try (exfalso; omega)
  all_goals try (exfalso; dsimp only at *; omega)
  all_goals exact FinRr.mk' (by simp [putAll_putAll, putAll_nil])
theorem rexpr43b_ok (t : List Al.Node) (T : Int → List Bytes) (nm : Bytes) (num : Int) (fr to : Int) (hnum : num ≠ 1) (k : Int) (hk : KidR t T k) : PutsR t 59 [aNode ⟨43, nm, num, [k], fr, to⟩] ([38] :: opT t T k false) := by
  refine PutsR.of fun s hb => ?_
  try simp only [wt_append, wt_cons, wt_nil, List.length_cons, List.length_nil] at hb
  refine .run ttab_ok func59 rfl (by kernel_rfl) (by simp [f59]) rfl ?_
  conv => whnf
  repeat' first
    | (intro h; exfalso; revert h; simp; done)
    | (intro _; conv => whnf)
    | (apply And.intro <;> (conv => whnf))
    | (refine AllRow.of rfl ?_; conv => whnf)
    | (apply AllRow.map; intro _ _; conv => whnf)
    | (refine CallG.lend call53 [0] (by simp) (by simp) (by simp [isArr, pinsOf, rrR]) (rput_ok t _ _ (by first | omega | (simp only [wt_append, wt_cons, wt_nil, List.length_cons, List.length_nil]; omega) | ((try simp only [putAll_putAll]); refine Nat.le_trans (Nat.add_le_add_right (putAll_len _ _) _) ?_; (try simp only [wt_append, wt_cons, wt_nil, List.length_append, List.length_cons, List.length_nil]); omega))) ?_; rintro _ _ ⟨rfl, rfl⟩; refine ⟨by simp [rrR], ?_⟩; conv => whnf)
    | (refine CallG.lend call56 [0] (by simp) (by simp) (by simp [isArr, pinsOf, rrR]) (rop_ok hk false _ (by first | omega | (simp only [wt_append, wt_cons, wt_nil, List.length_cons, List.length_nil]; omega) | ((try simp only [putAll_putAll]); refine Nat.le_trans (Nat.add_le_add_right (putAll_len _ _) _) ?_; (try simp only [wt_append, wt_cons, wt_nil, List.length_append, List.length_cons, List.length_nil]); omega))) ?_; rintro _ _ ⟨rfl, rfl⟩; refine ⟨by simp [rrR], ?_⟩; conv => whnf)
    | exact ⟨rfl⟩
    | fail
  all_goals try (refine Side.mk ?_; first | omega | (simp; done) | (intro row hr; obtain ⟨_, _, rfl⟩ := List.mem_map.1 hr; rfl) | (simp only [List.length_map, List.length_cons, List.length_nil]; omega) | (dsimp only; simp only [List.length_map, List.length_cons, List.length_nil]; omega))
  all_goals try (exfalso; first | (rename_i hq; exact hnum hq) | (rename_i hq _; exact hnum hq) | (rename_i hq _ _; exact hnum hq))
  all_goals try (exfalso; omega)
  all_goals try (exfalso; dsimp only at *; omega)
  all_goals exact FinRr.mk' (by simp [putAll_putAll, putAll_nil])
theorem rprim34_ok (t : List Al.Node) (T : Int → List Bytes) (nm : Bytes) (num : Int) (ks : List Int) (fr to : Int) (hl : ks.length ≤ 17592186043904) (ih : ∀ k, k ∈ ks → KidR t T k) : PutsR t 57 [aNode ⟨34, nm, num, ks, fr, to⟩] (nm :: [40] :: (listT T ks ++ [[41]])) := by
  refine PutsR.of fun s hb => ?_
  try simp only [wt_append, wt_cons, wt_nil, List.length_cons, List.length_nil] at hb
  refine .run ttab_ok func57 rfl (by kernel_rfl) (by simp [f57]) rfl ?_
  conv => whnf
  repeat' first
    | (intro h; exfalso; revert h; simp; done)
    | (intro _; conv => whnf)
    | (apply And.intro <;> (conv => whnf))
    | (refine AllRow.of rfl ?_; conv => whnf)
    | (apply AllRow.map; intro _ _; conv => whnf)
    | (refine CallG.lend call53 [0] (by simp) (by simp) (by simp [isArr, pinsOf, rrR]) (rput_ok t _ _ (by first | omega | (simp only [wt_append, wt_cons, wt_nil, List.length_cons, List.length_nil]; omega) | ((try simp only [putAll_putAll]); refine Nat.le_trans (Nat.add_le_add_right (putAll_len _ _) _) ?_; (try simp only [wt_append, wt_cons, wt_nil, List.length_append, List.length_cons, List.length_nil]); omega))) ?_; rintro _ _ ⟨rfl, rfl⟩; refine ⟨by simp [rrR], ?_⟩; conv => whnf)
    | (refine CallG.lend call82 [0] (by simp) (by simp) (by simp [isArr, pinsOf, rrR]) (row_ok t T ks (by omega) ih _ (by first | omega | (simp only [wt_append, wt_cons, wt_nil, List.length_cons, List.length_nil]; omega) | ((try simp only [putAll_putAll]); refine Nat.le_trans (Nat.add_le_add_right (putAll_len _ _) _) ?_; (try simp only [wt_append, wt_cons, wt_nil, List.length_append, List.length_cons, List.length_nil]); omega))) ?_; rintro _ _ ⟨rfl, rfl⟩; refine ⟨by simp [rrR], ?_⟩; conv => whnf)
    | exact ⟨rfl⟩
    | fail
  all_goals try (refine Side.mk ?_; first | omega | (simp; done) | (intro row hr; obtain ⟨_, _, rfl⟩ := List.mem_map.1 hr; rfl) | (simp only [List.length_map, List.length_cons, List.length_nil]; omega) | (dsimp only; simp only [List.length_map, List.length_cons, List.length_nil]; omega))
  all_goals try (exfalso; omega)
  all_goals try (exfalso; dsimp only at *; omega)
  all_goals exact FinRr.mk' (by simp [putAll_putAll, putAll_nil])
theorem rprim35_ok (t : List Al.Node) (T : Int → List Bytes) (nm : Bytes) (num : Int) (ks : List Int) (fr to : Int) (hl : ks.length ≤ 17592186043904) (ih : ∀ k, k ∈ ks → KidR t T k) : PutsR t 57 [aNode ⟨35, nm, num, ks, fr, to⟩] (nm :: [123] :: (listT T ks ++ [[125]])) := by
  refine PutsR.of fun s hb => ?_
  try simp only [wt_append, wt_cons, wt_nil, List.length_cons, List.length_nil] at hb
  refine .run ttab_ok func57 rfl (by kernel_rfl) (by simp [f57]) rfl ?_
  conv => whnf
  repeat' first
    | (intro h; exfalso; revert h; simp; done)
    | (intro _; conv => whnf)
    | (apply And.intro <;> (conv => whnf))
    | (refine AllRow.of rfl ?_; conv => whnf)
    | (apply AllRow.map; intro _ _; conv => whnf)
    | (refine CallG.lend call53 [0] (by simp) (by simp) (by simp [isArr, pinsOf, rrR]) (rput_ok t _ _ (by first | omega | (simp only [wt_append, wt_cons, wt_nil, List.length_cons, List.length_nil]; omega) | ((try simp only [putAll_putAll]); refine Nat.le_trans (Nat.add_le_add_right (putAll_len _ _) _) ?_; (try simp only [wt_append, wt_cons, wt_nil, List.length_append, List.length_cons, List.length_nil]); omega))) ?_; rintro _ _ ⟨rfl, rfl⟩; refine ⟨by simp [rrR], ?_⟩; conv => whnf)
    | (refine CallG.lend call83 [0] (by simp) (by simp) (by simp [isArr, pinsOf, rrR]) (braces_ok t T ks (by omega) ih _ (by first | omega | (simp only [wt_append, wt_cons, wt_nil, List.length_cons, List.length_nil]; omega) | ((try simp only [putAll_putAll]); refine Nat.le_trans (Nat.add_le_add_right (putAll_len _ _) _) ?_; (try simp only [wt_append, wt_cons, wt_nil, List.length_append, List.length_cons, List.length_nil]); omega))) ?_; rintro _ _ ⟨rfl, rfl⟩; refine ⟨by simp [rrR], ?_⟩; conv => whnf)
    | exact ⟨rfl⟩
    | fail
  all_goals try (refine Side.mk ?_; first | omega | (simp; done) | (intro row hr; obtain ⟨_, _, rfl⟩ := List.mem_map.1 hr; rfl) | (simp only [List.length_map, List.length_cons, List.length_nil]; omega) | (dsimp only; simp only [List.length_map, List.length_cons, List.length_nil]; omega))
  all_goals try (exfalso; omega)
  all_goals try (exfalso; dsimp only at *; omega)
  all_goals exact FinRr.mk' (by simp [putAll_putAll, putAll_nil])
theorem rprim36_ok (t : List Al.Node) (T : Int → List Bytes) (nm : Bytes) (num : Int) (fr to : Int) (k : Int) (hk : KidR t T k) : PutsR t 57 [aNode ⟨36, nm, num, [k], fr, to⟩] (nm :: [58] :: T k) := by
  refine PutsR.of fun s hb => ?_
  try simp only [wt_append, wt_cons, wt_nil, List.length_cons, List.length_nil] at hb
  refine .run ttab_ok func57 rfl (by kernel_rfl) (by simp [f57]) rfl ?_
  conv => whnf
  repeat' first
    | (intro h; exfalso; revert h; simp; done)
    | (intro _; conv => whnf)
    | (apply And.intro <;> (conv => whnf))
    | (refine AllRow.of rfl ?_; conv => whnf)
    | (apply AllRow.map; intro _ _; conv => whnf)
    | (refine CallG.lend call53 [0] (by simp) (by simp) (by simp [isArr, pinsOf, rrR]) (rput_ok t _ _ (by first | omega | (simp only [wt_append, wt_cons, wt_nil, List.length_cons, List.length_nil]; omega) | ((try simp only [putAll_putAll]); refine Nat.le_trans (Nat.add_le_add_right (putAll_len _ _) _) ?_; (try simp only [wt_append, wt_cons, wt_nil, List.length_append, List.length_cons, List.length_nil]); omega))) ?_; rintro _ _ ⟨rfl, rfl⟩; refine ⟨by simp [rrR], ?_⟩; conv => whnf)
    | (refine CallG.lend call26 [0] (by simp) (by simp) (by simp [isArr, pinsOf, rrR]) (hk.put _ (by first | omega | (simp only [wt_append, wt_cons, wt_nil, List.length_cons, List.length_nil]; omega) | ((try simp only [putAll_putAll]); refine Nat.le_trans (Nat.add_le_add_right (putAll_len _ _) _) ?_; (try simp only [wt_append, wt_cons, wt_nil, List.length_append, List.length_cons, List.length_nil]); omega))) ?_; rintro _ _ ⟨rfl, rfl⟩; refine ⟨by simp [rrR], ?_⟩; conv => whnf)
    | exact ⟨rfl⟩
    | fail
  all_goals try (refine Side.mk ?_; first | omega | (simp; done) | (intro row hr; obtain ⟨_, _, rfl⟩ := List.mem_map.1 hr; rfl) | (simp only [List.length_map, List.length_cons, List.length_nil]; omega) | (dsimp only; simp only [List.length_map, List.length_cons, List.length_nil]; omega))
  all_goals try (exfalso; omega)
  all_goals try (exfalso; dsimp only at *; omega)
  all_goals exact FinRr.mk' (by simp [putAll_putAll, putAll_nil])
theorem rprim44_ok (t : List Al.Node) (T : Int → List Bytes) (nm : Bytes) (num : Int) (fr to : Int) (k : Int) (hk : KidR t T k) : PutsR t 57 [aNode ⟨44, nm, num, [k], fr, to⟩] ([66, 111, 120] :: [58, 58] :: [110, 101, 119] :: [40] :: (T k ++ [[41]])) := by
  refine PutsR.of fun s hb => ?_
  try simp only [wt_append, wt_cons, wt_nil, List.length_cons, List.length_nil] at hb
  refine .run ttab_ok func57 rfl (by kernel_rfl) (by simp [f57]) rfl ?_
  conv => whnf
  repeat' first
    | (intro h; exfalso; revert h; simp; done)
    | (intro _; conv => whnf)
    | (apply And.intro <;> (conv => whnf))
    | (refine AllRow.of rfl ?_; conv => whnf)
    | (apply AllRow.map; intro _ _; conv => whnf)
    | (refine CallG.lend call53 [0] (by simp) (by simp) (by simp [isArr, pinsOf, rrR]) (rput_ok t _ _ (by first | omega | (simp only [wt_append, wt_cons, wt_nil, List.length_cons, List.length_nil]; omega) | ((try simp only [putAll_putAll]); refine Nat.le_trans (Nat.add_le_add_right (putAll_len _ _) _) ?_; (try simp only [wt_append, wt_cons, wt_nil, List.length_append, List.length_cons, List.length_nil]); omega))) ?_; rintro _ _ ⟨rfl, rfl⟩; refine ⟨by simp [rrR], ?_⟩; conv => whnf)
    | (refine CallG.lend call26 [0] (by simp) (by simp) (by simp [isArr, pinsOf, rrR]) (hk.put _ (by first | omega | (simp only [wt_append, wt_cons, wt_nil, List.length_cons, List.length_nil]; omega) | ((try simp only [putAll_putAll]); refine Nat.le_trans (Nat.add_le_add_right (putAll_len _ _) _) ?_; (try simp only [wt_append, wt_cons, wt_nil, List.length_append, List.length_cons, List.length_nil]); omega))) ?_; rintro _ _ ⟨rfl, rfl⟩; refine ⟨by simp [rrR], ?_⟩; conv => whnf)
    | exact ⟨rfl⟩
    | fail
  all_goals try (refine Side.mk ?_; first | omega | (simp; done) | (intro row hr; obtain ⟨_, _, rfl⟩ := List.mem_map.1 hr; rfl) | (simp only [List.length_map, List.length_cons, List.length_nil]; omega) | (dsimp only; simp only [List.length_map, List.length_cons, List.length_nil]; omega))
  all_goals try (exfalso; omega)
  all_goals try (exfalso; dsimp only at *; omega)
  all_goals exact FinRr.mk' (by simp [putAll_putAll, putAll_nil])
theorem rexpr45a_ok (t : List Al.Node) (T : Int → List Bytes) (nm : Bytes) (num : Int) (fr to : Int) (k : Int) (m : Int) (hk : KidR t T k) (hm : KidR t T m) : PutsR t 58 [aNode ⟨45, nm, num, [k, m], fr, to⟩] ([105, 102] :: (opT t T k false ++ T m)) := by
  refine PutsR.of fun s hb => ?_
  try simp only [wt_append, wt_cons, wt_nil, List.length_cons, List.length_nil] at hb
  refine .run ttab_ok func58 rfl (by kernel_rfl) (by simp [f58]) rfl ?_
  conv => whnf
  repeat' first
    | (intro h; exfalso; revert h; simp; done)
    | (intro _; conv => whnf)
    | (apply And.intro <;> (conv => whnf))
    | (refine AllRow.of rfl ?_; conv => whnf)
    | (apply AllRow.map; intro _ _; conv => whnf)
    | (refine CallG.lend call53 [0] (by simp) (by simp) (by simp [isArr, pinsOf, rrR]) (rput_ok t _ _ (by first | omega | (simp only [wt_append, wt_cons, wt_nil, List.length_cons, List.length_nil]; omega) | ((try simp only [putAll_putAll]); refine Nat.le_trans (Nat.add_le_add_right (putAll_len _ _) _) ?_; (try simp only [wt_append, wt_cons, wt_nil, List.length_append, List.length_cons, List.length_nil]); omega))) ?_; rintro _ _ ⟨rfl, rfl⟩; refine ⟨by simp [rrR], ?_⟩; conv => whnf)
    | (refine CallG.lend call56 [0] (by simp) (by simp) (by simp [isArr, pinsOf, rrR]) (rop_ok hk false _ (by first | omega | (simp only [wt_append, wt_cons, wt_nil, List.length_cons, List.length_nil]; omega) | ((try simp only [putAll_putAll]); refine Nat.le_trans (Nat.add_le_add_right (putAll_len _ _) _) ?_; (try simp only [wt_append, wt_cons, wt_nil, List.length_append, List.length_cons, List.length_nil]); omega))) ?_; rintro _ _ ⟨rfl, rfl⟩; refine ⟨by simp [rrR], ?_⟩; conv => whnf)
    | (refine CallG.lend call26 [0] (by simp) (by simp) (by simp [isArr, pinsOf, rrR]) (hm.put _ (by first | omega | (simp only [wt_append, wt_cons, wt_nil, List.length_cons, List.length_nil]; omega) | ((try simp only [putAll_putAll]); refine Nat.le_trans (Nat.add_le_add_right (putAll_len _ _) _) ?_; (try simp only [wt_append, wt_cons, wt_nil, List.length_append, List.length_cons, List.length_nil]); omega))) ?_; rintro _ _ ⟨rfl, rfl⟩; refine ⟨by simp [rrR], ?_⟩; conv => whnf)
    | exact ⟨rfl⟩
    | fail
  all_goals try (refine Side.mk ?_; first | omega | (simp; done) | (intro row hr; obtain ⟨_, _, rfl⟩ := List.mem_map.1 hr; rfl) | (simp only [List.length_map, List.length_cons, List.length_nil]; omega) | (dsimp only; simp only [List.length_map, List.length_cons, List.length_nil]; omega))
  all_goals try (exfalso; omega)
  all_goals try (exfalso; dsimp only at *; omega)
  all_goals exact FinRr.mk' (by simp [putAll_putAll, putAll_nil])
theorem rexpr45b_ok (t : List Al.Node) (T : Int → List Bytes) (nm : Bytes) (num : Int) (fr to : Int) (k : Int) (m : Int) (e : Int) (hk : KidR t T k) (hm : KidR t T m) (he : KidR t T e) : PutsR t 58 [aNode ⟨45, nm, num, [k, m, e], fr, to⟩] ([105, 102] :: (opT t T k false ++ (T m ++ [101, 108, 115, 101] :: T e))) := by
  refine PutsR.of fun s hb => ?_
  try simp only [wt_append, wt_cons, wt_nil, List.length_cons, List.length_nil] at hb
  refine .run ttab_ok func58 rfl (by kernel_rfl) (by simp [f58]) rfl ?_
  conv => whnf
  repeat' first
    | (intro h; exfalso; revert h; simp; done)
    | (intro _; conv => whnf)
    | (apply And.intro <;> (conv => whnf))
    | (refine AllRow.of rfl ?_; conv => whnf)
    | (apply AllRow.map; intro _ _; conv => whnf)
    | (refine CallG.lend call53 [0] (by simp) (by simp) (by simp [isArr, pinsOf, rrR]) (rput_ok t _ _ (by first | omega | (simp only [wt_append, wt_cons, wt_nil, List.length_cons, List.length_nil]; omega) | ((try simp only [putAll_putAll]); refine Nat.le_trans (Nat.add_le_add_right (putAll_len _ _) _) ?_; (try simp only [wt_append, wt_cons, wt_nil, List.length_append, List.length_cons, List.length_nil]); omega))) ?_; rintro _ _ ⟨rfl, rfl⟩; refine ⟨by simp [rrR], ?_⟩; conv => whnf)
    | (refine CallG.lend call56 [0] (by simp) (by simp) (by simp [isArr, pinsOf, rrR]) (rop_ok hk false _ (by first | omega | (simp only [wt_append, wt_cons, wt_nil, List.length_cons, List.length_nil]; omega) | ((try simp only [putAll_putAll]); refine Nat.le_trans (Nat.add_le_add_right (putAll_len _ _) _) ?_; (try simp only [wt_append, wt_cons, wt_nil, List.length_append, List.length_cons, List.length_nil]); omega))) ?_; rintro _ _ ⟨rfl, rfl⟩; refine ⟨by simp [rrR], ?_⟩; conv => whnf)
    | (refine CallG.lend call26 [0] (by simp) (by simp) (by simp [isArr, pinsOf, rrR]) (hm.put _ (by first | omega | (simp only [wt_append, wt_cons, wt_nil, List.length_cons, List.length_nil]; omega) | ((try simp only [putAll_putAll]); refine Nat.le_trans (Nat.add_le_add_right (putAll_len _ _) _) ?_; (try simp only [wt_append, wt_cons, wt_nil, List.length_append, List.length_cons, List.length_nil]); omega))) ?_; rintro _ _ ⟨rfl, rfl⟩; refine ⟨by simp [rrR], ?_⟩; conv => whnf)
    | (refine CallG.lend call26 [0] (by simp) (by simp) (by simp [isArr, pinsOf, rrR]) (he.put _ (by first | omega | (simp only [wt_append, wt_cons, wt_nil, List.length_cons, List.length_nil]; omega) | ((try simp only [putAll_putAll]); refine Nat.le_trans (Nat.add_le_add_right (putAll_len _ _) _) ?_; (try simp only [wt_append, wt_cons, wt_nil, List.length_append, List.length_cons, List.length_nil]); omega))) ?_; rintro _ _ ⟨rfl, rfl⟩; refine ⟨by simp [rrR], ?_⟩; conv => whnf)
    | exact ⟨rfl⟩
    | fail
  all_goals try (refine Side.mk ?_; first | omega | (simp; done) | (intro row hr; obtain ⟨_, _, rfl⟩ := List.mem_map.1 hr; rfl) | (simp only [List.length_map, List.length_cons, List.length_nil]; omega) | (dsimp only; simp only [List.length_map, List.length_cons, List.length_nil]; omega))
  all_goals try (exfalso; omega)
  all_goals try (exfalso; dsimp only at *; omega)
  all_goals exact FinRr.mk' (by simp [putAll_putAll, putAll_nil])
theorem rexpr46_ok (t : List Al.Node) (T : Int → List Bytes) (nm : Bytes) (num : Int) (k : Int) (ks : List Int) (fr to : Int) (hk : KidR t T k) (hl : ks.length ≤ 17592186043904) (ih : ∀ k, k ∈ ks → KidR t T k) : PutsR t 58 [aNode ⟨46, nm, num, k :: ks, fr, to⟩] ([109, 97, 116, 99, 104] :: (opT t T k false ++ ([123] :: (listT T ks ++ [[125]])))) := by
  refine PutsR.of fun s hb => ?_
  try simp only [wt_append, wt_cons, wt_nil, List.length_cons, List.length_nil] at hb
  refine .run ttab_ok func58 rfl (by kernel_rfl) (by simp [f58]) rfl ?_
  conv => whnf
  repeat' first
    | (refine CallG.at [.ptr 0 0 0, .d (dInts ks)] ?ha ?_; (case ha => (simp [dInts, List.map_take, List.take_of_length_le]; done)); refine CallG.lend call83 [0] (by simp) (by simp) (by simp [isArr, pinsOf, rrR]) (braces_ok t T ks hl ih _ (by first | omega | (simp only [wt_append, wt_cons, wt_nil, List.length_cons, List.length_nil]; omega) | ((try simp only [putAll_putAll]); refine Nat.le_trans (Nat.add_le_add_right (putAll_len _ _) _) ?_; (try simp only [wt_append, wt_cons, wt_nil, List.length_append, List.length_cons, List.length_nil]); omega))) ?_; rintro _ _ ⟨rfl, rfl⟩; refine ⟨by simp [rrR], ?_⟩; conv => whnf)
    | (intro h; exfalso; revert h; simp; done)
    | (intro _; conv => whnf)
    | (apply And.intro <;> (conv => whnf))
    | (refine AllRow.of rfl ?_; conv => whnf)
    | (apply AllRow.map; intro _ _; conv => whnf)
    | (refine CallG.lend call53 [0] (by simp) (by simp) (by simp [isArr, pinsOf, rrR]) (rput_ok t _ _ (by first | omega | (simp only [wt_append, wt_cons, wt_nil, List.length_cons, List.length_nil]; omega) | ((try simp only [putAll_putAll]); refine Nat.le_trans (Nat.add_le_add_right (putAll_len _ _) _) ?_; (try simp only [wt_append, wt_cons, wt_nil, List.length_append, List.length_cons, List.length_nil]); omega))) ?_; rintro _ _ ⟨rfl, rfl⟩; refine ⟨by simp [rrR], ?_⟩; conv => whnf)
    | (refine CallG.lend call56 [0] (by simp) (by simp) (by simp [isArr, pinsOf, rrR]) (rop_ok hk false _ (by first | omega | (simp only [wt_append, wt_cons, wt_nil, List.length_cons, List.length_nil]; omega) | ((try simp only [putAll_putAll]); refine Nat.le_trans (Nat.add_le_add_right (putAll_len _ _) _) ?_; (try simp only [wt_append, wt_cons, wt_nil, List.length_append, List.length_cons, List.length_nil]); omega))) ?_; rintro _ _ ⟨rfl, rfl⟩; refine ⟨by simp [rrR], ?_⟩; conv => whnf)
    | exact ⟨rfl⟩
    | fail
  all_goals try (refine Side.mk ?_; first | omega | (simp; done) | (intro row hr; obtain ⟨_, _, rfl⟩ := List.mem_map.1 hr; rfl) | (simp only [List.length_map, List.length_cons, List.length_nil]; omega) | (dsimp only; simp only [List.length_map, List.length_cons, List.length_nil]; omega))
  all_goals try (exfalso; omega)
  all_goals try (exfalso; dsimp only at *; omega)
  all_goals exact FinRr.mk' (by simp [putAll_putAll, putAll_nil])
theorem rprim47_ok (t : List Al.Node) (T : Int → List Bytes) (nm : Bytes) (num : Int) (fr to : Int) (k : Int) (m : Int) (hk : KidR t T k) (hm : KidR t T m) : PutsR t 58 [aNode ⟨47, nm, num, [k, m], fr, to⟩] (T k ++ ([61, 62] :: T m)) := by
  refine PutsR.of fun s hb => ?_
  try simp only [wt_append, wt_cons, wt_nil, List.length_cons, List.length_nil] at hb
  refine .run ttab_ok func58 rfl (by kernel_rfl) (by simp [f58]) rfl ?_
  conv => whnf
  repeat' first
    | (intro h; exfalso; revert h; simp; done)
    | (intro _; conv => whnf)
    | (apply And.intro <;> (conv => whnf))
    | (refine AllRow.of rfl ?_; conv => whnf)
    | (apply AllRow.map; intro _ _; conv => whnf)
    | (refine CallG.lend call53 [0] (by simp) (by simp) (by simp [isArr, pinsOf, rrR]) (rput_ok t _ _ (by first | omega | (simp only [wt_append, wt_cons, wt_nil, List.length_cons, List.length_nil]; omega) | ((try simp only [putAll_putAll]); refine Nat.le_trans (Nat.add_le_add_right (putAll_len _ _) _) ?_; (try simp only [wt_append, wt_cons, wt_nil, List.length_append, List.length_cons, List.length_nil]); omega))) ?_; rintro _ _ ⟨rfl, rfl⟩; refine ⟨by simp [rrR], ?_⟩; conv => whnf)
    | (refine CallG.lend call26 [0] (by simp) (by simp) (by simp [isArr, pinsOf, rrR]) (hk.put _ (by first | omega | (simp only [wt_append, wt_cons, wt_nil, List.length_cons, List.length_nil]; omega) | ((try simp only [putAll_putAll]); refine Nat.le_trans (Nat.add_le_add_right (putAll_len _ _) _) ?_; (try simp only [wt_append, wt_cons, wt_nil, List.length_append, List.length_cons, List.length_nil]); omega))) ?_; rintro _ _ ⟨rfl, rfl⟩; refine ⟨by simp [rrR], ?_⟩; conv => whnf)
    | (refine CallG.lend call26 [0] (by simp) (by simp) (by simp [isArr, pinsOf, rrR]) (hm.put _ (by first | omega | (simp only [wt_append, wt_cons, wt_nil, List.length_cons, List.length_nil]; omega) | ((try simp only [putAll_putAll]); refine Nat.le_trans (Nat.add_le_add_right (putAll_len _ _) _) ?_; (try simp only [wt_append, wt_cons, wt_nil, List.length_append, List.length_cons, List.length_nil]); omega))) ?_; rintro _ _ ⟨rfl, rfl⟩; refine ⟨by simp [rrR], ?_⟩; conv => whnf)
    | exact ⟨rfl⟩
    | fail
  all_goals try (refine Side.mk ?_; first | omega | (simp; done) | (intro row hr; obtain ⟨_, _, rfl⟩ := List.mem_map.1 hr; rfl) | (simp only [List.length_map, List.length_cons, List.length_nil]; omega) | (dsimp only; simp only [List.length_map, List.length_cons, List.length_nil]; omega))
  all_goals try (exfalso; omega)
  all_goals try (exfalso; dsimp only at *; omega)
  all_goals exact FinRr.mk' (by simp [putAll_putAll, putAll_nil])
theorem numbera_ok (t : List Al.Node) (T : Int → List Bytes) (n : Int) (h0 : 0 ≤ n) (h1 : n ≤ 9223372036854775807) : PutsR t 54 [I n] ([decT n]) := by
  refine PutsR.of fun s hb => ?_
  try simp only [wt_append, wt_cons, wt_nil, List.length_cons, List.length_nil] at hb
  refine .run ttab_ok func54 rfl (by kernel_rfl) (by simp [f54]) rfl ?_
  conv => whnf
  repeat' first
    | (intro h; exfalso; revert h; simp; done)
    | (intro _; conv => whnf)
    | (apply And.intro <;> (conv => whnf))
    | (refine AllRow.of rfl ?_; conv => whnf)
    | (apply AllRow.map; intro _ _; conv => whnf)
    | (refine CallG.lend call53 [0] (by simp) (by simp) (by simp [isArr, pinsOf, rrR]) (rput_ok t _ _ (by first | omega | (simp only [wt_append, wt_cons, wt_nil, List.length_cons, List.length_nil]; omega) | ((try simp only [putAll_putAll]); refine Nat.le_trans (Nat.add_le_add_right (putAll_len _ _) _) ?_; (try simp only [wt_append, wt_cons, wt_nil, List.length_append, List.length_cons, List.length_nil]); omega))) ?_; rintro _ _ ⟨rfl, rfl⟩; refine ⟨by simp [rrR], ?_⟩; conv => whnf)
    | (refine CallG.con call72 rfl (fmt_ok n ⟨by omega, by omega⟩) ?_; conv => whnf)
    | (refine CallQG.con call72 rfl (fmt_ok n ⟨by omega, by omega⟩) ?_; conv => whnf)
    | exact ⟨rfl⟩
    | fail
  all_goals try (refine Side.mk ?_; first | omega | (simp; done) | (intro row hr; obtain ⟨_, _, rfl⟩ := List.mem_map.1 hr; rfl) | (simp only [List.length_map, List.length_cons, List.length_nil]; omega) | (dsimp only; simp only [List.length_map, List.length_cons, List.length_nil]; omega))
  all_goals try (exfalso; omega)
  all_goals try (exfalso; dsimp only at *; omega)
  all_goals exact FinRr.mk' (by simp [putAll_putAll, putAll_nil])
theorem numberb_ok (t : List Al.Node) (T : Int → List Bytes) (n : Int) (h0 : n < 0) (h1 : -9223372036854775808 < n) : PutsR t 54 [I n] ([[45], decT (0 - n)]) := by
  refine PutsR.of fun s hb => ?_
  try simp only [wt_append, wt_cons, wt_nil, List.length_cons, List.length_nil] at hb
  refine .run ttab_ok func54 rfl (by kernel_rfl) (by simp [f54]) rfl ?_
  conv => whnf
  repeat' first
    | (intro h; exfalso; revert h; simp; done)
    | (intro _; conv => whnf)
    | (apply And.intro <;> (conv => whnf))
    | (refine AllRow.of rfl ?_; conv => whnf)
    | (apply AllRow.map; intro _ _; conv => whnf)
    | (refine CallG.lend call53 [0] (by simp) (by simp) (by simp [isArr, pinsOf, rrR]) (rput_ok t _ _ (by first | omega | (simp only [wt_append, wt_cons, wt_nil, List.length_cons, List.length_nil]; omega) | ((try simp only [putAll_putAll]); refine Nat.le_trans (Nat.add_le_add_right (putAll_len _ _) _) ?_; (try simp only [wt_append, wt_cons, wt_nil, List.length_append, List.length_cons, List.length_nil]); omega))) ?_; rintro _ _ ⟨rfl, rfl⟩; refine ⟨by simp [rrR], ?_⟩; conv => whnf)
    | (refine CallG.con call72 rfl (fmt_ok (0 - n) ⟨by omega, by omega⟩) ?_; conv => whnf)
    | (refine CallQG.con call72 rfl (fmt_ok (0 - n) ⟨by omega, by omega⟩) ?_; conv => whnf)
    | exact ⟨rfl⟩
    | fail
  all_goals try (refine Side.mk ?_; first | omega | (simp; done) | (intro row hr; obtain ⟨_, _, rfl⟩ := List.mem_map.1 hr; rfl) | (simp only [List.length_map, List.length_cons, List.length_nil]; omega) | (dsimp only; simp only [List.length_map, List.length_cons, List.length_nil]; omega))
  all_goals try (exfalso; omega)
  all_goals try (exfalso; dsimp only at *; omega)
  all_goals exact FinRr.mk' (by simp [putAll_putAll, putAll_nil])
end Go.Proofs.Tryz
