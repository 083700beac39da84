/- Contracts of package tree's printers, kind by kind. -/
import Derived.Test.YtobcdpmjaeflmaaDoorPrA
set_option linter.unusedVariables false
set_option linter.unusedSimpArgs false
namespace Go.Proofs.Tryd
open Go Go.Al
set_option maxRecDepth 20000
set_option linter.unusedVariables false
/-- What a printer's function leaves. -/
structure FinPr (t : List Al.Node) (out ts : List Bytes) (x : AV) (r : List Root) : Prop where
  out : finF [0, 1] (fun x r => x = .tup [] ∧ r = prR t (out ++ ts)) x r
theorem Puts.of {t : List Al.Node} {f : FuncId} {args : List AV} {ts : List Bytes} (h : ∀ out : List Bytes, out.length + ts.length ≤ 1000000000 → SCall prog f (.ptr 0 0 0 :: args) (prR t out) (FinPr t out ts)) : Puts t f args ts :=
  fun out hb => .finF [0, 1] (by simp) posOf_two ((h out hb).mono fun x r hx => hx.out)
theorem FinPr.mk' {t : List Al.Node} {out ts : List Bytes} {n : Nat} {rows : List (List D)} {extra : List Root} (hn : n = (out ++ ts).length) (hr : rows = (out ++ ts).map rS) :
    FinPr t out ts (oneOf []) (.box [.d (.sl (t.map rNode)), .vs 1 0 n] :: .arr 1 rows 0 :: extra) := by
  subst hn; subst hr
  refine ⟨by simp, ?_⟩
  simp only [oneOf, fz, fzL, optW, Option.map, Al.lend, List.map, List.getD_cons_zero, List.getD_cons_succ, renR, renL, ren, posOf]
  exact ⟨trivial, rfl⟩
theorem allT_step {T : Int → List Bytes} {l : List Int} {j : Nat} {k : Int} (h : l[j]? = some k) : allT T (l.take (j + 1)) = allT T (l.take j) ++ T k := by
  unfold allT
  rw [List.take_add_one, h]
  simp
theorem allT_le {T : Int → List Bytes} {l : List Int} (j : Nat) : (allT T (l.take j)).length ≤ (allT T l).length := by
  unfold allT
  have e : l = l.take j ++ l.drop j := (List.take_append_drop j l).symm
  conv => rhs; rw [e]
  rw [List.map_append, List.flatten_append, List.length_append]
  omega
theorem named_ok (t : List Al.Node) (s : Bytes) (hs : s.length < 4294967281) : Puts t 53 [S s] (pickT s) := by
  unfold pickT
  refine Puts.of fun out hb => ?_
  try simp only [List.length_append, List.length_cons, List.length_nil] at hb
  refine .run ttab_ok func53 rfl (by kernel_rfl) (by simp [f53]) rfl ?_
  conv => whnf
  repeat' first
    | (intro h; exfalso; revert h; simp; done)
    | (intro _; conv => whnf)
    | (apply And.intro <;> (conv => whnf))
    | (refine AllRow.of rfl ?_; conv => whnf)
    | (apply AllRow.map; intro _ _; conv => whnf)
    | (refine CallG.eq call60 rfl (cut_ok s [58, 58] hs) ?_; conv => whnf)
    | (refine CallG.lend call44 [0, 1] (by simp) (by simp) (by simp [isArr, pinsOf, prR]) (put_ok t [_, _, _] _ (by first | omega | (simp only [List.length_append, List.length_cons, List.length_nil]; omega) | (simp at *; omega))) ?_; rintro _ _ ⟨rfl, rfl⟩; refine ⟨by simp [prR], ?_⟩; conv => whnf)
    | exact ⟨rfl⟩
    | fail
  all_goals try (refine Side.mk ?_; first | omega | (simp; done) | (intro row hr; obtain ⟨_, _, rfl⟩ := List.mem_map.1 hr; rfl) | (simp only [List.length_map, List.length_cons, List.length_nil]; omega) | (dsimp only; simp only [List.length_map]; omega))
  all_goals try (exfalso; omega)
  all_goals try (exfalso; dsimp only at *; omega)
  all_goals exact FinPr.mk' (by simp) (by simp)
theorem block_ok (t : List Al.Node) (T : Int → List Bytes) (nm : Bytes) (num : Int) (ks : List Int) (fr to : Int) (hl : ks.length ≤ 17592186043904) (ih : ∀ k, k ∈ ks → Kid t T k) : Puts t 28 [aNode ⟨20, nm, num, ks, fr, to⟩] ([123] :: (allT T ks ++ [[125]])) := by
  refine Puts.of fun out hb => ?_
  try simp only [List.length_append, List.length_cons, List.length_nil] at hb
  refine .run ttab_ok func28 rfl (by kernel_rfl) (by simp [f28]) rfl ?_
  conv => whnf
  repeat' first
    | (intro h; exfalso; revert h; simp; done)
    | (intro _; conv => whnf)
    | (apply And.intro <;> (conv => whnf))
    | (refine AllRow.of rfl ?_; conv => whnf)
    | (apply AllRow.map; intro _ _; conv => whnf)
    | (refine CallG.lend call44 [0, 1] (by simp) (by simp) (by simp [isArr, pinsOf, prR]) (put_ok t [_] _ (by first | omega | (simp only [List.length_append, List.length_cons, List.length_nil]; omega) | (simp at *; omega))) ?_; rintro _ _ ⟨rfl, rfl⟩; refine ⟨by simp [prR], ?_⟩; conv => whnf)
    | (refine CallG.lend call44 [0, 1] (by simp) (by simp) (by simp [isArr, pinsOf, prR]) (put_ok t [_, _] _ (by first | omega | (simp only [List.length_append, List.length_cons, List.length_nil]; omega) | (simp at *; omega))) ?_; rintro _ _ ⟨rfl, rfl⟩; refine ⟨by simp [prR], ?_⟩; conv => whnf)
    | (refine CallG.lend call44 [0, 1] (by simp) (by simp) (by simp [isArr, pinsOf, prR]) (put_ok t [_, _, _] _ (by first | omega | (simp only [List.length_append, List.length_cons, List.length_nil]; omega) | (simp at *; omega))) ?_; rintro _ _ ⟨rfl, rfl⟩; refine ⟨by simp [prR], ?_⟩; conv => whnf)
    | exact ⟨rfl⟩
    | fail
  all_goals try (refine Side.mk ?_; first | omega | (simp; done))
  refine LoopG.of ttab_ok [0, 10, 11, 12] [0, 1] (fun (j : Nat) => ⟨[(0, .ptr 0 0 0), (10, .d (dInts ks)), (11, I ks.length), (12, I j)], prR t (out ++ [[123]] ++ allT T (ks.take j))⟩) (fun j => j ≤ ks.length) (fun j => ks.length - j) 0 (by kernel_rfl) (by simp) posOf_two (by simp) ?hs (by omega) ?_
  case hs =>
    first
      | (simp only [keepSt, keepE, Al.look, envOf, lend, ren, renL, renR, posOf, List.map_cons, List.map_nil]; done)
      | (simp only [keepSt, keepE, Al.look, envOf, lend, ren, renL, renR, posOf, List.map_cons, List.map_nil]; simp [I, S, B, U8, dI, dS, dB, dU8, dInts, dStrs, dNodes, ren, renL, renR, posOf, Al.look, envOf, prR, allT])
      | (simp [keepSt, keepE, lend, I, S, B, U8, dI, dS, dB, dU8, dInts, dStrs, dNodes, ren, renL, renR, posOf, Al.look, envOf, prR, allT])
  intro j hj
  have hle := allT_le (T := T) (l := ks) (j + 1)
  by_cases hlt : j < ks.length
  · obtain ⟨k, hk⟩ : ∃ k, ks[j]? = some k := ⟨_, List.getElem?_eq_getElem hlt⟩
    have hst := allT_step (T := T) hk
    rw [hst, List.length_append] at hle
    have hrow : lat (List.map rI ks) (j : Int).toNat = some (rI k) := by rw [lat_eq, List.getElem?_map, Int.toNat_natCast, hk]; rfl
    conv => whnf
    repeat' first
      | (refine AllRow.of hrow ?_; conv => whnf)
      | (intro h; exfalso; revert h; simp; done)
      | (intro _; conv => whnf)
      | (apply And.intro <;> (conv => whnf))
      | (refine AllRow.of rfl ?_; conv => whnf)
      | (apply AllRow.map; intro _ _; conv => whnf)
      | (refine CallG.lend call20 [0, 1] (by simp) (by simp) (by simp [isArr, pinsOf, prR]) ((ih k (List.mem_of_getElem? hk)).put _ (by first | omega | (simp only [List.length_append, List.length_cons, List.length_nil]; omega) | (simp at *; omega))) ?_; rintro _ _ ⟨rfl, rfl⟩; refine ⟨by simp [prR], ?_⟩; conv => whnf)
      | exact ⟨rfl⟩
      | fail
    all_goals try (refine Side.mk ?_; first | omega | (simp only [List.length_map]; omega))
    all_goals try (exfalso; omega)
    refine RoundG.mk' (j + 1) (by simp) ?_ (by omega) (by omega)
    rw [hst]
    first
      | (simp only [keepSt, keepE, Al.look, envOf, lend, ren, renL, renR, posOf, List.map_cons, List.map_nil]; done)
      | (simp only [keepSt, keepE, Al.look, envOf, lend, ren, renL, renR, posOf, List.map_cons, List.map_nil]; simp [I, S, B, U8, dI, dS, dB, dU8, dInts, dStrs, dNodes, ren, renL, renR, posOf, Al.look, envOf, prR, List.append_assoc])
      | (simp [keepSt, keepE, lend, I, S, B, U8, dI, dS, dB, dU8, dInts, dStrs, dNodes, ren, renL, renR, posOf, Al.look, envOf, prR, List.append_assoc])
  · have hjl : j = ks.length := by omega
    subst hjl
    rw [List.take_length]
    conv => whnf
    repeat' first
      | (intro h; exfalso; revert h; simp; done)
      | (intro _; conv => whnf)
      | (apply And.intro <;> (conv => whnf))
      | (refine AllRow.of rfl ?_; conv => whnf)
      | (apply AllRow.map; intro _ _; conv => whnf)
      | (refine CallG.lend call44 [0, 1] (by simp) (by simp) (by simp [isArr, pinsOf, prR]) (put_ok t [_] _ (by first | omega | (simp only [List.length_append, List.length_cons, List.length_nil]; omega) | (simp at *; omega))) ?_; rintro _ _ ⟨rfl, rfl⟩; refine ⟨by simp [prR], ?_⟩; conv => whnf)
      | (refine CallG.lend call44 [0, 1] (by simp) (by simp) (by simp [isArr, pinsOf, prR]) (put_ok t [_, _] _ (by first | omega | (simp only [List.length_append, List.length_cons, List.length_nil]; omega) | (simp at *; omega))) ?_; rintro _ _ ⟨rfl, rfl⟩; refine ⟨by simp [prR], ?_⟩; conv => whnf)
      | (refine CallG.lend call44 [0, 1] (by simp) (by simp) (by simp [isArr, pinsOf, prR]) (put_ok t [_, _, _] _ (by first | omega | (simp only [List.length_append, List.length_cons, List.length_nil]; omega) | (simp at *; omega))) ?_; rintro _ _ ⟨rfl, rfl⟩; refine ⟨by simp [prR], ?_⟩; conv => whnf)
      | exact ⟨rfl⟩
      | fail
    all_goals try (refine Side.mk ?_; first | omega | (simp; done))
    all_goals try (exfalso; omega)
    all_goals exact FinPr.mk' (by simp) (by simp)
theorem item1_ok (t : List Al.Node) (T : Int → List Bytes) (nm : Bytes) (num : Int) (ks : List Int) (fr to : Int) (hl : ks.length ≤ 17592186043904) (ih : ∀ k, k ∈ ks → Kid t T k) : Puts t 29 [aNode ⟨1, nm, num, ks, fr, to⟩] (allT T ks) := by
  refine Puts.of fun out hb => ?_
  try simp only [List.length_append, List.length_cons, List.length_nil] at hb
  refine .run ttab_ok func29 rfl (by kernel_rfl) (by simp [f29]) rfl ?_
  conv => whnf
  repeat' first
    | (intro h; exfalso; revert h; simp; done)
    | (intro _; conv => whnf)
    | (apply And.intro <;> (conv => whnf))
    | (refine AllRow.of rfl ?_; conv => whnf)
    | (apply AllRow.map; intro _ _; conv => whnf)
    | (refine CallG.lend call44 [0, 1] (by simp) (by simp) (by simp [isArr, pinsOf, prR]) (put_ok t [_] _ (by first | omega | (simp only [List.length_append, List.length_cons, List.length_nil]; omega) | (simp at *; omega))) ?_; rintro _ _ ⟨rfl, rfl⟩; refine ⟨by simp [prR], ?_⟩; conv => whnf)
    | (refine CallG.lend call44 [0, 1] (by simp) (by simp) (by simp [isArr, pinsOf, prR]) (put_ok t [_, _] _ (by first | omega | (simp only [List.length_append, List.length_cons, List.length_nil]; omega) | (simp at *; omega))) ?_; rintro _ _ ⟨rfl, rfl⟩; refine ⟨by simp [prR], ?_⟩; conv => whnf)
    | (refine CallG.lend call44 [0, 1] (by simp) (by simp) (by simp [isArr, pinsOf, prR]) (put_ok t [_, _, _] _ (by first | omega | (simp only [List.length_append, List.length_cons, List.length_nil]; omega) | (simp at *; omega))) ?_; rintro _ _ ⟨rfl, rfl⟩; refine ⟨by simp [prR], ?_⟩; conv => whnf)
    | exact ⟨rfl⟩
    | fail
  all_goals try (refine Side.mk ?_; first | omega | (simp; done))
  refine LoopG.of ttab_ok [0, 22, 23, 24] [0, 1] (fun (j : Nat) => ⟨[(0, .ptr 0 0 0), (22, .d (dInts ks)), (23, I ks.length), (24, I j)], prR t (out ++ [] ++ allT T (ks.take j))⟩) (fun j => j ≤ ks.length) (fun j => ks.length - j) 0 (by kernel_rfl) (by simp) posOf_two (by simp) ?hs (by omega) ?_
  case hs =>
    first
      | (simp only [keepSt, keepE, Al.look, envOf, lend, ren, renL, renR, posOf, List.map_cons, List.map_nil]; done)
      | (simp only [keepSt, keepE, Al.look, envOf, lend, ren, renL, renR, posOf, List.map_cons, List.map_nil]; simp [I, S, B, U8, dI, dS, dB, dU8, dInts, dStrs, dNodes, ren, renL, renR, posOf, Al.look, envOf, prR, allT])
      | (simp [keepSt, keepE, lend, I, S, B, U8, dI, dS, dB, dU8, dInts, dStrs, dNodes, ren, renL, renR, posOf, Al.look, envOf, prR, allT])
  intro j hj
  have hle := allT_le (T := T) (l := ks) (j + 1)
  by_cases hlt : j < ks.length
  · obtain ⟨k, hk⟩ : ∃ k, ks[j]? = some k := ⟨_, List.getElem?_eq_getElem hlt⟩
    have hst := allT_step (T := T) hk
    rw [hst, List.length_append] at hle
    have hrow : lat (List.map rI ks) (j : Int).toNat = some (rI k) := by rw [lat_eq, List.getElem?_map, Int.toNat_natCast, hk]; rfl
    conv => whnf
    repeat' first
      | (refine AllRow.of hrow ?_; conv => whnf)
      | (intro h; exfalso; revert h; simp; done)
      | (intro _; conv => whnf)
      | (apply And.intro <;> (conv => whnf))
      | (refine AllRow.of rfl ?_; conv => whnf)
      | (apply AllRow.map; intro _ _; conv => whnf)
      | (refine CallG.lend call20 [0, 1] (by simp) (by simp) (by simp [isArr, pinsOf, prR]) ((ih k (List.mem_of_getElem? hk)).put _ (by first | omega | (simp only [List.length_append, List.length_cons, List.length_nil]; omega) | (simp at *; omega))) ?_; rintro _ _ ⟨rfl, rfl⟩; refine ⟨by simp [prR], ?_⟩; conv => whnf)
      | exact ⟨rfl⟩
      | fail
    all_goals try (refine Side.mk ?_; first | omega | (simp only [List.length_map]; omega))
    all_goals try (exfalso; omega)
    refine RoundG.mk' (j + 1) (by simp) ?_ (by omega) (by omega)
    rw [hst]
    first
      | (simp only [keepSt, keepE, Al.look, envOf, lend, ren, renL, renR, posOf, List.map_cons, List.map_nil]; done)
      | (simp only [keepSt, keepE, Al.look, envOf, lend, ren, renL, renR, posOf, List.map_cons, List.map_nil]; simp [I, S, B, U8, dI, dS, dB, dU8, dInts, dStrs, dNodes, ren, renL, renR, posOf, Al.look, envOf, prR, List.append_assoc])
      | (simp [keepSt, keepE, lend, I, S, B, U8, dI, dS, dB, dU8, dInts, dStrs, dNodes, ren, renL, renR, posOf, Al.look, envOf, prR, List.append_assoc])
  · have hjl : j = ks.length := by omega
    subst hjl
    rw [List.take_length]
    conv => whnf
    repeat' first
      | (intro h; exfalso; revert h; simp; done)
      | (intro _; conv => whnf)
      | (apply And.intro <;> (conv => whnf))
      | (refine AllRow.of rfl ?_; conv => whnf)
      | (apply AllRow.map; intro _ _; conv => whnf)
      | (refine CallG.lend call44 [0, 1] (by simp) (by simp) (by simp [isArr, pinsOf, prR]) (put_ok t [_] _ (by first | omega | (simp only [List.length_append, List.length_cons, List.length_nil]; omega) | (simp at *; omega))) ?_; rintro _ _ ⟨rfl, rfl⟩; refine ⟨by simp [prR], ?_⟩; conv => whnf)
      | (refine CallG.lend call44 [0, 1] (by simp) (by simp) (by simp [isArr, pinsOf, prR]) (put_ok t [_, _] _ (by first | omega | (simp only [List.length_append, List.length_cons, List.length_nil]; omega) | (simp at *; omega))) ?_; rintro _ _ ⟨rfl, rfl⟩; refine ⟨by simp [prR], ?_⟩; conv => whnf)
      | (refine CallG.lend call44 [0, 1] (by simp) (by simp) (by simp [isArr, pinsOf, prR]) (put_ok t [_, _, _] _ (by first | omega | (simp only [List.length_append, List.length_cons, List.length_nil]; omega) | (simp at *; omega))) ?_; rintro _ _ ⟨rfl, rfl⟩; refine ⟨by simp [prR], ?_⟩; conv => whnf)
      | exact ⟨rfl⟩
      | fail
    all_goals try (refine Side.mk ?_; first | omega | (simp; done))
    all_goals try (exfalso; omega)
    all_goals exact FinPr.mk' (by simp) (by simp)
theorem stmt25_ok (t : List Al.Node) (T : Int → List Bytes) (nm : Bytes) (num : Int) (ks : List Int) (fr to : Int) (hl : ks.length ≤ 17592186043904) (ih : ∀ k, k ∈ ks → Kid t T k) : Puts t 33 [aNode ⟨25, nm, num, ks, fr, to⟩] ([114, 101, 116, 117, 114, 110] :: (allT T ks ++ [[59]])) := by
  refine Puts.of fun out hb => ?_
  try simp only [List.length_append, List.length_cons, List.length_nil] at hb
  refine .run ttab_ok func33 rfl (by kernel_rfl) (by simp [f33]) rfl ?_
  conv => whnf
  repeat' first
    | (intro h; exfalso; revert h; simp; done)
    | (intro _; conv => whnf)
    | (apply And.intro <;> (conv => whnf))
    | (refine AllRow.of rfl ?_; conv => whnf)
    | (apply AllRow.map; intro _ _; conv => whnf)
    | (refine CallG.lend call44 [0, 1] (by simp) (by simp) (by simp [isArr, pinsOf, prR]) (put_ok t [_] _ (by first | omega | (simp only [List.length_append, List.length_cons, List.length_nil]; omega) | (simp at *; omega))) ?_; rintro _ _ ⟨rfl, rfl⟩; refine ⟨by simp [prR], ?_⟩; conv => whnf)
    | (refine CallG.lend call44 [0, 1] (by simp) (by simp) (by simp [isArr, pinsOf, prR]) (put_ok t [_, _] _ (by first | omega | (simp only [List.length_append, List.length_cons, List.length_nil]; omega) | (simp at *; omega))) ?_; rintro _ _ ⟨rfl, rfl⟩; refine ⟨by simp [prR], ?_⟩; conv => whnf)
    | (refine CallG.lend call44 [0, 1] (by simp) (by simp) (by simp [isArr, pinsOf, prR]) (put_ok t [_, _, _] _ (by first | omega | (simp only [List.length_append, List.length_cons, List.length_nil]; omega) | (simp at *; omega))) ?_; rintro _ _ ⟨rfl, rfl⟩; refine ⟨by simp [prR], ?_⟩; conv => whnf)
    | exact ⟨rfl⟩
    | fail
  all_goals try (refine Side.mk ?_; first | omega | (simp; done))
  refine LoopG.of ttab_ok [0, 67, 68, 69] [0, 1] (fun (j : Nat) => ⟨[(0, .ptr 0 0 0), (67, .d (dInts ks)), (68, I ks.length), (69, I j)], prR t (out ++ [[114, 101, 116, 117, 114, 110]] ++ allT T (ks.take j))⟩) (fun j => j ≤ ks.length) (fun j => ks.length - j) 0 (by kernel_rfl) (by simp) posOf_two (by simp) ?hs (by omega) ?_
  case hs =>
    first
      | (simp only [keepSt, keepE, Al.look, envOf, lend, ren, renL, renR, posOf, List.map_cons, List.map_nil]; done)
      | (simp only [keepSt, keepE, Al.look, envOf, lend, ren, renL, renR, posOf, List.map_cons, List.map_nil]; simp [I, S, B, U8, dI, dS, dB, dU8, dInts, dStrs, dNodes, ren, renL, renR, posOf, Al.look, envOf, prR, allT])
      | (simp [keepSt, keepE, lend, I, S, B, U8, dI, dS, dB, dU8, dInts, dStrs, dNodes, ren, renL, renR, posOf, Al.look, envOf, prR, allT])
  intro j hj
  have hle := allT_le (T := T) (l := ks) (j + 1)
  by_cases hlt : j < ks.length
  · obtain ⟨k, hk⟩ : ∃ k, ks[j]? = some k := ⟨_, List.getElem?_eq_getElem hlt⟩
    have hst := allT_step (T := T) hk
    rw [hst, List.length_append] at hle
    have hrow : lat (List.map rI ks) (j : Int).toNat = some (rI k) := by rw [lat_eq, List.getElem?_map, Int.toNat_natCast, hk]; rfl
    conv => whnf
    repeat' first
      | (refine AllRow.of hrow ?_; conv => whnf)
      | (intro h; exfalso; revert h; simp; done)
      | (intro _; conv => whnf)
      | (apply And.intro <;> (conv => whnf))
      | (refine AllRow.of rfl ?_; conv => whnf)
      | (apply AllRow.map; intro _ _; conv => whnf)
      | (refine CallG.lend call20 [0, 1] (by simp) (by simp) (by simp [isArr, pinsOf, prR]) ((ih k (List.mem_of_getElem? hk)).put _ (by first | omega | (simp only [List.length_append, List.length_cons, List.length_nil]; omega) | (simp at *; omega))) ?_; rintro _ _ ⟨rfl, rfl⟩; refine ⟨by simp [prR], ?_⟩; conv => whnf)
      | exact ⟨rfl⟩
      | fail
    all_goals try (refine Side.mk ?_; first | omega | (simp only [List.length_map]; omega))
    all_goals try (exfalso; omega)
    refine RoundG.mk' (j + 1) (by simp) ?_ (by omega) (by omega)
    rw [hst]
    first
      | (simp only [keepSt, keepE, Al.look, envOf, lend, ren, renL, renR, posOf, List.map_cons, List.map_nil]; done)
      | (simp only [keepSt, keepE, Al.look, envOf, lend, ren, renL, renR, posOf, List.map_cons, List.map_nil]; simp [I, S, B, U8, dI, dS, dB, dU8, dInts, dStrs, dNodes, ren, renL, renR, posOf, Al.look, envOf, prR, List.append_assoc])
      | (simp [keepSt, keepE, lend, I, S, B, U8, dI, dS, dB, dU8, dInts, dStrs, dNodes, ren, renL, renR, posOf, Al.look, envOf, prR, List.append_assoc])
  · have hjl : j = ks.length := by omega
    subst hjl
    rw [List.take_length]
    conv => whnf
    repeat' first
      | (intro h; exfalso; revert h; simp; done)
      | (intro _; conv => whnf)
      | (apply And.intro <;> (conv => whnf))
      | (refine AllRow.of rfl ?_; conv => whnf)
      | (apply AllRow.map; intro _ _; conv => whnf)
      | (refine CallG.lend call44 [0, 1] (by simp) (by simp) (by simp [isArr, pinsOf, prR]) (put_ok t [_] _ (by first | omega | (simp only [List.length_append, List.length_cons, List.length_nil]; omega) | (simp at *; omega))) ?_; rintro _ _ ⟨rfl, rfl⟩; refine ⟨by simp [prR], ?_⟩; conv => whnf)
      | (refine CallG.lend call44 [0, 1] (by simp) (by simp) (by simp [isArr, pinsOf, prR]) (put_ok t [_, _] _ (by first | omega | (simp only [List.length_append, List.length_cons, List.length_nil]; omega) | (simp at *; omega))) ?_; rintro _ _ ⟨rfl, rfl⟩; refine ⟨by simp [prR], ?_⟩; conv => whnf)
      | (refine CallG.lend call44 [0, 1] (by simp) (by simp) (by simp [isArr, pinsOf, prR]) (put_ok t [_, _, _] _ (by first | omega | (simp only [List.length_append, List.length_cons, List.length_nil]; omega) | (simp at *; omega))) ?_; rintro _ _ ⟨rfl, rfl⟩; refine ⟨by simp [prR], ?_⟩; conv => whnf)
      | exact ⟨rfl⟩
      | fail
    all_goals try (refine Side.mk ?_; first | omega | (simp; done))
    all_goals try (exfalso; omega)
    all_goals exact FinPr.mk' (by simp) (by simp)
theorem typ10_ok (t : List Al.Node) (T : Int → List Bytes) (nm : Bytes) (num : Int) (ks : List Int) (fr to : Int) : Puts t 31 [aNode ⟨10, nm, num, ks, fr, to⟩] ([[105, 54, 52]]) := by
  refine Puts.of fun out hb => ?_
  try simp only [List.length_append, List.length_cons, List.length_nil] at hb
  refine .run ttab_ok func31 rfl (by kernel_rfl) (by simp [f31]) rfl ?_
  conv => whnf
  repeat' first
    | (intro h; exfalso; revert h; simp; done)
    | (intro _; conv => whnf)
    | (apply And.intro <;> (conv => whnf))
    | (refine AllRow.of rfl ?_; conv => whnf)
    | (apply AllRow.map; intro _ _; conv => whnf)
    | (refine CallG.lend call44 [0, 1] (by simp) (by simp) (by simp [isArr, pinsOf, prR]) (put_ok t [_] _ (by first | omega | (simp only [List.length_append, List.length_cons, List.length_nil]; omega) | (simp at *; omega))) ?_; rintro _ _ ⟨rfl, rfl⟩; refine ⟨by simp [prR], ?_⟩; conv => whnf)
    | (refine CallG.lend call44 [0, 1] (by simp) (by simp) (by simp [isArr, pinsOf, prR]) (put_ok t [_, _] _ (by first | omega | (simp only [List.length_append, List.length_cons, List.length_nil]; omega) | (simp at *; omega))) ?_; rintro _ _ ⟨rfl, rfl⟩; refine ⟨by simp [prR], ?_⟩; conv => whnf)
    | (refine CallG.lend call44 [0, 1] (by simp) (by simp) (by simp [isArr, pinsOf, prR]) (put_ok t [_, _, _] _ (by first | omega | (simp only [List.length_append, List.length_cons, List.length_nil]; omega) | (simp at *; omega))) ?_; rintro _ _ ⟨rfl, rfl⟩; refine ⟨by simp [prR], ?_⟩; conv => whnf)
    | exact ⟨rfl⟩
    | fail
  all_goals try (refine Side.mk ?_; first | omega | (simp; done) | (intro row hr; obtain ⟨_, _, rfl⟩ := List.mem_map.1 hr; rfl) | (simp only [List.length_map, List.length_cons, List.length_nil]; omega) | (dsimp only; simp only [List.length_map]; omega))
  all_goals try (exfalso; omega)
  all_goals try (exfalso; dsimp only at *; omega)
  all_goals exact FinPr.mk' (by simp) (by simp)
theorem typ11_ok (t : List Al.Node) (T : Int → List Bytes) (nm : Bytes) (num : Int) (ks : List Int) (fr to : Int) : Puts t 31 [aNode ⟨11, nm, num, ks, fr, to⟩] ([[98, 111, 111, 108]]) := by
  refine Puts.of fun out hb => ?_
  try simp only [List.length_append, List.length_cons, List.length_nil] at hb
  refine .run ttab_ok func31 rfl (by kernel_rfl) (by simp [f31]) rfl ?_
  conv => whnf
  repeat' first
    | (intro h; exfalso; revert h; simp; done)
    | (intro _; conv => whnf)
    | (apply And.intro <;> (conv => whnf))
    | (refine AllRow.of rfl ?_; conv => whnf)
    | (apply AllRow.map; intro _ _; conv => whnf)
    | (refine CallG.lend call44 [0, 1] (by simp) (by simp) (by simp [isArr, pinsOf, prR]) (put_ok t [_] _ (by first | omega | (simp only [List.length_append, List.length_cons, List.length_nil]; omega) | (simp at *; omega))) ?_; rintro _ _ ⟨rfl, rfl⟩; refine ⟨by simp [prR], ?_⟩; conv => whnf)
    | (refine CallG.lend call44 [0, 1] (by simp) (by simp) (by simp [isArr, pinsOf, prR]) (put_ok t [_, _] _ (by first | omega | (simp only [List.length_append, List.length_cons, List.length_nil]; omega) | (simp at *; omega))) ?_; rintro _ _ ⟨rfl, rfl⟩; refine ⟨by simp [prR], ?_⟩; conv => whnf)
    | (refine CallG.lend call44 [0, 1] (by simp) (by simp) (by simp [isArr, pinsOf, prR]) (put_ok t [_, _, _] _ (by first | omega | (simp only [List.length_append, List.length_cons, List.length_nil]; omega) | (simp at *; omega))) ?_; rintro _ _ ⟨rfl, rfl⟩; refine ⟨by simp [prR], ?_⟩; conv => whnf)
    | exact ⟨rfl⟩
    | fail
  all_goals try (refine Side.mk ?_; first | omega | (simp; done) | (intro row hr; obtain ⟨_, _, rfl⟩ := List.mem_map.1 hr; rfl) | (simp only [List.length_map, List.length_cons, List.length_nil]; omega) | (dsimp only; simp only [List.length_map]; omega))
  all_goals try (exfalso; omega)
  all_goals try (exfalso; dsimp only at *; omega)
  all_goals exact FinPr.mk' (by simp) (by simp)
theorem typ12_ok (t : List Al.Node) (T : Int → List Bytes) (nm : Bytes) (num : Int) (ks : List Int) (fr to : Int) : Puts t 31 [aNode ⟨12, nm, num, ks, fr, to⟩] ([[40], [41]]) := by
  refine Puts.of fun out hb => ?_
  try simp only [List.length_append, List.length_cons, List.length_nil] at hb
  refine .run ttab_ok func31 rfl (by kernel_rfl) (by simp [f31]) rfl ?_
  conv => whnf
  repeat' first
    | (intro h; exfalso; revert h; simp; done)
    | (intro _; conv => whnf)
    | (apply And.intro <;> (conv => whnf))
    | (refine AllRow.of rfl ?_; conv => whnf)
    | (apply AllRow.map; intro _ _; conv => whnf)
    | (refine CallG.lend call44 [0, 1] (by simp) (by simp) (by simp [isArr, pinsOf, prR]) (put_ok t [_] _ (by first | omega | (simp only [List.length_append, List.length_cons, List.length_nil]; omega) | (simp at *; omega))) ?_; rintro _ _ ⟨rfl, rfl⟩; refine ⟨by simp [prR], ?_⟩; conv => whnf)
    | (refine CallG.lend call44 [0, 1] (by simp) (by simp) (by simp [isArr, pinsOf, prR]) (put_ok t [_, _] _ (by first | omega | (simp only [List.length_append, List.length_cons, List.length_nil]; omega) | (simp at *; omega))) ?_; rintro _ _ ⟨rfl, rfl⟩; refine ⟨by simp [prR], ?_⟩; conv => whnf)
    | (refine CallG.lend call44 [0, 1] (by simp) (by simp) (by simp [isArr, pinsOf, prR]) (put_ok t [_, _, _] _ (by first | omega | (simp only [List.length_append, List.length_cons, List.length_nil]; omega) | (simp at *; omega))) ?_; rintro _ _ ⟨rfl, rfl⟩; refine ⟨by simp [prR], ?_⟩; conv => whnf)
    | exact ⟨rfl⟩
    | fail
  all_goals try (refine Side.mk ?_; first | omega | (simp; done) | (intro row hr; obtain ⟨_, _, rfl⟩ := List.mem_map.1 hr; rfl) | (simp only [List.length_map, List.length_cons, List.length_nil]; omega) | (dsimp only; simp only [List.length_map]; omega))
  all_goals try (exfalso; omega)
  all_goals try (exfalso; dsimp only at *; omega)
  all_goals exact FinPr.mk' (by simp) (by simp)
theorem typ13_ok (t : List Al.Node) (T : Int → List Bytes) (nm : Bytes) (num : Int) (ks : List Int) (fr to : Int) : Puts t 31 [aNode ⟨13, nm, num, ks, fr, to⟩] ([nm]) := by
  refine Puts.of fun out hb => ?_
  try simp only [List.length_append, List.length_cons, List.length_nil] at hb
  refine .run ttab_ok func31 rfl (by kernel_rfl) (by simp [f31]) rfl ?_
  conv => whnf
  repeat' first
    | (intro h; exfalso; revert h; simp; done)
    | (intro _; conv => whnf)
    | (apply And.intro <;> (conv => whnf))
    | (refine AllRow.of rfl ?_; conv => whnf)
    | (apply AllRow.map; intro _ _; conv => whnf)
    | (refine CallG.lend call44 [0, 1] (by simp) (by simp) (by simp [isArr, pinsOf, prR]) (put_ok t [_] _ (by first | omega | (simp only [List.length_append, List.length_cons, List.length_nil]; omega) | (simp at *; omega))) ?_; rintro _ _ ⟨rfl, rfl⟩; refine ⟨by simp [prR], ?_⟩; conv => whnf)
    | (refine CallG.lend call44 [0, 1] (by simp) (by simp) (by simp [isArr, pinsOf, prR]) (put_ok t [_, _] _ (by first | omega | (simp only [List.length_append, List.length_cons, List.length_nil]; omega) | (simp at *; omega))) ?_; rintro _ _ ⟨rfl, rfl⟩; refine ⟨by simp [prR], ?_⟩; conv => whnf)
    | (refine CallG.lend call44 [0, 1] (by simp) (by simp) (by simp [isArr, pinsOf, prR]) (put_ok t [_, _, _] _ (by first | omega | (simp only [List.length_append, List.length_cons, List.length_nil]; omega) | (simp at *; omega))) ?_; rintro _ _ ⟨rfl, rfl⟩; refine ⟨by simp [prR], ?_⟩; conv => whnf)
    | exact ⟨rfl⟩
    | fail
  all_goals try (refine Side.mk ?_; first | omega | (simp; done) | (intro row hr; obtain ⟨_, _, rfl⟩ := List.mem_map.1 hr; rfl) | (simp only [List.length_map, List.length_cons, List.length_nil]; omega) | (dsimp only; simp only [List.length_map]; omega))
  all_goals try (exfalso; omega)
  all_goals try (exfalso; dsimp only at *; omega)
  all_goals exact FinPr.mk' (by simp) (by simp)
theorem typ14_ok (t : List Al.Node) (T : Int → List Bytes) (nm : Bytes) (num : Int) (fr to : Int) (k : Int) (hk : Kid t T k) : Puts t 31 [aNode ⟨14, nm, num, [k], fr, to⟩] ([38] :: T k) := by
  refine Puts.of fun out hb => ?_
  try simp only [List.length_append, List.length_cons, List.length_nil] at hb
  refine .run ttab_ok func31 rfl (by kernel_rfl) (by simp [f31]) rfl ?_
  conv => whnf
  repeat' first
    | (intro h; exfalso; revert h; simp; done)
    | (intro _; conv => whnf)
    | (apply And.intro <;> (conv => whnf))
    | (refine AllRow.of rfl ?_; conv => whnf)
    | (apply AllRow.map; intro _ _; conv => whnf)
    | (refine CallG.lend call44 [0, 1] (by simp) (by simp) (by simp [isArr, pinsOf, prR]) (put_ok t [_] _ (by first | omega | (simp only [List.length_append, List.length_cons, List.length_nil]; omega) | (simp at *; omega))) ?_; rintro _ _ ⟨rfl, rfl⟩; refine ⟨by simp [prR], ?_⟩; conv => whnf)
    | (refine CallG.lend call44 [0, 1] (by simp) (by simp) (by simp [isArr, pinsOf, prR]) (put_ok t [_, _] _ (by first | omega | (simp only [List.length_append, List.length_cons, List.length_nil]; omega) | (simp at *; omega))) ?_; rintro _ _ ⟨rfl, rfl⟩; refine ⟨by simp [prR], ?_⟩; conv => whnf)
    | (refine CallG.lend call44 [0, 1] (by simp) (by simp) (by simp [isArr, pinsOf, prR]) (put_ok t [_, _, _] _ (by first | omega | (simp only [List.length_append, List.length_cons, List.length_nil]; omega) | (simp at *; omega))) ?_; rintro _ _ ⟨rfl, rfl⟩; refine ⟨by simp [prR], ?_⟩; conv => whnf)
    | (refine CallG.lend call20 [0, 1] (by simp) (by simp) (by simp [isArr, pinsOf, prR]) (hk.put _ (by first | omega | (simp only [List.length_append, List.length_cons, List.length_nil]; omega) | (simp at *; omega))) ?_; rintro _ _ ⟨rfl, rfl⟩; refine ⟨by simp [prR], ?_⟩; conv => whnf)
    | exact ⟨rfl⟩
    | fail
  all_goals try (refine Side.mk ?_; first | omega | (simp; done) | (intro row hr; obtain ⟨_, _, rfl⟩ := List.mem_map.1 hr; rfl) | (simp only [List.length_map, List.length_cons, List.length_nil]; omega) | (dsimp only; simp only [List.length_map]; omega))
  all_goals try (exfalso; omega)
  all_goals try (exfalso; dsimp only at *; omega)
  all_goals exact FinPr.mk' (by simp) (by simp)
theorem typ15_ok (t : List Al.Node) (T : Int → List Bytes) (nm : Bytes) (num : Int) (fr to : Int) (k : Int) (hk : Kid t T k) : Puts t 31 [aNode ⟨15, nm, num, [k], fr, to⟩] ([38] :: [109, 117, 116] :: T k) := by
  refine Puts.of fun out hb => ?_
  try simp only [List.length_append, List.length_cons, List.length_nil] at hb
  refine .run ttab_ok func31 rfl (by kernel_rfl) (by simp [f31]) rfl ?_
  conv => whnf
  repeat' first
    | (intro h; exfalso; revert h; simp; done)
    | (intro _; conv => whnf)
    | (apply And.intro <;> (conv => whnf))
    | (refine AllRow.of rfl ?_; conv => whnf)
    | (apply AllRow.map; intro _ _; conv => whnf)
    | (refine CallG.lend call44 [0, 1] (by simp) (by simp) (by simp [isArr, pinsOf, prR]) (put_ok t [_] _ (by first | omega | (simp only [List.length_append, List.length_cons, List.length_nil]; omega) | (simp at *; omega))) ?_; rintro _ _ ⟨rfl, rfl⟩; refine ⟨by simp [prR], ?_⟩; conv => whnf)
    | (refine CallG.lend call44 [0, 1] (by simp) (by simp) (by simp [isArr, pinsOf, prR]) (put_ok t [_, _] _ (by first | omega | (simp only [List.length_append, List.length_cons, List.length_nil]; omega) | (simp at *; omega))) ?_; rintro _ _ ⟨rfl, rfl⟩; refine ⟨by simp [prR], ?_⟩; conv => whnf)
    | (refine CallG.lend call44 [0, 1] (by simp) (by simp) (by simp [isArr, pinsOf, prR]) (put_ok t [_, _, _] _ (by first | omega | (simp only [List.length_append, List.length_cons, List.length_nil]; omega) | (simp at *; omega))) ?_; rintro _ _ ⟨rfl, rfl⟩; refine ⟨by simp [prR], ?_⟩; conv => whnf)
    | (refine CallG.lend call20 [0, 1] (by simp) (by simp) (by simp [isArr, pinsOf, prR]) (hk.put _ (by first | omega | (simp only [List.length_append, List.length_cons, List.length_nil]; omega) | (simp at *; omega))) ?_; rintro _ _ ⟨rfl, rfl⟩; refine ⟨by simp [prR], ?_⟩; conv => whnf)
    | exact ⟨rfl⟩
    | fail
  all_goals try (refine Side.mk ?_; first | omega | (simp; done) | (intro row hr; obtain ⟨_, _, rfl⟩ := List.mem_map.1 hr; rfl) | (simp only [List.length_map, List.length_cons, List.length_nil]; omega) | (dsimp only; simp only [List.length_map]; omega))
  all_goals try (exfalso; omega)
  all_goals try (exfalso; dsimp only at *; omega)
  all_goals exact FinPr.mk' (by simp) (by simp)
theorem typ16_ok (t : List Al.Node) (T : Int → List Bytes) (nm : Bytes) (num : Int) (fr to : Int) (k : Int) (hk : Kid t T k) : Puts t 31 [aNode ⟨16, nm, num, [k], fr, to⟩] ([66, 111, 120] :: [60] :: (T k ++ [[62]])) := by
  refine Puts.of fun out hb => ?_
  try simp only [List.length_append, List.length_cons, List.length_nil] at hb
  refine .run ttab_ok func31 rfl (by kernel_rfl) (by simp [f31]) rfl ?_
  conv => whnf
  repeat' first
    | (intro h; exfalso; revert h; simp; done)
    | (intro _; conv => whnf)
    | (apply And.intro <;> (conv => whnf))
    | (refine AllRow.of rfl ?_; conv => whnf)
    | (apply AllRow.map; intro _ _; conv => whnf)
    | (refine CallG.lend call44 [0, 1] (by simp) (by simp) (by simp [isArr, pinsOf, prR]) (put_ok t [_] _ (by first | omega | (simp only [List.length_append, List.length_cons, List.length_nil]; omega) | (simp at *; omega))) ?_; rintro _ _ ⟨rfl, rfl⟩; refine ⟨by simp [prR], ?_⟩; conv => whnf)
    | (refine CallG.lend call44 [0, 1] (by simp) (by simp) (by simp [isArr, pinsOf, prR]) (put_ok t [_, _] _ (by first | omega | (simp only [List.length_append, List.length_cons, List.length_nil]; omega) | (simp at *; omega))) ?_; rintro _ _ ⟨rfl, rfl⟩; refine ⟨by simp [prR], ?_⟩; conv => whnf)
    | (refine CallG.lend call44 [0, 1] (by simp) (by simp) (by simp [isArr, pinsOf, prR]) (put_ok t [_, _, _] _ (by first | omega | (simp only [List.length_append, List.length_cons, List.length_nil]; omega) | (simp at *; omega))) ?_; rintro _ _ ⟨rfl, rfl⟩; refine ⟨by simp [prR], ?_⟩; conv => whnf)
    | (refine CallG.lend call20 [0, 1] (by simp) (by simp) (by simp [isArr, pinsOf, prR]) (hk.put _ (by first | omega | (simp only [List.length_append, List.length_cons, List.length_nil]; omega) | (simp at *; omega))) ?_; rintro _ _ ⟨rfl, rfl⟩; refine ⟨by simp [prR], ?_⟩; conv => whnf)
    | exact ⟨rfl⟩
    | fail
  all_goals try (refine Side.mk ?_; first | omega | (simp; done) | (intro row hr; obtain ⟨_, _, rfl⟩ := List.mem_map.1 hr; rfl) | (simp only [List.length_map, List.length_cons, List.length_nil]; omega) | (dsimp only; simp only [List.length_map]; omega))
  all_goals try (exfalso; omega)
  all_goals try (exfalso; dsimp only at *; omega)
  all_goals exact FinPr.mk' (by simp) (by simp)
theorem item3_ok (t : List Al.Node) (T : Int → List Bytes) (nm : Bytes) (num : Int) (ks : List Int) (fr to : Int) (hl : ks.length ≤ 17592186043904) (ih : ∀ k, k ∈ ks → Kid t T k) : Puts t 29 [aNode ⟨3, nm, num, ks, fr, to⟩] ([115, 116, 114, 117, 99, 116] :: nm :: [123] :: (listT T ks ++ [[125]])) := by
  refine Puts.of fun out hb => ?_
  try simp only [List.length_append, List.length_cons, List.length_nil] at hb
  refine .run ttab_ok func29 rfl (by kernel_rfl) (by simp [f29]) rfl ?_
  conv => whnf
  repeat' first
    | (refine FindG.mk ?_; conv => whnf)
    | (intro h; exfalso; revert h; simp; done)
    | (intro _; conv => whnf)
    | (apply And.intro <;> (conv => whnf))
    | (refine AllRow.of rfl ?_; conv => whnf)
    | (apply AllRow.map; intro _ _; conv => whnf)
    | (refine CallG.lend call44 [0, 1] (by simp) (by simp) (by simp [isArr, pinsOf, prR]) (put_ok t [_] _ (by first | omega | (simp only [List.length_append, List.length_cons, List.length_nil]; omega) | (simp at *; omega))) ?_; rintro _ _ ⟨rfl, rfl⟩; refine ⟨by simp [prR], ?_⟩; conv => whnf)
    | (refine CallG.lend call44 [0, 1] (by simp) (by simp) (by simp [isArr, pinsOf, prR]) (put_ok t [_, _] _ (by first | omega | (simp only [List.length_append, List.length_cons, List.length_nil]; omega) | (simp at *; omega))) ?_; rintro _ _ ⟨rfl, rfl⟩; refine ⟨by simp [prR], ?_⟩; conv => whnf)
    | (refine CallG.lend call44 [0, 1] (by simp) (by simp) (by simp [isArr, pinsOf, prR]) (put_ok t [_, _, _] _ (by first | omega | (simp only [List.length_append, List.length_cons, List.length_nil]; omega) | (simp at *; omega))) ?_; rintro _ _ ⟨rfl, rfl⟩; refine ⟨by simp [prR], ?_⟩; conv => whnf)
    | (refine CallG.lend call46 [0, 1] (by simp) (by simp) (by simp [isArr, pinsOf, prR]) (list_ok t T ks (by omega) ih _ (by first | omega | (simp only [List.length_append, List.length_cons, List.length_nil]; omega) | (simp at *; omega))) ?_; rintro _ _ ⟨rfl, rfl⟩; refine ⟨by simp [prR], ?_⟩; conv => whnf)
    | exact ⟨rfl⟩
    | fail
  all_goals try (refine Side.mk ?_; first | omega | (simp; done) | (intro row hr; obtain ⟨_, _, rfl⟩ := List.mem_map.1 hr; rfl) | (simp only [List.length_map, List.length_cons, List.length_nil]; omega) | (dsimp only; simp only [List.length_map]; omega))
  all_goals try (exfalso; omega)
  all_goals try (exfalso; dsimp only at *; omega)
  all_goals exact FinPr.mk' (by simp) (by simp)
theorem item4_ok (t : List Al.Node) (T : Int → List Bytes) (nm : Bytes) (num : Int) (ks : List Int) (fr to : Int) (hl : ks.length ≤ 17592186043904) (ih : ∀ k, k ∈ ks → Kid t T k) : Puts t 29 [aNode ⟨4, nm, num, ks, fr, to⟩] ([101, 110, 117, 109] :: nm :: [123] :: (listT T ks ++ [[125]])) := by
  refine Puts.of fun out hb => ?_
  try simp only [List.length_append, List.length_cons, List.length_nil] at hb
  refine .run ttab_ok func29 rfl (by kernel_rfl) (by simp [f29]) rfl ?_
  conv => whnf
  repeat' first
    | (refine FindG.mk ?_; conv => whnf)
    | (intro h; exfalso; revert h; simp; done)
    | (intro _; conv => whnf)
    | (apply And.intro <;> (conv => whnf))
    | (refine AllRow.of rfl ?_; conv => whnf)
    | (apply AllRow.map; intro _ _; conv => whnf)
    | (refine CallG.lend call44 [0, 1] (by simp) (by simp) (by simp [isArr, pinsOf, prR]) (put_ok t [_] _ (by first | omega | (simp only [List.length_append, List.length_cons, List.length_nil]; omega) | (simp at *; omega))) ?_; rintro _ _ ⟨rfl, rfl⟩; refine ⟨by simp [prR], ?_⟩; conv => whnf)
    | (refine CallG.lend call44 [0, 1] (by simp) (by simp) (by simp [isArr, pinsOf, prR]) (put_ok t [_, _] _ (by first | omega | (simp only [List.length_append, List.length_cons, List.length_nil]; omega) | (simp at *; omega))) ?_; rintro _ _ ⟨rfl, rfl⟩; refine ⟨by simp [prR], ?_⟩; conv => whnf)
    | (refine CallG.lend call44 [0, 1] (by simp) (by simp) (by simp [isArr, pinsOf, prR]) (put_ok t [_, _, _] _ (by first | omega | (simp only [List.length_append, List.length_cons, List.length_nil]; omega) | (simp at *; omega))) ?_; rintro _ _ ⟨rfl, rfl⟩; refine ⟨by simp [prR], ?_⟩; conv => whnf)
    | (refine CallG.lend call46 [0, 1] (by simp) (by simp) (by simp [isArr, pinsOf, prR]) (list_ok t T ks (by omega) ih _ (by first | omega | (simp only [List.length_append, List.length_cons, List.length_nil]; omega) | (simp at *; omega))) ?_; rintro _ _ ⟨rfl, rfl⟩; refine ⟨by simp [prR], ?_⟩; conv => whnf)
    | exact ⟨rfl⟩
    | fail
  all_goals try (refine Side.mk ?_; first | omega | (simp; done) | (intro row hr; obtain ⟨_, _, rfl⟩ := List.mem_map.1 hr; rfl) | (simp only [List.length_map, List.length_cons, List.length_nil]; omega) | (dsimp only; simp only [List.length_map]; omega))
  all_goals try (exfalso; omega)
  all_goals try (exfalso; dsimp only at *; omega)
  all_goals exact FinPr.mk' (by simp) (by simp)
theorem item6_ok (t : List Al.Node) (T : Int → List Bytes) (nm : Bytes) (num : Int) (ks : List Int) (fr to : Int) (ih : ∀ k, k ∈ ks → Kid t T k) : Puts t 29 [aNode ⟨6, nm, num, ks, fr, to⟩] (nm :: perhapsT T ks) := by
  refine Puts.of fun out hb => ?_
  try simp only [List.length_append, List.length_cons, List.length_nil] at hb
  refine .run ttab_ok func29 rfl (by kernel_rfl) (by simp [f29]) rfl ?_
  conv => whnf
  repeat' first
    | (intro h; exfalso; revert h; simp; done)
    | (intro _; conv => whnf)
    | (apply And.intro <;> (conv => whnf))
    | (refine AllRow.of rfl ?_; conv => whnf)
    | (apply AllRow.map; intro _ _; conv => whnf)
    | (refine CallG.lend call44 [0, 1] (by simp) (by simp) (by simp [isArr, pinsOf, prR]) (put_ok t [_] _ (by first | omega | (simp only [List.length_append, List.length_cons, List.length_nil]; omega) | (simp at *; omega))) ?_; rintro _ _ ⟨rfl, rfl⟩; refine ⟨by simp [prR], ?_⟩; conv => whnf)
    | (refine CallG.lend call44 [0, 1] (by simp) (by simp) (by simp [isArr, pinsOf, prR]) (put_ok t [_, _] _ (by first | omega | (simp only [List.length_append, List.length_cons, List.length_nil]; omega) | (simp at *; omega))) ?_; rintro _ _ ⟨rfl, rfl⟩; refine ⟨by simp [prR], ?_⟩; conv => whnf)
    | (refine CallG.lend call44 [0, 1] (by simp) (by simp) (by simp [isArr, pinsOf, prR]) (put_ok t [_, _, _] _ (by first | omega | (simp only [List.length_append, List.length_cons, List.length_nil]; omega) | (simp at *; omega))) ?_; rintro _ _ ⟨rfl, rfl⟩; refine ⟨by simp [prR], ?_⟩; conv => whnf)
    | (refine CallG.lend call47 [0, 1] (by simp) (by simp) (by simp [isArr, pinsOf, prR]) (perhaps_ok t T ks (fun k hk => (ih k hk).put) _ (by first | omega | (simp only [List.length_append, List.length_cons, List.length_nil]; omega) | (simp at *; omega))) ?_; rintro _ _ ⟨rfl, rfl⟩; refine ⟨by simp [prR], ?_⟩; conv => whnf)
    | exact ⟨rfl⟩
    | fail
  all_goals try (refine Side.mk ?_; first | omega | (simp; done) | (intro row hr; obtain ⟨_, _, rfl⟩ := List.mem_map.1 hr; rfl) | (simp only [List.length_map, List.length_cons, List.length_nil]; omega) | (dsimp only; simp only [List.length_map]; omega))
  all_goals try (exfalso; omega)
  all_goals try (exfalso; dsimp only at *; omega)
  all_goals exact FinPr.mk' (by simp) (by simp)
theorem item5_ok (t : List Al.Node) (T : Int → List Bytes) (nm : Bytes) (num : Int) (fr to : Int) (k : Int) (hk : Kid t T k) : Puts t 29 [aNode ⟨5, nm, num, [k], fr, to⟩] (nm :: [58] :: T k) := by
  refine Puts.of fun out hb => ?_
  try simp only [List.length_append, List.length_cons, List.length_nil] at hb
  refine .run ttab_ok func29 rfl (by kernel_rfl) (by simp [f29]) rfl ?_
  conv => whnf
  repeat' first
    | (intro h; exfalso; revert h; simp; done)
    | (intro _; conv => whnf)
    | (apply And.intro <;> (conv => whnf))
    | (refine AllRow.of rfl ?_; conv => whnf)
    | (apply AllRow.map; intro _ _; conv => whnf)
    | (refine CallG.lend call44 [0, 1] (by simp) (by simp) (by simp [isArr, pinsOf, prR]) (put_ok t [_] _ (by first | omega | (simp only [List.length_append, List.length_cons, List.length_nil]; omega) | (simp at *; omega))) ?_; rintro _ _ ⟨rfl, rfl⟩; refine ⟨by simp [prR], ?_⟩; conv => whnf)
    | (refine CallG.lend call44 [0, 1] (by simp) (by simp) (by simp [isArr, pinsOf, prR]) (put_ok t [_, _] _ (by first | omega | (simp only [List.length_append, List.length_cons, List.length_nil]; omega) | (simp at *; omega))) ?_; rintro _ _ ⟨rfl, rfl⟩; refine ⟨by simp [prR], ?_⟩; conv => whnf)
    | (refine CallG.lend call44 [0, 1] (by simp) (by simp) (by simp [isArr, pinsOf, prR]) (put_ok t [_, _, _] _ (by first | omega | (simp only [List.length_append, List.length_cons, List.length_nil]; omega) | (simp at *; omega))) ?_; rintro _ _ ⟨rfl, rfl⟩; refine ⟨by simp [prR], ?_⟩; conv => whnf)
    | (refine CallG.lend call20 [0, 1] (by simp) (by simp) (by simp [isArr, pinsOf, prR]) (hk.put _ (by first | omega | (simp only [List.length_append, List.length_cons, List.length_nil]; omega) | (simp at *; omega))) ?_; rintro _ _ ⟨rfl, rfl⟩; refine ⟨by simp [prR], ?_⟩; conv => whnf)
    | exact ⟨rfl⟩
    | fail
  all_goals try (refine Side.mk ?_; first | omega | (simp; done) | (intro row hr; obtain ⟨_, _, rfl⟩ := List.mem_map.1 hr; rfl) | (simp only [List.length_map, List.length_cons, List.length_nil]; omega) | (dsimp only; simp only [List.length_map]; omega))
  all_goals try (exfalso; omega)
  all_goals try (exfalso; dsimp only at *; omega)
  all_goals exact FinPr.mk' (by simp) (by simp)
theorem item7a_ok (t : List Al.Node) (T : Int → List Bytes) (nm : Bytes) (fr to : Int) (k : Int) (hk : Kid t T k) : Puts t 29 [aNode ⟨7, nm, 1, [k], fr, to⟩] ([109, 117, 116] :: nm :: [58] :: T k) := by
  refine Puts.of fun out hb => ?_
  try simp only [List.length_append, List.length_cons, List.length_nil] at hb
  refine .run ttab_ok func29 rfl (by kernel_rfl) (by simp [f29]) rfl ?_
  conv => whnf
  repeat' first
    | (intro h; exfalso; revert h; simp; done)
    | (intro _; conv => whnf)
    | (apply And.intro <;> (conv => whnf))
    | (refine AllRow.of rfl ?_; conv => whnf)
    | (apply AllRow.map; intro _ _; conv => whnf)
    | (refine CallG.lend call44 [0, 1] (by simp) (by simp) (by simp [isArr, pinsOf, prR]) (put_ok t [_] _ (by first | omega | (simp only [List.length_append, List.length_cons, List.length_nil]; omega) | (simp at *; omega))) ?_; rintro _ _ ⟨rfl, rfl⟩; refine ⟨by simp [prR], ?_⟩; conv => whnf)
    | (refine CallG.lend call44 [0, 1] (by simp) (by simp) (by simp [isArr, pinsOf, prR]) (put_ok t [_, _] _ (by first | omega | (simp only [List.length_append, List.length_cons, List.length_nil]; omega) | (simp at *; omega))) ?_; rintro _ _ ⟨rfl, rfl⟩; refine ⟨by simp [prR], ?_⟩; conv => whnf)
    | (refine CallG.lend call44 [0, 1] (by simp) (by simp) (by simp [isArr, pinsOf, prR]) (put_ok t [_, _, _] _ (by first | omega | (simp only [List.length_append, List.length_cons, List.length_nil]; omega) | (simp at *; omega))) ?_; rintro _ _ ⟨rfl, rfl⟩; refine ⟨by simp [prR], ?_⟩; conv => whnf)
    | (refine CallG.lend call20 [0, 1] (by simp) (by simp) (by simp [isArr, pinsOf, prR]) (hk.put _ (by first | omega | (simp only [List.length_append, List.length_cons, List.length_nil]; omega) | (simp at *; omega))) ?_; rintro _ _ ⟨rfl, rfl⟩; refine ⟨by simp [prR], ?_⟩; conv => whnf)
    | exact ⟨rfl⟩
    | fail
  all_goals try (refine Side.mk ?_; first | omega | (simp; done) | (intro row hr; obtain ⟨_, _, rfl⟩ := List.mem_map.1 hr; rfl) | (simp only [List.length_map, List.length_cons, List.length_nil]; omega) | (dsimp only; simp only [List.length_map]; omega))
  all_goals try (exfalso; omega)
  all_goals try (exfalso; dsimp only at *; omega)
  all_goals exact FinPr.mk' (by simp) (by simp)
theorem item7b_ok (t : List Al.Node) (T : Int → List Bytes) (nm : Bytes) (num : Int) (fr to : Int) (hnum : num ≠ 1) (k : Int) (hk : Kid t T k) : Puts t 29 [aNode ⟨7, nm, num, [k], fr, to⟩] (nm :: [58] :: T k) := by
  refine Puts.of fun out hb => ?_
  try simp only [List.length_append, List.length_cons, List.length_nil] at hb
  refine .run ttab_ok func29 rfl (by kernel_rfl) (by simp [f29]) rfl ?_
  conv => whnf
  repeat' first
    | (intro h; exfalso; revert h; simp; done)
    | (intro _; conv => whnf)
    | (apply And.intro <;> (conv => whnf))
    | (refine AllRow.of rfl ?_; conv => whnf)
    | (apply AllRow.map; intro _ _; conv => whnf)
    | (refine CallG.lend call44 [0, 1] (by simp) (by simp) (by simp [isArr, pinsOf, prR]) (put_ok t [_] _ (by first | omega | (simp only [List.length_append, List.length_cons, List.length_nil]; omega) | (simp at *; omega))) ?_; rintro _ _ ⟨rfl, rfl⟩; refine ⟨by simp [prR], ?_⟩; conv => whnf)
    | (refine CallG.lend call44 [0, 1] (by simp) (by simp) (by simp [isArr, pinsOf, prR]) (put_ok t [_, _] _ (by first | omega | (simp only [List.length_append, List.length_cons, List.length_nil]; omega) | (simp at *; omega))) ?_; rintro _ _ ⟨rfl, rfl⟩; refine ⟨by simp [prR], ?_⟩; conv => whnf)
    | (refine CallG.lend call44 [0, 1] (by simp) (by simp) (by simp [isArr, pinsOf, prR]) (put_ok t [_, _, _] _ (by first | omega | (simp only [List.length_append, List.length_cons, List.length_nil]; omega) | (simp at *; omega))) ?_; rintro _ _ ⟨rfl, rfl⟩; refine ⟨by simp [prR], ?_⟩; conv => whnf)
    | (refine CallG.lend call20 [0, 1] (by simp) (by simp) (by simp [isArr, pinsOf, prR]) (hk.put _ (by first | omega | (simp only [List.length_append, List.length_cons, List.length_nil]; omega) | (simp at *; omega))) ?_; rintro _ _ ⟨rfl, rfl⟩; refine ⟨by simp [prR], ?_⟩; conv => whnf)
    | exact ⟨rfl⟩
    | fail
  all_goals try (exfalso; first | (rename_i hq; exact hnum hq) | (rename_i hq _; exact hnum hq) | (rename_i hq _ _; exact hnum hq))
  all_goals try (refine Side.mk ?_; first | omega | (simp; done) | (intro row hr; obtain ⟨_, _, rfl⟩ := List.mem_map.1 hr; rfl) | (simp only [List.length_map, List.length_cons, List.length_nil]; omega) | (dsimp only; simp only [List.length_map]; omega))
  all_goals try (exfalso; omega)
  all_goals try (exfalso; dsimp only at *; omega)
  all_goals exact FinPr.mk' (by simp) (by simp)
theorem item2_ok (t : List Al.Node) (T : Int → List Bytes) (nm : Bytes) (num : Int) (ks : List Int) (fr to : Int) (ts : List Bytes) (hfn : Puts t 45 [aNode ⟨2, nm, num, ks, fr, to⟩] ts) : Puts t 29 [aNode ⟨2, nm, num, ks, fr, to⟩] (ts) := by
  refine Puts.of fun out hb => ?_
  try simp only [List.length_append, List.length_cons, List.length_nil] at hb
  refine .run ttab_ok func29 rfl (by kernel_rfl) (by simp [f29]) rfl ?_
  conv => whnf
  repeat' first
    | (intro h; exfalso; revert h; simp; done)
    | (intro _; conv => whnf)
    | (apply And.intro <;> (conv => whnf))
    | (refine AllRow.of rfl ?_; conv => whnf)
    | (apply AllRow.map; intro _ _; conv => whnf)
    | (refine CallG.lend call44 [0, 1] (by simp) (by simp) (by simp [isArr, pinsOf, prR]) (put_ok t [_] _ (by first | omega | (simp only [List.length_append, List.length_cons, List.length_nil]; omega) | (simp at *; omega))) ?_; rintro _ _ ⟨rfl, rfl⟩; refine ⟨by simp [prR], ?_⟩; conv => whnf)
    | (refine CallG.lend call44 [0, 1] (by simp) (by simp) (by simp [isArr, pinsOf, prR]) (put_ok t [_, _] _ (by first | omega | (simp only [List.length_append, List.length_cons, List.length_nil]; omega) | (simp at *; omega))) ?_; rintro _ _ ⟨rfl, rfl⟩; refine ⟨by simp [prR], ?_⟩; conv => whnf)
    | (refine CallG.lend call44 [0, 1] (by simp) (by simp) (by simp [isArr, pinsOf, prR]) (put_ok t [_, _, _] _ (by first | omega | (simp only [List.length_append, List.length_cons, List.length_nil]; omega) | (simp at *; omega))) ?_; rintro _ _ ⟨rfl, rfl⟩; refine ⟨by simp [prR], ?_⟩; conv => whnf)
    | (refine CallG.lend call45 [0, 1] (by simp) (by simp) (by simp [isArr, pinsOf, prR]) (hfn _ (by first | omega | (simp only [List.length_append, List.length_cons, List.length_nil]; omega) | (simp at *; omega))) ?_; rintro _ _ ⟨rfl, rfl⟩; refine ⟨by simp [prR], ?_⟩; conv => whnf)
    | exact ⟨rfl⟩
    | fail
  all_goals try (refine Side.mk ?_; first | omega | (simp; done) | (intro row hr; obtain ⟨_, _, rfl⟩ := List.mem_map.1 hr; rfl) | (simp only [List.length_map, List.length_cons, List.length_nil]; omega) | (dsimp only; simp only [List.length_map]; omega))
  all_goals try (exfalso; omega)
  all_goals try (exfalso; dsimp only at *; omega)
  all_goals exact FinPr.mk' (by simp) (by simp)
theorem leta1_ok (t : List Al.Node) (T : Int → List Bytes) (nm : Bytes) (fr to : Int) (k : Int) (hk : Kid t T k) : Puts t 48 [aNode ⟨21, nm, 1, [k], fr, to⟩] ([108, 101, 116] :: [109, 117, 116] :: nm :: [61] :: (T k ++ [[59]])) := by
  refine Puts.of fun out hb => ?_
  try simp only [List.length_append, List.length_cons, List.length_nil] at hb
  refine .run ttab_ok func48 rfl (by kernel_rfl) (by simp [f48]) rfl ?_
  conv => whnf
  repeat' first
    | (intro h; exfalso; revert h; simp; done)
    | (intro _; conv => whnf)
    | (apply And.intro <;> (conv => whnf))
    | (refine AllRow.of rfl ?_; conv => whnf)
    | (apply AllRow.map; intro _ _; conv => whnf)
    | (refine CallG.lend call44 [0, 1] (by simp) (by simp) (by simp [isArr, pinsOf, prR]) (put_ok t [_] _ (by first | omega | (simp only [List.length_append, List.length_cons, List.length_nil]; omega) | (simp at *; omega))) ?_; rintro _ _ ⟨rfl, rfl⟩; refine ⟨by simp [prR], ?_⟩; conv => whnf)
    | (refine CallG.lend call44 [0, 1] (by simp) (by simp) (by simp [isArr, pinsOf, prR]) (put_ok t [_, _] _ (by first | omega | (simp only [List.length_append, List.length_cons, List.length_nil]; omega) | (simp at *; omega))) ?_; rintro _ _ ⟨rfl, rfl⟩; refine ⟨by simp [prR], ?_⟩; conv => whnf)
    | (refine CallG.lend call44 [0, 1] (by simp) (by simp) (by simp [isArr, pinsOf, prR]) (put_ok t [_, _, _] _ (by first | omega | (simp only [List.length_append, List.length_cons, List.length_nil]; omega) | (simp at *; omega))) ?_; rintro _ _ ⟨rfl, rfl⟩; refine ⟨by simp [prR], ?_⟩; conv => whnf)
    | (refine CallG.lend call20 [0, 1] (by simp) (by simp) (by simp [isArr, pinsOf, prR]) (hk.put _ (by first | omega | (simp only [List.length_append, List.length_cons, List.length_nil]; omega) | (simp at *; omega))) ?_; rintro _ _ ⟨rfl, rfl⟩; refine ⟨by simp [prR], ?_⟩; conv => whnf)
    | exact ⟨rfl⟩
    | fail
  all_goals try (refine Side.mk ?_; first | omega | (simp; done) | (intro row hr; obtain ⟨_, _, rfl⟩ := List.mem_map.1 hr; rfl) | (simp only [List.length_map, List.length_cons, List.length_nil]; omega) | (dsimp only; simp only [List.length_map]; omega))
  all_goals try (exfalso; omega)
  all_goals try (exfalso; dsimp only at *; omega)
  all_goals exact FinPr.mk' (by simp) (by simp)
theorem leta0_ok (t : List Al.Node) (T : Int → List Bytes) (nm : Bytes) (num : Int) (fr to : Int) (hnum : num ≠ 1) (k : Int) (hk : Kid t T k) : Puts t 48 [aNode ⟨21, nm, num, [k], fr, to⟩] ([108, 101, 116] :: nm :: [61] :: (T k ++ [[59]])) := by
  refine Puts.of fun out hb => ?_
  try simp only [List.length_append, List.length_cons, List.length_nil] at hb
  refine .run ttab_ok func48 rfl (by kernel_rfl) (by simp [f48]) rfl ?_
  conv => whnf
  repeat' first
    | (intro h; exfalso; revert h; simp; done)
    | (intro _; conv => whnf)
    | (apply And.intro <;> (conv => whnf))
    | (refine AllRow.of rfl ?_; conv => whnf)
    | (apply AllRow.map; intro _ _; conv => whnf)
    | (refine CallG.lend call44 [0, 1] (by simp) (by simp) (by simp [isArr, pinsOf, prR]) (put_ok t [_] _ (by first | omega | (simp only [List.length_append, List.length_cons, List.length_nil]; omega) | (simp at *; omega))) ?_; rintro _ _ ⟨rfl, rfl⟩; refine ⟨by simp [prR], ?_⟩; conv => whnf)
    | (refine CallG.lend call44 [0, 1] (by simp) (by simp) (by simp [isArr, pinsOf, prR]) (put_ok t [_, _] _ (by first | omega | (simp only [List.length_append, List.length_cons, List.length_nil]; omega) | (simp at *; omega))) ?_; rintro _ _ ⟨rfl, rfl⟩; refine ⟨by simp [prR], ?_⟩; conv => whnf)
    | (refine CallG.lend call44 [0, 1] (by simp) (by simp) (by simp [isArr, pinsOf, prR]) (put_ok t [_, _, _] _ (by first | omega | (simp only [List.length_append, List.length_cons, List.length_nil]; omega) | (simp at *; omega))) ?_; rintro _ _ ⟨rfl, rfl⟩; refine ⟨by simp [prR], ?_⟩; conv => whnf)
    | (refine CallG.lend call20 [0, 1] (by simp) (by simp) (by simp [isArr, pinsOf, prR]) (hk.put _ (by first | omega | (simp only [List.length_append, List.length_cons, List.length_nil]; omega) | (simp at *; omega))) ?_; rintro _ _ ⟨rfl, rfl⟩; refine ⟨by simp [prR], ?_⟩; conv => whnf)
    | exact ⟨rfl⟩
    | fail
  all_goals try (exfalso; first | (rename_i hq; exact hnum hq) | (rename_i hq _; exact hnum hq) | (rename_i hq _ _; exact hnum hq))
  all_goals try (refine Side.mk ?_; first | omega | (simp; done) | (intro row hr; obtain ⟨_, _, rfl⟩ := List.mem_map.1 hr; rfl) | (simp only [List.length_map, List.length_cons, List.length_nil]; omega) | (dsimp only; simp only [List.length_map]; omega))
  all_goals try (exfalso; omega)
  all_goals try (exfalso; dsimp only at *; omega)
  all_goals exact FinPr.mk' (by simp) (by simp)
theorem letb1_ok (t : List Al.Node) (T : Int → List Bytes) (nm : Bytes) (fr to : Int) (k : Int) (m : Int) (hk : Kid t T k) (hm : Kid t T m) : Puts t 48 [aNode ⟨21, nm, 1, [k, m], fr, to⟩] ([108, 101, 116] :: [109, 117, 116] :: nm :: [58] :: (T k ++ ([61] :: (T m ++ [[59]])))) := by
  refine Puts.of fun out hb => ?_
  try simp only [List.length_append, List.length_cons, List.length_nil] at hb
  refine .run ttab_ok func48 rfl (by kernel_rfl) (by simp [f48]) rfl ?_
  conv => whnf
  repeat' first
    | (intro h; exfalso; revert h; simp; done)
    | (intro _; conv => whnf)
    | (apply And.intro <;> (conv => whnf))
    | (refine AllRow.of rfl ?_; conv => whnf)
    | (apply AllRow.map; intro _ _; conv => whnf)
    | (refine CallG.lend call44 [0, 1] (by simp) (by simp) (by simp [isArr, pinsOf, prR]) (put_ok t [_] _ (by first | omega | (simp only [List.length_append, List.length_cons, List.length_nil]; omega) | (simp at *; omega))) ?_; rintro _ _ ⟨rfl, rfl⟩; refine ⟨by simp [prR], ?_⟩; conv => whnf)
    | (refine CallG.lend call44 [0, 1] (by simp) (by simp) (by simp [isArr, pinsOf, prR]) (put_ok t [_, _] _ (by first | omega | (simp only [List.length_append, List.length_cons, List.length_nil]; omega) | (simp at *; omega))) ?_; rintro _ _ ⟨rfl, rfl⟩; refine ⟨by simp [prR], ?_⟩; conv => whnf)
    | (refine CallG.lend call44 [0, 1] (by simp) (by simp) (by simp [isArr, pinsOf, prR]) (put_ok t [_, _, _] _ (by first | omega | (simp only [List.length_append, List.length_cons, List.length_nil]; omega) | (simp at *; omega))) ?_; rintro _ _ ⟨rfl, rfl⟩; refine ⟨by simp [prR], ?_⟩; conv => whnf)
    | (refine CallG.lend call20 [0, 1] (by simp) (by simp) (by simp [isArr, pinsOf, prR]) (hk.put _ (by first | omega | (simp only [List.length_append, List.length_cons, List.length_nil]; omega) | (simp at *; omega))) ?_; rintro _ _ ⟨rfl, rfl⟩; refine ⟨by simp [prR], ?_⟩; conv => whnf)
    | (refine CallG.lend call20 [0, 1] (by simp) (by simp) (by simp [isArr, pinsOf, prR]) (hm.put _ (by first | omega | (simp only [List.length_append, List.length_cons, List.length_nil]; omega) | (simp at *; omega))) ?_; rintro _ _ ⟨rfl, rfl⟩; refine ⟨by simp [prR], ?_⟩; conv => whnf)
    | exact ⟨rfl⟩
    | fail
  all_goals try (refine Side.mk ?_; first | omega | (simp; done) | (intro row hr; obtain ⟨_, _, rfl⟩ := List.mem_map.1 hr; rfl) | (simp only [List.length_map, List.length_cons, List.length_nil]; omega) | (dsimp only; simp only [List.length_map]; omega))
  all_goals try (exfalso; omega)
  all_goals try (exfalso; dsimp only at *; omega)
  all_goals exact FinPr.mk' (by simp) (by simp)
theorem letb0_ok (t : List Al.Node) (T : Int → List Bytes) (nm : Bytes) (num : Int) (fr to : Int) (hnum : num ≠ 1) (k : Int) (m : Int) (hk : Kid t T k) (hm : Kid t T m) : Puts t 48 [aNode ⟨21, nm, num, [k, m], fr, to⟩] ([108, 101, 116] :: nm :: [58] :: (T k ++ ([61] :: (T m ++ [[59]])))) := by
  refine Puts.of fun out hb => ?_
  try simp only [List.length_append, List.length_cons, List.length_nil] at hb
  refine .run ttab_ok func48 rfl (by kernel_rfl) (by simp [f48]) rfl ?_
  conv => whnf
  repeat' first
    | (intro h; exfalso; revert h; simp; done)
    | (intro _; conv => whnf)
    | (apply And.intro <;> (conv => whnf))
    | (refine AllRow.of rfl ?_; conv => whnf)
    | (apply AllRow.map; intro _ _; conv => whnf)
    | (refine CallG.lend call44 [0, 1] (by simp) (by simp) (by simp [isArr, pinsOf, prR]) (put_ok t [_] _ (by first | omega | (simp only [List.length_append, List.length_cons, List.length_nil]; omega) | (simp at *; omega))) ?_; rintro _ _ ⟨rfl, rfl⟩; refine ⟨by simp [prR], ?_⟩; conv => whnf)
    | (refine CallG.lend call44 [0, 1] (by simp) (by simp) (by simp [isArr, pinsOf, prR]) (put_ok t [_, _] _ (by first | omega | (simp only [List.length_append, List.length_cons, List.length_nil]; omega) | (simp at *; omega))) ?_; rintro _ _ ⟨rfl, rfl⟩; refine ⟨by simp [prR], ?_⟩; conv => whnf)
    | (refine CallG.lend call44 [0, 1] (by simp) (by simp) (by simp [isArr, pinsOf, prR]) (put_ok t [_, _, _] _ (by first | omega | (simp only [List.length_append, List.length_cons, List.length_nil]; omega) | (simp at *; omega))) ?_; rintro _ _ ⟨rfl, rfl⟩; refine ⟨by simp [prR], ?_⟩; conv => whnf)
    | (refine CallG.lend call20 [0, 1] (by simp) (by simp) (by simp [isArr, pinsOf, prR]) (hk.put _ (by first | omega | (simp only [List.length_append, List.length_cons, List.length_nil]; omega) | (simp at *; omega))) ?_; rintro _ _ ⟨rfl, rfl⟩; refine ⟨by simp [prR], ?_⟩; conv => whnf)
    | (refine CallG.lend call20 [0, 1] (by simp) (by simp) (by simp [isArr, pinsOf, prR]) (hm.put _ (by first | omega | (simp only [List.length_append, List.length_cons, List.length_nil]; omega) | (simp at *; omega))) ?_; rintro _ _ ⟨rfl, rfl⟩; refine ⟨by simp [prR], ?_⟩; conv => whnf)
    | exact ⟨rfl⟩
    | fail
  all_goals try (exfalso; first | (rename_i hq; exact hnum hq) | (rename_i hq _; exact hnum hq) | (rename_i hq _ _; exact hnum hq))
  all_goals try (refine Side.mk ?_; first | omega | (simp; done) | (intro row hr; obtain ⟨_, _, rfl⟩ := List.mem_map.1 hr; rfl) | (simp only [List.length_map, List.length_cons, List.length_nil]; omega) | (dsimp only; simp only [List.length_map]; omega))
  all_goals try (exfalso; omega)
  all_goals try (exfalso; dsimp only at *; omega)
  all_goals exact FinPr.mk' (by simp) (by simp)
theorem stmt21_ok (t : List Al.Node) (T : Int → List Bytes) (nm : Bytes) (num : Int) (ks : List Int) (fr to : Int) (ts : List Bytes) (hlet : Puts t 48 [aNode ⟨21, nm, num, ks, fr, to⟩] ts) : Puts t 33 [aNode ⟨21, nm, num, ks, fr, to⟩] (ts) := by
  refine Puts.of fun out hb => ?_
  try simp only [List.length_append, List.length_cons, List.length_nil] at hb
  refine .run ttab_ok func33 rfl (by kernel_rfl) (by simp [f33]) rfl ?_
  conv => whnf
  repeat' first
    | (intro h; exfalso; revert h; simp; done)
    | (intro _; conv => whnf)
    | (apply And.intro <;> (conv => whnf))
    | (refine AllRow.of rfl ?_; conv => whnf)
    | (apply AllRow.map; intro _ _; conv => whnf)
    | (refine CallG.lend call44 [0, 1] (by simp) (by simp) (by simp [isArr, pinsOf, prR]) (put_ok t [_] _ (by first | omega | (simp only [List.length_append, List.length_cons, List.length_nil]; omega) | (simp at *; omega))) ?_; rintro _ _ ⟨rfl, rfl⟩; refine ⟨by simp [prR], ?_⟩; conv => whnf)
    | (refine CallG.lend call44 [0, 1] (by simp) (by simp) (by simp [isArr, pinsOf, prR]) (put_ok t [_, _] _ (by first | omega | (simp only [List.length_append, List.length_cons, List.length_nil]; omega) | (simp at *; omega))) ?_; rintro _ _ ⟨rfl, rfl⟩; refine ⟨by simp [prR], ?_⟩; conv => whnf)
    | (refine CallG.lend call44 [0, 1] (by simp) (by simp) (by simp [isArr, pinsOf, prR]) (put_ok t [_, _, _] _ (by first | omega | (simp only [List.length_append, List.length_cons, List.length_nil]; omega) | (simp at *; omega))) ?_; rintro _ _ ⟨rfl, rfl⟩; refine ⟨by simp [prR], ?_⟩; conv => whnf)
    | (refine CallG.lend call48 [0, 1] (by simp) (by simp) (by simp [isArr, pinsOf, prR]) (hlet _ (by first | omega | (simp only [List.length_append, List.length_cons, List.length_nil]; omega) | (simp at *; omega))) ?_; rintro _ _ ⟨rfl, rfl⟩; refine ⟨by simp [prR], ?_⟩; conv => whnf)
    | exact ⟨rfl⟩
    | fail
  all_goals try (refine Side.mk ?_; first | omega | (simp; done) | (intro row hr; obtain ⟨_, _, rfl⟩ := List.mem_map.1 hr; rfl) | (simp only [List.length_map, List.length_cons, List.length_nil]; omega) | (dsimp only; simp only [List.length_map]; omega))
  all_goals try (exfalso; omega)
  all_goals try (exfalso; dsimp only at *; omega)
  all_goals exact FinPr.mk' (by simp) (by simp)
theorem stmt22_ok (t : List Al.Node) (T : Int → List Bytes) (nm : Bytes) (num : Int) (fr to : Int) (k : Int) (hk : Kid t T k) : Puts t 33 [aNode ⟨22, nm, num, [k], fr, to⟩] (T k ++ [[59]]) := by
  refine Puts.of fun out hb => ?_
  try simp only [List.length_append, List.length_cons, List.length_nil] at hb
  refine .run ttab_ok func33 rfl (by kernel_rfl) (by simp [f33]) rfl ?_
  conv => whnf
  repeat' first
    | (intro h; exfalso; revert h; simp; done)
    | (intro _; conv => whnf)
    | (apply And.intro <;> (conv => whnf))
    | (refine AllRow.of rfl ?_; conv => whnf)
    | (apply AllRow.map; intro _ _; conv => whnf)
    | (refine CallG.lend call44 [0, 1] (by simp) (by simp) (by simp [isArr, pinsOf, prR]) (put_ok t [_] _ (by first | omega | (simp only [List.length_append, List.length_cons, List.length_nil]; omega) | (simp at *; omega))) ?_; rintro _ _ ⟨rfl, rfl⟩; refine ⟨by simp [prR], ?_⟩; conv => whnf)
    | (refine CallG.lend call44 [0, 1] (by simp) (by simp) (by simp [isArr, pinsOf, prR]) (put_ok t [_, _] _ (by first | omega | (simp only [List.length_append, List.length_cons, List.length_nil]; omega) | (simp at *; omega))) ?_; rintro _ _ ⟨rfl, rfl⟩; refine ⟨by simp [prR], ?_⟩; conv => whnf)
    | (refine CallG.lend call44 [0, 1] (by simp) (by simp) (by simp [isArr, pinsOf, prR]) (put_ok t [_, _, _] _ (by first | omega | (simp only [List.length_append, List.length_cons, List.length_nil]; omega) | (simp at *; omega))) ?_; rintro _ _ ⟨rfl, rfl⟩; refine ⟨by simp [prR], ?_⟩; conv => whnf)
    | (refine CallG.lend call20 [0, 1] (by simp) (by simp) (by simp [isArr, pinsOf, prR]) (hk.put _ (by first | omega | (simp only [List.length_append, List.length_cons, List.length_nil]; omega) | (simp at *; omega))) ?_; rintro _ _ ⟨rfl, rfl⟩; refine ⟨by simp [prR], ?_⟩; conv => whnf)
    | exact ⟨rfl⟩
    | fail
  all_goals try (refine Side.mk ?_; first | omega | (simp; done) | (intro row hr; obtain ⟨_, _, rfl⟩ := List.mem_map.1 hr; rfl) | (simp only [List.length_map, List.length_cons, List.length_nil]; omega) | (dsimp only; simp only [List.length_map]; omega))
  all_goals try (exfalso; omega)
  all_goals try (exfalso; dsimp only at *; omega)
  all_goals exact FinPr.mk' (by simp) (by simp)
theorem stmt23_ok (t : List Al.Node) (T : Int → List Bytes) (nm : Bytes) (num : Int) (fr to : Int) (k : Int) (m : Int) (hk : Kid t T k) (hm : Kid t T m) : Puts t 33 [aNode ⟨23, nm, num, [k, m], fr, to⟩] (opT t T k false ++ ([61] :: (opT t T m false ++ [[59]]))) := by
  refine Puts.of fun out hb => ?_
  try simp only [List.length_append, List.length_cons, List.length_nil] at hb
  refine .run ttab_ok func33 rfl (by kernel_rfl) (by simp [f33]) rfl ?_
  conv => whnf
  repeat' first
    | (intro h; exfalso; revert h; simp; done)
    | (intro _; conv => whnf)
    | (apply And.intro <;> (conv => whnf))
    | (refine AllRow.of rfl ?_; conv => whnf)
    | (apply AllRow.map; intro _ _; conv => whnf)
    | (refine CallG.lend call44 [0, 1] (by simp) (by simp) (by simp [isArr, pinsOf, prR]) (put_ok t [_] _ (by first | omega | (simp only [List.length_append, List.length_cons, List.length_nil]; omega) | (simp at *; omega))) ?_; rintro _ _ ⟨rfl, rfl⟩; refine ⟨by simp [prR], ?_⟩; conv => whnf)
    | (refine CallG.lend call44 [0, 1] (by simp) (by simp) (by simp [isArr, pinsOf, prR]) (put_ok t [_, _] _ (by first | omega | (simp only [List.length_append, List.length_cons, List.length_nil]; omega) | (simp at *; omega))) ?_; rintro _ _ ⟨rfl, rfl⟩; refine ⟨by simp [prR], ?_⟩; conv => whnf)
    | (refine CallG.lend call44 [0, 1] (by simp) (by simp) (by simp [isArr, pinsOf, prR]) (put_ok t [_, _, _] _ (by first | omega | (simp only [List.length_append, List.length_cons, List.length_nil]; omega) | (simp at *; omega))) ?_; rintro _ _ ⟨rfl, rfl⟩; refine ⟨by simp [prR], ?_⟩; conv => whnf)
    | (refine CallG.lend call49 [0, 1] (by simp) (by simp) (by simp [isArr, pinsOf, prR]) (op_ok hk false _ (by first | omega | (simp only [List.length_append, List.length_cons, List.length_nil]; omega) | (simp at *; omega))) ?_; rintro _ _ ⟨rfl, rfl⟩; refine ⟨by simp [prR], ?_⟩; conv => whnf)
    | (refine CallG.lend call49 [0, 1] (by simp) (by simp) (by simp [isArr, pinsOf, prR]) (op_ok hm false _ (by first | omega | (simp only [List.length_append, List.length_cons, List.length_nil]; omega) | (simp at *; omega))) ?_; rintro _ _ ⟨rfl, rfl⟩; refine ⟨by simp [prR], ?_⟩; conv => whnf)
    | exact ⟨rfl⟩
    | fail
  all_goals try (refine Side.mk ?_; first | omega | (simp; done) | (intro row hr; obtain ⟨_, _, rfl⟩ := List.mem_map.1 hr; rfl) | (simp only [List.length_map, List.length_cons, List.length_nil]; omega) | (dsimp only; simp only [List.length_map]; omega))
  all_goals try (exfalso; omega)
  all_goals try (exfalso; dsimp only at *; omega)
  all_goals exact FinPr.mk' (by simp) (by simp)
theorem stmt24_ok (t : List Al.Node) (T : Int → List Bytes) (nm : Bytes) (num : Int) (fr to : Int) (k : Int) (m : Int) (hk : Kid t T k) (hm : Kid t T m) : Puts t 33 [aNode ⟨24, nm, num, [k, m], fr, to⟩] ([119, 104, 105, 108, 101] :: (opT t T k false ++ T m)) := by
  refine Puts.of fun out hb => ?_
  try simp only [List.length_append, List.length_cons, List.length_nil] at hb
  refine .run ttab_ok func33 rfl (by kernel_rfl) (by simp [f33]) rfl ?_
  conv => whnf
  repeat' first
    | (intro h; exfalso; revert h; simp; done)
    | (intro _; conv => whnf)
    | (apply And.intro <;> (conv => whnf))
    | (refine AllRow.of rfl ?_; conv => whnf)
    | (apply AllRow.map; intro _ _; conv => whnf)
    | (refine CallG.lend call44 [0, 1] (by simp) (by simp) (by simp [isArr, pinsOf, prR]) (put_ok t [_] _ (by first | omega | (simp only [List.length_append, List.length_cons, List.length_nil]; omega) | (simp at *; omega))) ?_; rintro _ _ ⟨rfl, rfl⟩; refine ⟨by simp [prR], ?_⟩; conv => whnf)
    | (refine CallG.lend call44 [0, 1] (by simp) (by simp) (by simp [isArr, pinsOf, prR]) (put_ok t [_, _] _ (by first | omega | (simp only [List.length_append, List.length_cons, List.length_nil]; omega) | (simp at *; omega))) ?_; rintro _ _ ⟨rfl, rfl⟩; refine ⟨by simp [prR], ?_⟩; conv => whnf)
    | (refine CallG.lend call44 [0, 1] (by simp) (by simp) (by simp [isArr, pinsOf, prR]) (put_ok t [_, _, _] _ (by first | omega | (simp only [List.length_append, List.length_cons, List.length_nil]; omega) | (simp at *; omega))) ?_; rintro _ _ ⟨rfl, rfl⟩; refine ⟨by simp [prR], ?_⟩; conv => whnf)
    | (refine CallG.lend call49 [0, 1] (by simp) (by simp) (by simp [isArr, pinsOf, prR]) (op_ok hk false _ (by first | omega | (simp only [List.length_append, List.length_cons, List.length_nil]; omega) | (simp at *; omega))) ?_; rintro _ _ ⟨rfl, rfl⟩; refine ⟨by simp [prR], ?_⟩; conv => whnf)
    | (refine CallG.lend call20 [0, 1] (by simp) (by simp) (by simp [isArr, pinsOf, prR]) (hm.put _ (by first | omega | (simp only [List.length_append, List.length_cons, List.length_nil]; omega) | (simp at *; omega))) ?_; rintro _ _ ⟨rfl, rfl⟩; refine ⟨by simp [prR], ?_⟩; conv => whnf)
    | exact ⟨rfl⟩
    | fail
  all_goals try (refine Side.mk ?_; first | omega | (simp; done) | (intro row hr; obtain ⟨_, _, rfl⟩ := List.mem_map.1 hr; rfl) | (simp only [List.length_map, List.length_cons, List.length_nil]; omega) | (dsimp only; simp only [List.length_map]; omega))
  all_goals try (exfalso; omega)
  all_goals try (exfalso; dsimp only at *; omega)
  all_goals exact FinPr.mk' (by simp) (by simp)
theorem stmt26_ok (t : List Al.Node) (T : Int → List Bytes) (nm : Bytes) (num : Int) (ks : List Int) (fr to : Int) : Puts t 33 [aNode ⟨26, nm, num, ks, fr, to⟩] ([[98, 114, 101, 97, 107], [59]]) := by
  refine Puts.of fun out hb => ?_
  try simp only [List.length_append, List.length_cons, List.length_nil] at hb
  refine .run ttab_ok func33 rfl (by kernel_rfl) (by simp [f33]) rfl ?_
  conv => whnf
  repeat' first
    | (intro h; exfalso; revert h; simp; done)
    | (intro _; conv => whnf)
    | (apply And.intro <;> (conv => whnf))
    | (refine AllRow.of rfl ?_; conv => whnf)
    | (apply AllRow.map; intro _ _; conv => whnf)
    | (refine CallG.lend call44 [0, 1] (by simp) (by simp) (by simp [isArr, pinsOf, prR]) (put_ok t [_] _ (by first | omega | (simp only [List.length_append, List.length_cons, List.length_nil]; omega) | (simp at *; omega))) ?_; rintro _ _ ⟨rfl, rfl⟩; refine ⟨by simp [prR], ?_⟩; conv => whnf)
    | (refine CallG.lend call44 [0, 1] (by simp) (by simp) (by simp [isArr, pinsOf, prR]) (put_ok t [_, _] _ (by first | omega | (simp only [List.length_append, List.length_cons, List.length_nil]; omega) | (simp at *; omega))) ?_; rintro _ _ ⟨rfl, rfl⟩; refine ⟨by simp [prR], ?_⟩; conv => whnf)
    | (refine CallG.lend call44 [0, 1] (by simp) (by simp) (by simp [isArr, pinsOf, prR]) (put_ok t [_, _, _] _ (by first | omega | (simp only [List.length_append, List.length_cons, List.length_nil]; omega) | (simp at *; omega))) ?_; rintro _ _ ⟨rfl, rfl⟩; refine ⟨by simp [prR], ?_⟩; conv => whnf)
    | exact ⟨rfl⟩
    | fail
  all_goals try (refine Side.mk ?_; first | omega | (simp; done) | (intro row hr; obtain ⟨_, _, rfl⟩ := List.mem_map.1 hr; rfl) | (simp only [List.length_map, List.length_cons, List.length_nil]; omega) | (dsimp only; simp only [List.length_map]; omega))
  all_goals try (exfalso; omega)
  all_goals try (exfalso; dsimp only at *; omega)
  all_goals exact FinPr.mk' (by simp) (by simp)
theorem stmt27_ok (t : List Al.Node) (T : Int → List Bytes) (nm : Bytes) (num : Int) (ks : List Int) (fr to : Int) : Puts t 33 [aNode ⟨27, nm, num, ks, fr, to⟩] ([[99, 111, 110, 116, 105, 110, 117, 101], [59]]) := by
  refine Puts.of fun out hb => ?_
  try simp only [List.length_append, List.length_cons, List.length_nil] at hb
  refine .run ttab_ok func33 rfl (by kernel_rfl) (by simp [f33]) rfl ?_
  conv => whnf
  repeat' first
    | (intro h; exfalso; revert h; simp; done)
    | (intro _; conv => whnf)
    | (apply And.intro <;> (conv => whnf))
    | (refine AllRow.of rfl ?_; conv => whnf)
    | (apply AllRow.map; intro _ _; conv => whnf)
    | (refine CallG.lend call44 [0, 1] (by simp) (by simp) (by simp [isArr, pinsOf, prR]) (put_ok t [_] _ (by first | omega | (simp only [List.length_append, List.length_cons, List.length_nil]; omega) | (simp at *; omega))) ?_; rintro _ _ ⟨rfl, rfl⟩; refine ⟨by simp [prR], ?_⟩; conv => whnf)
    | (refine CallG.lend call44 [0, 1] (by simp) (by simp) (by simp [isArr, pinsOf, prR]) (put_ok t [_, _] _ (by first | omega | (simp only [List.length_append, List.length_cons, List.length_nil]; omega) | (simp at *; omega))) ?_; rintro _ _ ⟨rfl, rfl⟩; refine ⟨by simp [prR], ?_⟩; conv => whnf)
    | (refine CallG.lend call44 [0, 1] (by simp) (by simp) (by simp [isArr, pinsOf, prR]) (put_ok t [_, _, _] _ (by first | omega | (simp only [List.length_append, List.length_cons, List.length_nil]; omega) | (simp at *; omega))) ?_; rintro _ _ ⟨rfl, rfl⟩; refine ⟨by simp [prR], ?_⟩; conv => whnf)
    | exact ⟨rfl⟩
    | fail
  all_goals try (refine Side.mk ?_; first | omega | (simp; done) | (intro row hr; obtain ⟨_, _, rfl⟩ := List.mem_map.1 hr; rfl) | (simp only [List.length_map, List.length_cons, List.length_nil]; omega) | (dsimp only; simp only [List.length_map]; omega))
  all_goals try (exfalso; omega)
  all_goals try (exfalso; dsimp only at *; omega)
  all_goals exact FinPr.mk' (by simp) (by simp)
theorem ahead_ok (t : List Al.Node) (T : Int → List Bytes) (kind : Int) (nm : Bytes) (num : Int) (fr to : Int) (l : List Bytes) (k : Int) (hk : Kid t T k) : Puts t 50 [aNode ⟨kind, nm, num, [k], fr, to⟩, .d (dStrs l)] (l ++ opT t T k false) := by
  refine Puts.of fun out hb => ?_
  try simp only [List.length_append, List.length_cons, List.length_nil] at hb
  refine .run ttab_ok func50 rfl (by kernel_rfl) (by simp [f50]) rfl ?_
  conv => whnf
  repeat' first
    | (intro h; exfalso; revert h; simp; done)
    | (intro _; conv => whnf)
    | (apply And.intro <;> (conv => whnf))
    | (refine AllRow.of rfl ?_; conv => whnf)
    | (apply AllRow.map; intro _ _; conv => whnf)
    | (refine CallG.lend call44 [0, 1] (by simp) (by simp) (by simp [isArr, pinsOf, prR]) (put_ok t [_] _ (by first | omega | (simp only [List.length_append, List.length_cons, List.length_nil]; omega) | (simp at *; omega))) ?_; rintro _ _ ⟨rfl, rfl⟩; refine ⟨by simp [prR], ?_⟩; conv => whnf)
    | (refine CallG.lend call44 [0, 1] (by simp) (by simp) (by simp [isArr, pinsOf, prR]) (put_ok t [_, _] _ (by first | omega | (simp only [List.length_append, List.length_cons, List.length_nil]; omega) | (simp at *; omega))) ?_; rintro _ _ ⟨rfl, rfl⟩; refine ⟨by simp [prR], ?_⟩; conv => whnf)
    | (refine CallG.lend call44 [0, 1] (by simp) (by simp) (by simp [isArr, pinsOf, prR]) (put_ok t [_, _, _] _ (by first | omega | (simp only [List.length_append, List.length_cons, List.length_nil]; omega) | (simp at *; omega))) ?_; rintro _ _ ⟨rfl, rfl⟩; refine ⟨by simp [prR], ?_⟩; conv => whnf)
    | (refine CallG.lend call44 [0, 1] (by simp) (by simp) (by simp [isArr, pinsOf, prR]) (put_ok t l _ (by first | omega | (simp only [List.length_append, List.length_cons, List.length_nil]; omega) | (simp at *; omega))) ?_; rintro _ _ ⟨rfl, rfl⟩; refine ⟨by simp [prR], ?_⟩; conv => whnf)
    | (refine CallG.lend call49 [0, 1] (by simp) (by simp) (by simp [isArr, pinsOf, prR]) (op_ok hk false _ (by first | omega | (simp only [List.length_append, List.length_cons, List.length_nil]; omega) | (simp at *; omega))) ?_; rintro _ _ ⟨rfl, rfl⟩; refine ⟨by simp [prR], ?_⟩; conv => whnf)
    | exact ⟨rfl⟩
    | fail
  all_goals try (refine Side.mk ?_; first | omega | (simp; done) | (intro row hr; obtain ⟨_, _, rfl⟩ := List.mem_map.1 hr; rfl) | (simp only [List.length_map, List.length_cons, List.length_nil]; omega) | (dsimp only; simp only [List.length_map]; omega))
  all_goals try (exfalso; omega)
  all_goals try (exfalso; dsimp only at *; omega)
  all_goals exact FinPr.mk' (by simp) (by simp)
theorem expr38_ok (t : List Al.Node) (T : Int → List Bytes) (nm : Bytes) (num : Int) (fr to : Int) (k : Int) (m : Int) (hk : Kid t T k) (hm : Kid t T m) : Puts t 34 [aNode ⟨38, nm, num, [k, m], fr, to⟩] (opT t T k false ++ (nm :: opT t T m false)) := by
  refine Puts.of fun out hb => ?_
  try simp only [List.length_append, List.length_cons, List.length_nil] at hb
  refine .run ttab_ok func34 rfl (by kernel_rfl) (by simp [f34]) rfl ?_
  conv => whnf
  repeat' first
    | (intro h; exfalso; revert h; simp; done)
    | (intro _; conv => whnf)
    | (apply And.intro <;> (conv => whnf))
    | (refine AllRow.of rfl ?_; conv => whnf)
    | (apply AllRow.map; intro _ _; conv => whnf)
    | (refine CallG.lend call44 [0, 1] (by simp) (by simp) (by simp [isArr, pinsOf, prR]) (put_ok t [_] _ (by first | omega | (simp only [List.length_append, List.length_cons, List.length_nil]; omega) | (simp at *; omega))) ?_; rintro _ _ ⟨rfl, rfl⟩; refine ⟨by simp [prR], ?_⟩; conv => whnf)
    | (refine CallG.lend call44 [0, 1] (by simp) (by simp) (by simp [isArr, pinsOf, prR]) (put_ok t [_, _] _ (by first | omega | (simp only [List.length_append, List.length_cons, List.length_nil]; omega) | (simp at *; omega))) ?_; rintro _ _ ⟨rfl, rfl⟩; refine ⟨by simp [prR], ?_⟩; conv => whnf)
    | (refine CallG.lend call44 [0, 1] (by simp) (by simp) (by simp [isArr, pinsOf, prR]) (put_ok t [_, _, _] _ (by first | omega | (simp only [List.length_append, List.length_cons, List.length_nil]; omega) | (simp at *; omega))) ?_; rintro _ _ ⟨rfl, rfl⟩; refine ⟨by simp [prR], ?_⟩; conv => whnf)
    | (refine CallG.lend call49 [0, 1] (by simp) (by simp) (by simp [isArr, pinsOf, prR]) (op_ok hk false _ (by first | omega | (simp only [List.length_append, List.length_cons, List.length_nil]; omega) | (simp at *; omega))) ?_; rintro _ _ ⟨rfl, rfl⟩; refine ⟨by simp [prR], ?_⟩; conv => whnf)
    | (refine CallG.lend call49 [0, 1] (by simp) (by simp) (by simp [isArr, pinsOf, prR]) (op_ok hm false _ (by first | omega | (simp only [List.length_append, List.length_cons, List.length_nil]; omega) | (simp at *; omega))) ?_; rintro _ _ ⟨rfl, rfl⟩; refine ⟨by simp [prR], ?_⟩; conv => whnf)
    | exact ⟨rfl⟩
    | fail
  all_goals try (refine Side.mk ?_; first | omega | (simp; done) | (intro row hr; obtain ⟨_, _, rfl⟩ := List.mem_map.1 hr; rfl) | (simp only [List.length_map, List.length_cons, List.length_nil]; omega) | (dsimp only; simp only [List.length_map]; omega))
  all_goals try (exfalso; omega)
  all_goals try (exfalso; dsimp only at *; omega)
  all_goals exact FinPr.mk' (by simp) (by simp)
theorem expr39_ok (t : List Al.Node) (T : Int → List Bytes) (nm : Bytes) (num : Int) (fr to : Int) (k : Int) (hk : Kid t T k) : Puts t 34 [aNode ⟨39, nm, num, [k], fr, to⟩] ([45] :: opT t T k false) := by
  refine Puts.of fun out hb => ?_
  try simp only [List.length_append, List.length_cons, List.length_nil] at hb
  refine .run ttab_ok func34 rfl (by kernel_rfl) (by simp [f34]) rfl ?_
  conv => whnf
  repeat' first
    | (intro h; exfalso; revert h; simp; done)
    | (intro _; conv => whnf)
    | (apply And.intro <;> (conv => whnf))
    | (refine AllRow.of rfl ?_; conv => whnf)
    | (apply AllRow.map; intro _ _; conv => whnf)
    | (refine CallG.lend call44 [0, 1] (by simp) (by simp) (by simp [isArr, pinsOf, prR]) (put_ok t [_] _ (by first | omega | (simp only [List.length_append, List.length_cons, List.length_nil]; omega) | (simp at *; omega))) ?_; rintro _ _ ⟨rfl, rfl⟩; refine ⟨by simp [prR], ?_⟩; conv => whnf)
    | (refine CallG.lend call44 [0, 1] (by simp) (by simp) (by simp [isArr, pinsOf, prR]) (put_ok t [_, _] _ (by first | omega | (simp only [List.length_append, List.length_cons, List.length_nil]; omega) | (simp at *; omega))) ?_; rintro _ _ ⟨rfl, rfl⟩; refine ⟨by simp [prR], ?_⟩; conv => whnf)
    | (refine CallG.lend call44 [0, 1] (by simp) (by simp) (by simp [isArr, pinsOf, prR]) (put_ok t [_, _, _] _ (by first | omega | (simp only [List.length_append, List.length_cons, List.length_nil]; omega) | (simp at *; omega))) ?_; rintro _ _ ⟨rfl, rfl⟩; refine ⟨by simp [prR], ?_⟩; conv => whnf)
    | (refine CallG.lend call50 [0, 1] (by simp) (by simp) (by simp [isArr, pinsOf, prR]) (ahead_ok t T 39 nm num fr to [[45]] k hk _ (by first | omega | (simp only [List.length_append, List.length_cons, List.length_nil]; omega) | (simp at *; omega))) ?_; rintro _ _ ⟨rfl, rfl⟩; refine ⟨by simp [prR], ?_⟩; conv => whnf)
    | exact ⟨rfl⟩
    | fail
  all_goals try (refine Side.mk ?_; first | omega | (simp; done) | (intro row hr; obtain ⟨_, _, rfl⟩ := List.mem_map.1 hr; rfl) | (simp only [List.length_map, List.length_cons, List.length_nil]; omega) | (dsimp only; simp only [List.length_map]; omega))
  all_goals try (exfalso; omega)
  all_goals try (exfalso; dsimp only at *; omega)
  all_goals exact FinPr.mk' (by simp) (by simp)
theorem expr40_ok (t : List Al.Node) (T : Int → List Bytes) (nm : Bytes) (num : Int) (fr to : Int) (k : Int) (hk : Kid t T k) : Puts t 34 [aNode ⟨40, nm, num, [k], fr, to⟩] ([33] :: opT t T k false) := by
  refine Puts.of fun out hb => ?_
  try simp only [List.length_append, List.length_cons, List.length_nil] at hb
  refine .run ttab_ok func34 rfl (by kernel_rfl) (by simp [f34]) rfl ?_
  conv => whnf
  repeat' first
    | (intro h; exfalso; revert h; simp; done)
    | (intro _; conv => whnf)
    | (apply And.intro <;> (conv => whnf))
    | (refine AllRow.of rfl ?_; conv => whnf)
    | (apply AllRow.map; intro _ _; conv => whnf)
    | (refine CallG.lend call44 [0, 1] (by simp) (by simp) (by simp [isArr, pinsOf, prR]) (put_ok t [_] _ (by first | omega | (simp only [List.length_append, List.length_cons, List.length_nil]; omega) | (simp at *; omega))) ?_; rintro _ _ ⟨rfl, rfl⟩; refine ⟨by simp [prR], ?_⟩; conv => whnf)
    | (refine CallG.lend call44 [0, 1] (by simp) (by simp) (by simp [isArr, pinsOf, prR]) (put_ok t [_, _] _ (by first | omega | (simp only [List.length_append, List.length_cons, List.length_nil]; omega) | (simp at *; omega))) ?_; rintro _ _ ⟨rfl, rfl⟩; refine ⟨by simp [prR], ?_⟩; conv => whnf)
    | (refine CallG.lend call44 [0, 1] (by simp) (by simp) (by simp [isArr, pinsOf, prR]) (put_ok t [_, _, _] _ (by first | omega | (simp only [List.length_append, List.length_cons, List.length_nil]; omega) | (simp at *; omega))) ?_; rintro _ _ ⟨rfl, rfl⟩; refine ⟨by simp [prR], ?_⟩; conv => whnf)
    | (refine CallG.lend call50 [0, 1] (by simp) (by simp) (by simp [isArr, pinsOf, prR]) (ahead_ok t T 40 nm num fr to [[33]] k hk _ (by first | omega | (simp only [List.length_append, List.length_cons, List.length_nil]; omega) | (simp at *; omega))) ?_; rintro _ _ ⟨rfl, rfl⟩; refine ⟨by simp [prR], ?_⟩; conv => whnf)
    | exact ⟨rfl⟩
    | fail
  all_goals try (refine Side.mk ?_; first | omega | (simp; done) | (intro row hr; obtain ⟨_, _, rfl⟩ := List.mem_map.1 hr; rfl) | (simp only [List.length_map, List.length_cons, List.length_nil]; omega) | (dsimp only; simp only [List.length_map]; omega))
  all_goals try (exfalso; omega)
  all_goals try (exfalso; dsimp only at *; omega)
  all_goals exact FinPr.mk' (by simp) (by simp)
theorem expr42_ok (t : List Al.Node) (T : Int → List Bytes) (nm : Bytes) (num : Int) (fr to : Int) (k : Int) (hk : Kid t T k) : Puts t 34 [aNode ⟨42, nm, num, [k], fr, to⟩] ([42] :: opT t T k false) := by
  refine Puts.of fun out hb => ?_
  try simp only [List.length_append, List.length_cons, List.length_nil] at hb
  refine .run ttab_ok func34 rfl (by kernel_rfl) (by simp [f34]) rfl ?_
  conv => whnf
  repeat' first
    | (intro h; exfalso; revert h; simp; done)
    | (intro _; conv => whnf)
    | (apply And.intro <;> (conv => whnf))
    | (refine AllRow.of rfl ?_; conv => whnf)
    | (apply AllRow.map; intro _ _; conv => whnf)
    | (refine CallG.lend call44 [0, 1] (by simp) (by simp) (by simp [isArr, pinsOf, prR]) (put_ok t [_] _ (by first | omega | (simp only [List.length_append, List.length_cons, List.length_nil]; omega) | (simp at *; omega))) ?_; rintro _ _ ⟨rfl, rfl⟩; refine ⟨by simp [prR], ?_⟩; conv => whnf)
    | (refine CallG.lend call44 [0, 1] (by simp) (by simp) (by simp [isArr, pinsOf, prR]) (put_ok t [_, _] _ (by first | omega | (simp only [List.length_append, List.length_cons, List.length_nil]; omega) | (simp at *; omega))) ?_; rintro _ _ ⟨rfl, rfl⟩; refine ⟨by simp [prR], ?_⟩; conv => whnf)
    | (refine CallG.lend call44 [0, 1] (by simp) (by simp) (by simp [isArr, pinsOf, prR]) (put_ok t [_, _, _] _ (by first | omega | (simp only [List.length_append, List.length_cons, List.length_nil]; omega) | (simp at *; omega))) ?_; rintro _ _ ⟨rfl, rfl⟩; refine ⟨by simp [prR], ?_⟩; conv => whnf)
    | (refine CallG.lend call50 [0, 1] (by simp) (by simp) (by simp [isArr, pinsOf, prR]) (ahead_ok t T 42 nm num fr to [[42]] k hk _ (by first | omega | (simp only [List.length_append, List.length_cons, List.length_nil]; omega) | (simp at *; omega))) ?_; rintro _ _ ⟨rfl, rfl⟩; refine ⟨by simp [prR], ?_⟩; conv => whnf)
    | exact ⟨rfl⟩
    | fail
  all_goals try (refine Side.mk ?_; first | omega | (simp; done) | (intro row hr; obtain ⟨_, _, rfl⟩ := List.mem_map.1 hr; rfl) | (simp only [List.length_map, List.length_cons, List.length_nil]; omega) | (dsimp only; simp only [List.length_map]; omega))
  all_goals try (exfalso; omega)
  all_goals try (exfalso; dsimp only at *; omega)
  all_goals exact FinPr.mk' (by simp) (by simp)
theorem expr43a_ok (t : List Al.Node) (T : Int → List Bytes) (nm : Bytes) (fr to : Int) (k : Int) (hk : Kid t T k) : Puts t 34 [aNode ⟨43, nm, 1, [k], fr, to⟩] ([38] :: [109, 117, 116] :: opT t T k false) := by
  refine Puts.of fun out hb => ?_
  try simp only [List.length_append, List.length_cons, List.length_nil] at hb
  refine .run ttab_ok func34 rfl (by kernel_rfl) (by simp [f34]) rfl ?_
  conv => whnf
  repeat' first
    | (intro h; exfalso; revert h; simp; done)
    | (intro _; conv => whnf)
    | (apply And.intro <;> (conv => whnf))
    | (refine AllRow.of rfl ?_; conv => whnf)
    | (apply AllRow.map; intro _ _; conv => whnf)
    | (refine CallG.lend call44 [0, 1] (by simp) (by simp) (by simp [isArr, pinsOf, prR]) (put_ok t [_] _ (by first | omega | (simp only [List.length_append, List.length_cons, List.length_nil]; omega) | (simp at *; omega))) ?_; rintro _ _ ⟨rfl, rfl⟩; refine ⟨by simp [prR], ?_⟩; conv => whnf)
    | (refine CallG.lend call44 [0, 1] (by simp) (by simp) (by simp [isArr, pinsOf, prR]) (put_ok t [_, _] _ (by first | omega | (simp only [List.length_append, List.length_cons, List.length_nil]; omega) | (simp at *; omega))) ?_; rintro _ _ ⟨rfl, rfl⟩; refine ⟨by simp [prR], ?_⟩; conv => whnf)
    | (refine CallG.lend call44 [0, 1] (by simp) (by simp) (by simp [isArr, pinsOf, prR]) (put_ok t [_, _, _] _ (by first | omega | (simp only [List.length_append, List.length_cons, List.length_nil]; omega) | (simp at *; omega))) ?_; rintro _ _ ⟨rfl, rfl⟩; refine ⟨by simp [prR], ?_⟩; conv => whnf)
    | (refine CallG.lend call50 [0, 1] (by simp) (by simp) (by simp [isArr, pinsOf, prR]) (ahead_ok t T 43 nm 1 fr to [[38], [109, 117, 116]] k hk _ (by first | omega | (simp only [List.length_append, List.length_cons, List.length_nil]; omega) | (simp at *; omega))) ?_; rintro _ _ ⟨rfl, rfl⟩; refine ⟨by simp [prR], ?_⟩; conv => whnf)
    | exact ⟨rfl⟩
    | fail
  all_goals try (refine Side.mk ?_; first | omega | (simp; done) | (intro row hr; obtain ⟨_, _, rfl⟩ := List.mem_map.1 hr; rfl) | (simp only [List.length_map, List.length_cons, List.length_nil]; omega) | (dsimp only; simp only [List.length_map]; omega))
  all_goals try (exfalso; omega)
  all_goals try (exfalso; dsimp only at *; omega)
  all_goals exact FinPr.mk' (by simp) (by simp)
theorem expr43b_ok (t : List Al.Node) (T : Int → List Bytes) (nm : Bytes) (num : Int) (fr to : Int) (hnum : num ≠ 1) (k : Int) (hk : Kid t T k) : Puts t 34 [aNode ⟨43, nm, num, [k], fr, to⟩] ([38] :: opT t T k false) := by
  refine Puts.of fun out hb => ?_
  try simp only [List.length_append, List.length_cons, List.length_nil] at hb
  refine .run ttab_ok func34 rfl (by kernel_rfl) (by simp [f34]) rfl ?_
  conv => whnf
  repeat' first
    | (intro h; exfalso; revert h; simp; done)
    | (intro _; conv => whnf)
    | (apply And.intro <;> (conv => whnf))
    | (refine AllRow.of rfl ?_; conv => whnf)
    | (apply AllRow.map; intro _ _; conv => whnf)
    | (refine CallG.lend call44 [0, 1] (by simp) (by simp) (by simp [isArr, pinsOf, prR]) (put_ok t [_] _ (by first | omega | (simp only [List.length_append, List.length_cons, List.length_nil]; omega) | (simp at *; omega))) ?_; rintro _ _ ⟨rfl, rfl⟩; refine ⟨by simp [prR], ?_⟩; conv => whnf)
    | (refine CallG.lend call44 [0, 1] (by simp) (by simp) (by simp [isArr, pinsOf, prR]) (put_ok t [_, _] _ (by first | omega | (simp only [List.length_append, List.length_cons, List.length_nil]; omega) | (simp at *; omega))) ?_; rintro _ _ ⟨rfl, rfl⟩; refine ⟨by simp [prR], ?_⟩; conv => whnf)
    | (refine CallG.lend call44 [0, 1] (by simp) (by simp) (by simp [isArr, pinsOf, prR]) (put_ok t [_, _, _] _ (by first | omega | (simp only [List.length_append, List.length_cons, List.length_nil]; omega) | (simp at *; omega))) ?_; rintro _ _ ⟨rfl, rfl⟩; refine ⟨by simp [prR], ?_⟩; conv => whnf)
    | (refine CallG.lend call50 [0, 1] (by simp) (by simp) (by simp [isArr, pinsOf, prR]) (ahead_ok t T 43 nm num fr to [[38]] k hk _ (by first | omega | (simp only [List.length_append, List.length_cons, List.length_nil]; omega) | (simp at *; omega))) ?_; rintro _ _ ⟨rfl, rfl⟩; refine ⟨by simp [prR], ?_⟩; conv => whnf)
    | (refine CallG.lend call50 [0, 1] (by simp) (by simp) (by simp [isArr, pinsOf, prR]) (ahead_ok t T 43 nm num fr to [[38], [109, 117, 116]] k hk _ (by first | omega | (simp only [List.length_append, List.length_cons, List.length_nil]; omega) | (simp at *; omega))) ?_; rintro _ _ ⟨rfl, rfl⟩; refine ⟨by simp [prR], ?_⟩; conv => whnf)
    | exact ⟨rfl⟩
    | fail
  all_goals try (exfalso; first | (rename_i hq; exact hnum hq) | (rename_i hq _; exact hnum hq) | (rename_i hq _ _; exact hnum hq))
  all_goals try (refine Side.mk ?_; first | omega | (simp; done) | (intro row hr; obtain ⟨_, _, rfl⟩ := List.mem_map.1 hr; rfl) | (simp only [List.length_map, List.length_cons, List.length_nil]; omega) | (dsimp only; simp only [List.length_map]; omega))
  all_goals try (exfalso; omega)
  all_goals try (exfalso; dsimp only at *; omega)
  all_goals exact FinPr.mk' (by simp) (by simp)
theorem expr41_ok (t : List Al.Node) (T : Int → List Bytes) (nm : Bytes) (num : Int) (fr to : Int) (k : Int) (hk : Kid t T k) : Puts t 34 [aNode ⟨41, nm, num, [k], fr, to⟩] (opT t T k true ++ [[46], nm]) := by
  refine Puts.of fun out hb => ?_
  try simp only [List.length_append, List.length_cons, List.length_nil] at hb
  refine .run ttab_ok func34 rfl (by kernel_rfl) (by simp [f34]) rfl ?_
  conv => whnf
  repeat' first
    | (intro h; exfalso; revert h; simp; done)
    | (intro _; conv => whnf)
    | (apply And.intro <;> (conv => whnf))
    | (refine AllRow.of rfl ?_; conv => whnf)
    | (apply AllRow.map; intro _ _; conv => whnf)
    | (refine CallG.lend call44 [0, 1] (by simp) (by simp) (by simp [isArr, pinsOf, prR]) (put_ok t [_] _ (by first | omega | (simp only [List.length_append, List.length_cons, List.length_nil]; omega) | (simp at *; omega))) ?_; rintro _ _ ⟨rfl, rfl⟩; refine ⟨by simp [prR], ?_⟩; conv => whnf)
    | (refine CallG.lend call44 [0, 1] (by simp) (by simp) (by simp [isArr, pinsOf, prR]) (put_ok t [_, _] _ (by first | omega | (simp only [List.length_append, List.length_cons, List.length_nil]; omega) | (simp at *; omega))) ?_; rintro _ _ ⟨rfl, rfl⟩; refine ⟨by simp [prR], ?_⟩; conv => whnf)
    | (refine CallG.lend call44 [0, 1] (by simp) (by simp) (by simp [isArr, pinsOf, prR]) (put_ok t [_, _, _] _ (by first | omega | (simp only [List.length_append, List.length_cons, List.length_nil]; omega) | (simp at *; omega))) ?_; rintro _ _ ⟨rfl, rfl⟩; refine ⟨by simp [prR], ?_⟩; conv => whnf)
    | (refine CallG.lend call49 [0, 1] (by simp) (by simp) (by simp [isArr, pinsOf, prR]) (op_ok hk true _ (by first | omega | (simp only [List.length_append, List.length_cons, List.length_nil]; omega) | (simp at *; omega))) ?_; rintro _ _ ⟨rfl, rfl⟩; refine ⟨by simp [prR], ?_⟩; conv => whnf)
    | exact ⟨rfl⟩
    | fail
  all_goals try (refine Side.mk ?_; first | omega | (simp; done) | (intro row hr; obtain ⟨_, _, rfl⟩ := List.mem_map.1 hr; rfl) | (simp only [List.length_map, List.length_cons, List.length_nil]; omega) | (dsimp only; simp only [List.length_map]; omega))
  all_goals try (exfalso; omega)
  all_goals try (exfalso; dsimp only at *; omega)
  all_goals exact FinPr.mk' (by simp) (by simp)
theorem expr45a_ok (t : List Al.Node) (T : Int → List Bytes) (nm : Bytes) (num : Int) (fr to : Int) (k : Int) (m : Int) (hk : Kid t T k) (hm : Kid t T m) : Puts t 34 [aNode ⟨45, nm, num, [k, m], fr, to⟩] ([105, 102] :: (opT t T k false ++ T m)) := by
  refine Puts.of fun out hb => ?_
  try simp only [List.length_append, List.length_cons, List.length_nil] at hb
  refine .run ttab_ok func34 rfl (by kernel_rfl) (by simp [f34]) rfl ?_
  conv => whnf
  repeat' first
    | (intro h; exfalso; revert h; simp; done)
    | (intro _; conv => whnf)
    | (apply And.intro <;> (conv => whnf))
    | (refine AllRow.of rfl ?_; conv => whnf)
    | (apply AllRow.map; intro _ _; conv => whnf)
    | (refine CallG.lend call44 [0, 1] (by simp) (by simp) (by simp [isArr, pinsOf, prR]) (put_ok t [_] _ (by first | omega | (simp only [List.length_append, List.length_cons, List.length_nil]; omega) | (simp at *; omega))) ?_; rintro _ _ ⟨rfl, rfl⟩; refine ⟨by simp [prR], ?_⟩; conv => whnf)
    | (refine CallG.lend call44 [0, 1] (by simp) (by simp) (by simp [isArr, pinsOf, prR]) (put_ok t [_, _] _ (by first | omega | (simp only [List.length_append, List.length_cons, List.length_nil]; omega) | (simp at *; omega))) ?_; rintro _ _ ⟨rfl, rfl⟩; refine ⟨by simp [prR], ?_⟩; conv => whnf)
    | (refine CallG.lend call44 [0, 1] (by simp) (by simp) (by simp [isArr, pinsOf, prR]) (put_ok t [_, _, _] _ (by first | omega | (simp only [List.length_append, List.length_cons, List.length_nil]; omega) | (simp at *; omega))) ?_; rintro _ _ ⟨rfl, rfl⟩; refine ⟨by simp [prR], ?_⟩; conv => whnf)
    | (refine CallG.lend call49 [0, 1] (by simp) (by simp) (by simp [isArr, pinsOf, prR]) (op_ok hk false _ (by first | omega | (simp only [List.length_append, List.length_cons, List.length_nil]; omega) | (simp at *; omega))) ?_; rintro _ _ ⟨rfl, rfl⟩; refine ⟨by simp [prR], ?_⟩; conv => whnf)
    | (refine CallG.lend call20 [0, 1] (by simp) (by simp) (by simp [isArr, pinsOf, prR]) (hm.put _ (by first | omega | (simp only [List.length_append, List.length_cons, List.length_nil]; omega) | (simp at *; omega))) ?_; rintro _ _ ⟨rfl, rfl⟩; refine ⟨by simp [prR], ?_⟩; conv => whnf)
    | exact ⟨rfl⟩
    | fail
  all_goals try (refine Side.mk ?_; first | omega | (simp; done) | (intro row hr; obtain ⟨_, _, rfl⟩ := List.mem_map.1 hr; rfl) | (simp only [List.length_map, List.length_cons, List.length_nil]; omega) | (dsimp only; simp only [List.length_map]; omega))
  all_goals try (exfalso; omega)
  all_goals try (exfalso; dsimp only at *; omega)
  all_goals exact FinPr.mk' (by simp) (by simp)
theorem expr45b_ok (t : List Al.Node) (T : Int → List Bytes) (nm : Bytes) (num : Int) (fr to : Int) (k : Int) (m : Int) (e : Int) (hk : Kid t T k) (hm : Kid t T m) (he : Kid t T e) : Puts t 34 [aNode ⟨45, nm, num, [k, m, e], fr, to⟩] ([105, 102] :: (opT t T k false ++ (T m ++ [101, 108, 115, 101] :: T e))) := by
  refine Puts.of fun out hb => ?_
  try simp only [List.length_append, List.length_cons, List.length_nil] at hb
  refine .run ttab_ok func34 rfl (by kernel_rfl) (by simp [f34]) rfl ?_
  conv => whnf
  repeat' first
    | (intro h; exfalso; revert h; simp; done)
    | (intro _; conv => whnf)
    | (apply And.intro <;> (conv => whnf))
    | (refine AllRow.of rfl ?_; conv => whnf)
    | (apply AllRow.map; intro _ _; conv => whnf)
    | (refine CallG.lend call44 [0, 1] (by simp) (by simp) (by simp [isArr, pinsOf, prR]) (put_ok t [_] _ (by first | omega | (simp only [List.length_append, List.length_cons, List.length_nil]; omega) | (simp at *; omega))) ?_; rintro _ _ ⟨rfl, rfl⟩; refine ⟨by simp [prR], ?_⟩; conv => whnf)
    | (refine CallG.lend call44 [0, 1] (by simp) (by simp) (by simp [isArr, pinsOf, prR]) (put_ok t [_, _] _ (by first | omega | (simp only [List.length_append, List.length_cons, List.length_nil]; omega) | (simp at *; omega))) ?_; rintro _ _ ⟨rfl, rfl⟩; refine ⟨by simp [prR], ?_⟩; conv => whnf)
    | (refine CallG.lend call44 [0, 1] (by simp) (by simp) (by simp [isArr, pinsOf, prR]) (put_ok t [_, _, _] _ (by first | omega | (simp only [List.length_append, List.length_cons, List.length_nil]; omega) | (simp at *; omega))) ?_; rintro _ _ ⟨rfl, rfl⟩; refine ⟨by simp [prR], ?_⟩; conv => whnf)
    | (refine CallG.lend call49 [0, 1] (by simp) (by simp) (by simp [isArr, pinsOf, prR]) (op_ok hk false _ (by first | omega | (simp only [List.length_append, List.length_cons, List.length_nil]; omega) | (simp at *; omega))) ?_; rintro _ _ ⟨rfl, rfl⟩; refine ⟨by simp [prR], ?_⟩; conv => whnf)
    | (refine CallG.lend call20 [0, 1] (by simp) (by simp) (by simp [isArr, pinsOf, prR]) (hm.put _ (by first | omega | (simp only [List.length_append, List.length_cons, List.length_nil]; omega) | (simp at *; omega))) ?_; rintro _ _ ⟨rfl, rfl⟩; refine ⟨by simp [prR], ?_⟩; conv => whnf)
    | (refine CallG.lend call20 [0, 1] (by simp) (by simp) (by simp [isArr, pinsOf, prR]) (he.put _ (by first | omega | (simp only [List.length_append, List.length_cons, List.length_nil]; omega) | (simp at *; omega))) ?_; rintro _ _ ⟨rfl, rfl⟩; refine ⟨by simp [prR], ?_⟩; conv => whnf)
    | exact ⟨rfl⟩
    | fail
  all_goals try (refine Side.mk ?_; first | omega | (simp; done) | (intro row hr; obtain ⟨_, _, rfl⟩ := List.mem_map.1 hr; rfl) | (simp only [List.length_map, List.length_cons, List.length_nil]; omega) | (dsimp only; simp only [List.length_map]; omega))
  all_goals try (exfalso; omega)
  all_goals try (exfalso; dsimp only at *; omega)
  all_goals exact FinPr.mk' (by simp) (by simp)
theorem expr46_ok (t : List Al.Node) (T : Int → List Bytes) (nm : Bytes) (num : Int) (k : Int) (ks : List Int) (fr to : Int) (hk : Kid t T k) (hl : ks.length ≤ 17592186043904) (ih : ∀ k, k ∈ ks → Kid t T k) : Puts t 34 [aNode ⟨46, nm, num, k :: ks, fr, to⟩] ([109, 97, 116, 99, 104] :: (opT t T k false ++ ([123] :: (listT T ks ++ [[125]])))) := by
  refine Puts.of fun out hb => ?_
  try simp only [List.length_append, List.length_cons, List.length_nil] at hb
  refine .run ttab_ok func34 rfl (by kernel_rfl) (by simp [f34]) rfl ?_
  conv => whnf
  repeat' first
    | (refine CallG.at [.ptr 0 0 0, .d (dInts ks)] ?ha ?_; (case ha => (simp [dInts, List.take_of_length_le]; done)); refine CallG.lend call46 [0, 1] (by simp) (by simp) (by simp [isArr, pinsOf, prR]) (list_ok t T ks (by omega) ih _ (by first | omega | (simp only [List.length_append, List.length_cons, List.length_nil]; omega))) ?_; rintro _ _ ⟨rfl, rfl⟩; refine ⟨by simp [prR], ?_⟩; conv => whnf)
    | (intro h; exfalso; revert h; simp; done)
    | (intro _; conv => whnf)
    | (apply And.intro <;> (conv => whnf))
    | (refine AllRow.of rfl ?_; conv => whnf)
    | (apply AllRow.map; intro _ _; conv => whnf)
    | (refine CallG.lend call44 [0, 1] (by simp) (by simp) (by simp [isArr, pinsOf, prR]) (put_ok t [_] _ (by first | omega | (simp only [List.length_append, List.length_cons, List.length_nil]; omega) | (simp at *; omega))) ?_; rintro _ _ ⟨rfl, rfl⟩; refine ⟨by simp [prR], ?_⟩; conv => whnf)
    | (refine CallG.lend call44 [0, 1] (by simp) (by simp) (by simp [isArr, pinsOf, prR]) (put_ok t [_, _] _ (by first | omega | (simp only [List.length_append, List.length_cons, List.length_nil]; omega) | (simp at *; omega))) ?_; rintro _ _ ⟨rfl, rfl⟩; refine ⟨by simp [prR], ?_⟩; conv => whnf)
    | (refine CallG.lend call44 [0, 1] (by simp) (by simp) (by simp [isArr, pinsOf, prR]) (put_ok t [_, _, _] _ (by first | omega | (simp only [List.length_append, List.length_cons, List.length_nil]; omega) | (simp at *; omega))) ?_; rintro _ _ ⟨rfl, rfl⟩; refine ⟨by simp [prR], ?_⟩; conv => whnf)
    | (refine CallG.lend call49 [0, 1] (by simp) (by simp) (by simp [isArr, pinsOf, prR]) (op_ok hk false _ (by first | omega | (simp only [List.length_append, List.length_cons, List.length_nil]; omega) | (simp at *; omega))) ?_; rintro _ _ ⟨rfl, rfl⟩; refine ⟨by simp [prR], ?_⟩; conv => whnf)
    | exact ⟨rfl⟩
    | fail
  all_goals try (refine Side.mk ?_; first | omega | (simp; done) | (intro row hr; obtain ⟨_, _, rfl⟩ := List.mem_map.1 hr; rfl) | (simp only [List.length_map, List.length_cons, List.length_nil]; omega) | (dsimp only; simp only [List.length_map]; omega))
  all_goals try (exfalso; omega)
  all_goals try (exfalso; dsimp only at *; omega)
  all_goals exact FinPr.mk' (by simp) (by simp)
theorem function_ok (t : List Al.Node) (T : Int → List Bytes) (nm : Bytes) (n : Nat) (ks : List Int) (fr to : Int) (hl : ks.length ≤ 17592186043904) (ih : ∀ k, k ∈ ks → Kid t T k) (hn : ks.length = n + 2) (a : Int) (ha : ks[n]? = some a) (b : Int) (hb2 : ks[n + 1]? = some b) :
    Puts t 45 [aNode ⟨2, nm, n, ks, fr, to⟩] ([102, 110] :: nm :: [40] :: (listT T (ks.take n) ++ ([41] :: ((if kindAt t a = 12 then [] else [45, 62] :: T a) ++ T b)))) := by
  have hka := ih a (List.mem_of_getElem? ha)
  have hkb := ih b (List.mem_of_getElem? hb2)
  have ihn : ∀ k, k ∈ ks.take n → Kid t T k := fun k hk => ih k (List.mem_of_mem_take hk)
  have hln : (ks.take n).length ≤ 140737488355328 := by simp; omega
  obtain ⟨y, hy⟩ := hka.node
  have h0 := hka.lo
  have h1 := hka.hi
  rw [kindAt_eq hy]
  have hrow1 : lat (List.map rI ks) (n : Int).toNat = some (rI a) := by rw [lat_eq, List.getElem?_map, Int.toNat_natCast, ha]; rfl
  have hrow2 : lat (List.map rI ks) ((n : Int) + 1).toNat = some (rI b) := by rw [lat_eq, List.getElem?_map, show ((n : Int) + 1).toNat = n + 1 by omega, hb2]; rfl
  have hrow3 : lat (List.map rNode t) a.toNat = some (rNode y) := by rw [lat_eq, List.getElem?_map, hy]; rfl
  by_cases h12 : y.kind = 12
  · rw [if_pos h12]
    refine Puts.of fun out hb => ?_
    try simp only [List.length_append, List.length_cons, List.length_nil] at hb
    refine .run ttab_ok func45 rfl (by kernel_rfl) (by simp [f45]) rfl ?_
    conv => whnf
    repeat' first
      | (refine CallG.at [.ptr 0 0 0, .d (dInts (ks.take n))] ?ha ?_; (case ha => (simp [dInts, List.map_take]; done)); refine CallG.lend call46 [0, 1] (by simp) (by simp) (by simp [isArr, pinsOf, prR]) (list_ok t T (ks.take n) hln ihn _ (by first | omega | (simp only [List.length_append, List.length_cons, List.length_nil]; omega))) ?_; rintro _ _ ⟨rfl, rfl⟩; refine ⟨by simp [prR], ?_⟩; conv => whnf)
      | (first | (refine AllRow.of hrow1 ?_; conv => whnf) | (refine AllRow.of hrow2 ?_; conv => whnf) | (refine AllRow.of hrow3 ?_; conv => whnf))
      | (intro h; exfalso; revert h; simp; done)
      | (intro _; conv => whnf)
      | (apply And.intro <;> (conv => whnf))
      | (refine AllRow.of rfl ?_; conv => whnf)
      | (apply AllRow.map; intro _ _; conv => whnf)
      | (refine CallG.lend call44 [0, 1] (by simp) (by simp) (by simp [isArr, pinsOf, prR]) (put_ok t [_] _ (by first | omega | (simp only [List.length_append, List.length_cons, List.length_nil]; omega) | (simp at *; omega))) ?_; rintro _ _ ⟨rfl, rfl⟩; refine ⟨by simp [prR], ?_⟩; conv => whnf)
      | (refine CallG.lend call44 [0, 1] (by simp) (by simp) (by simp [isArr, pinsOf, prR]) (put_ok t [_, _] _ (by first | omega | (simp only [List.length_append, List.length_cons, List.length_nil]; omega) | (simp at *; omega))) ?_; rintro _ _ ⟨rfl, rfl⟩; refine ⟨by simp [prR], ?_⟩; conv => whnf)
      | (refine CallG.lend call44 [0, 1] (by simp) (by simp) (by simp [isArr, pinsOf, prR]) (put_ok t [_, _, _] _ (by first | omega | (simp only [List.length_append, List.length_cons, List.length_nil]; omega) | (simp at *; omega))) ?_; rintro _ _ ⟨rfl, rfl⟩; refine ⟨by simp [prR], ?_⟩; conv => whnf)
      | (refine CallG.lend call20 [0, 1] (by simp) (by simp) (by simp [isArr, pinsOf, prR]) (hka.put _ (by first | omega | (simp only [List.length_append, List.length_cons, List.length_nil]; omega) | (simp at *; omega))) ?_; rintro _ _ ⟨rfl, rfl⟩; refine ⟨by simp [prR], ?_⟩; conv => whnf)
      | (refine CallG.lend call20 [0, 1] (by simp) (by simp) (by simp [isArr, pinsOf, prR]) (hkb.put _ (by first | omega | (simp only [List.length_append, List.length_cons, List.length_nil]; omega) | (simp at *; omega))) ?_; rintro _ _ ⟨rfl, rfl⟩; refine ⟨by simp [prR], ?_⟩; conv => whnf)
      | exact ⟨rfl⟩
      | fail
    all_goals try (exfalso; first | contradiction | (rename_i hq; exact hq h12) | (rename_i hq; exact h12 hq))
    all_goals try (refine Side.mk ?_; first | omega | (simp; done) | (intro row hr; obtain ⟨_, _, rfl⟩ := List.mem_map.1 hr; rfl) | (simp only [List.length_map, List.length_cons, List.length_nil]; omega) | (dsimp only; simp only [List.length_map]; omega))
    all_goals try (exfalso; omega)
    all_goals try (exfalso; dsimp only at *; omega)
    all_goals exact FinPr.mk' (by simp) (by simp)
  · rw [if_neg h12]
    refine Puts.of fun out hb => ?_
    try simp only [List.length_append, List.length_cons, List.length_nil] at hb
    refine .run ttab_ok func45 rfl (by kernel_rfl) (by simp [f45]) rfl ?_
    conv => whnf
    repeat' first
      | (refine CallG.at [.ptr 0 0 0, .d (dInts (ks.take n))] ?ha ?_; (case ha => (simp [dInts, List.map_take]; done)); refine CallG.lend call46 [0, 1] (by simp) (by simp) (by simp [isArr, pinsOf, prR]) (list_ok t T (ks.take n) hln ihn _ (by first | omega | (simp only [List.length_append, List.length_cons, List.length_nil]; omega))) ?_; rintro _ _ ⟨rfl, rfl⟩; refine ⟨by simp [prR], ?_⟩; conv => whnf)
      | (first | (refine AllRow.of hrow1 ?_; conv => whnf) | (refine AllRow.of hrow2 ?_; conv => whnf) | (refine AllRow.of hrow3 ?_; conv => whnf))
      | (intro h; exfalso; revert h; simp; done)
      | (intro _; conv => whnf)
      | (apply And.intro <;> (conv => whnf))
      | (refine AllRow.of rfl ?_; conv => whnf)
      | (apply AllRow.map; intro _ _; conv => whnf)
      | (refine CallG.lend call44 [0, 1] (by simp) (by simp) (by simp [isArr, pinsOf, prR]) (put_ok t [_] _ (by first | omega | (simp only [List.length_append, List.length_cons, List.length_nil]; omega) | (simp at *; omega))) ?_; rintro _ _ ⟨rfl, rfl⟩; refine ⟨by simp [prR], ?_⟩; conv => whnf)
      | (refine CallG.lend call44 [0, 1] (by simp) (by simp) (by simp [isArr, pinsOf, prR]) (put_ok t [_, _] _ (by first | omega | (simp only [List.length_append, List.length_cons, List.length_nil]; omega) | (simp at *; omega))) ?_; rintro _ _ ⟨rfl, rfl⟩; refine ⟨by simp [prR], ?_⟩; conv => whnf)
      | (refine CallG.lend call44 [0, 1] (by simp) (by simp) (by simp [isArr, pinsOf, prR]) (put_ok t [_, _, _] _ (by first | omega | (simp only [List.length_append, List.length_cons, List.length_nil]; omega) | (simp at *; omega))) ?_; rintro _ _ ⟨rfl, rfl⟩; refine ⟨by simp [prR], ?_⟩; conv => whnf)
      | (refine CallG.lend call20 [0, 1] (by simp) (by simp) (by simp [isArr, pinsOf, prR]) (hka.put _ (by first | omega | (simp only [List.length_append, List.length_cons, List.length_nil]; omega) | (simp at *; omega))) ?_; rintro _ _ ⟨rfl, rfl⟩; refine ⟨by simp [prR], ?_⟩; conv => whnf)
      | (refine CallG.lend call20 [0, 1] (by simp) (by simp) (by simp [isArr, pinsOf, prR]) (hkb.put _ (by first | omega | (simp only [List.length_append, List.length_cons, List.length_nil]; omega) | (simp at *; omega))) ?_; rintro _ _ ⟨rfl, rfl⟩; refine ⟨by simp [prR], ?_⟩; conv => whnf)
      | exact ⟨rfl⟩
      | fail
    all_goals try (exfalso; first | contradiction | (rename_i hq; exact hq h12) | (rename_i hq; exact h12 hq))
    all_goals try (refine Side.mk ?_; first | omega | (simp; done) | (intro row hr; obtain ⟨_, _, rfl⟩ := List.mem_map.1 hr; rfl) | (simp only [List.length_map, List.length_cons, List.length_nil]; omega) | (dsimp only; simp only [List.length_map]; omega))
    all_goals try (exfalso; omega)
    all_goals try (exfalso; dsimp only at *; omega)
    all_goals exact FinPr.mk' (by simp) (by simp)
end Go.Proofs.Tryd
