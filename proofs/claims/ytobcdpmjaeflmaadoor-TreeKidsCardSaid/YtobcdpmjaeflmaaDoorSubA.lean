/- Contracts of package tree: Sub. -/
import Derived.Test.YtobcdpmjaeflmaaDoorTreeAll
import Derived.Test.YtobcdpmjaeflmaaDoorAl4
set_option linter.unusedVariables false
set_option linter.unusedSimpArgs false
namespace Go.Proofs.Tryd
open Go Go.Al
set_option maxRecDepth 20000
set_option linter.unusedVariables false
def rB (b : Bool) : List D := [dB b]
def inTo (up : List Int) (n : Nat) : Nat → List Bool
  | 0 => List.replicate (n + 1) false
  | c + 1 => (inTo up n c).set (n - c) (decide (n - c = n) || (match up[n - c]? with
    | some u => decide (u ≤ n) && (decide (0 ≤ u) && (inTo up n c).getD u.toNat false)
    | none => false))
theorem inTo_length (up : List Int) (n : Nat) : ∀ c, (inTo up n c).length = n + 1
  | 0 => by simp [inTo]
  | c + 1 => by simp [inTo, inTo_length up n c]
theorem rowsB_set (l : List Bool) (i j : Nat) (v w : Bool) (e : j = i) : List.set (List.map rB l) j (splice (rB w) 0 [D.con (.bool v)]) = List.map rB (l.set i v) := by
  subst e
  rw [List.map_set]
  rfl
theorem inTo_next {up : List Int} {n c : Nat} {v : Bool} (hv : (decide (n - c = n) || (match up[n - c]? with
    | some u => decide (u ≤ n) && (decide (0 ≤ u) && (inTo up n c).getD u.toNat false)
    | none => false)) = v) : inTo up n (c + 1) = (inTo up n c).set (n - c) v := by rw [← hv]; rfl
def subStep (pl : List Int) (out : List Al.Node) (i : Nat) (x : Al.Node) : List Int × List Al.Node :=
  (pl.set i out.length, out ++ [{ x with kids := x.kids.map fun k => (pl.set i out.length).getD k.toNat 0 }])
def subTo (t : List Al.Node) (m : Nat) (ins : List Bool) : Nat → List Int × List Al.Node
  | 0 => (List.replicate m 0, [])
  | i + 1 => match t[i]? with
    | some x => if ins.getD i false then subStep (subTo t m ins i).1 (subTo t m ins i).2 i x else subTo t m ins i
    | none => subTo t m ins i
theorem subTo_len (t : List Al.Node) (m : Nat) (ins : List Bool) : ∀ i, (subTo t m ins i).1.length = m ∧ (subTo t m ins i).2.length ≤ i
  | 0 => by simp [subTo]
  | i + 1 => by
    have ih := subTo_len t m ins i
    simp only [subTo]
    split
    · split
      · simp only [subStep, List.length_set, List.length_append, List.length_cons, List.length_nil]
        omega
      · omega
    · omega
theorem subTo_in {t : List Al.Node} {m i : Nat} {ins : List Bool} {x : Al.Node} (hx : t[i]? = some x) (hi : ins[i]? = some true) : subTo t m ins (i + 1) = subStep (subTo t m ins i).1 (subTo t m ins i).2 i x := by
  simp only [subTo, hx, List.getD_eq_getElem?_getD, hi]
  rfl
theorem subTo_out {t : List Al.Node} {m i : Nat} {ins : List Bool} (hi : ins[i]? = some false) : subTo t m ins (i + 1) = subTo t m ins i := by
  simp only [subTo, List.getD_eq_getElem?_getD, hi]
  split <;> rfl
def inS (up : List Int) (n : Nat) : List Bool := inTo up n (n + 1)
def subS (t : List Al.Node) (n : Nat) : List Al.Node := (subTo t (n + 1) (inS (upS t) n) (n + 1)).2
def aNil : AV := .agg [.d (.con (.slice none 0 0))]
theorem Sub_bad (t : List Al.Node) (ht : okTree t) (n : Int) (h : checkS t = false) : SPure prog 12 [aTree t, I n] (.tup [aNil, I 3]) := by
  refine .run ttab_ok func12 rfl (by kernel_rfl) (by simp [f12]) rfl ?_
  conv => whnf
  repeat' first
    | (intro h; exfalso; revert h; simp; done)
    | (intro _; conv => whnf)
    | (apply And.intro <;> (conv => whnf))
    | (refine AllRow.of rfl ?_; conv => whnf)
    | (apply AllRow.map; intro _ _; conv => whnf)
    | (refine CallG.con call18 rfl (checkBad_ok ht h) ?_; conv => whnf)
    | (refine CallQG.con call18 rfl (checkBad_ok ht h) ?_; conv => whnf)
    | exact ⟨rfl⟩
    | fail
theorem Sub_out (t : List Al.Node) (ht : okTree t) (n : Int) (h : checkS t = true) (hn : n < 0 ∨ n ≥ t.length) : SPure prog 12 [aTree t, I n] (.tup [aNil, I 9]) := by
  refine .run ttab_ok func12 rfl (by kernel_rfl) (by simp [f12]) rfl ?_
  conv => whnf
  repeat' first
    | (intro h; exfalso; revert h; simp; done)
    | (intro _; conv => whnf)
    | (apply And.intro <;> (conv => whnf))
    | (refine AllRow.of rfl ?_; conv => whnf)
    | (apply AllRow.map; intro _ _; conv => whnf)
    | (refine CallG.con call18 rfl (checkGood_ok ht h) ?_; conv => whnf)
    | (refine CallQG.con call18 rfl (checkGood_ok ht h) ?_; conv => whnf)
    | exact ⟨rfl⟩
    | fail
  all_goals first | exact ⟨rfl⟩ | (exfalso; simp only [List.length_map] at *; omega)
theorem Sub_good (t : List Al.Node) (ht : okTree t) (n : Nat) (h : checkS t = true) (hn : n < t.length) : SPure prog 12 [aTree t, I n] (.tup [aTree (subS t n), I 0]) := by
  have hg := good_of h
  have hl := ht.len
  refine .run ttab_ok func12 rfl (by kernel_rfl) (by simp [f12]) rfl ?_
  conv => whnf
  repeat' first
    | (intro h; exfalso; revert h; simp; done)
    | (intro _; conv => whnf)
    | (apply And.intro <;> (conv => whnf))
    | (refine AllRow.of rfl ?_; conv => whnf)
    | (apply AllRow.map; intro _ _; conv => whnf)
    | (refine CallG.con call18 rfl (checkGood_ok ht h) ?_; conv => whnf)
    | (refine CallQG.con call18 rfl (checkGood_ok ht h) ?_; conv => whnf)
    | (refine CallG.eq call22 rfl (parentsGood_ok ht hg) ?_; conv => whnf)
    | exact ⟨rfl⟩
    | fail
  all_goals try simp only [List.length_map] at *
  all_goals try (exact ⟨by omega⟩)
  have hup := hg.up
  refine LoopG.of ttab_ok [1, 2, 4, 6, 8, 9, 10] [0, 1, 2, 3] (fun (c : Nat) => ⟨[(1, I n), (2, .ptr 0 0 0), (4, .ptr 1 0 0), (6, .d (dInts (upS t))), (8, .vs 2 0 (n + 1)), (9, .vs 3 0 (n + 1)), (10, I ((n : Int) - c))],
    [.box [.d (dNodes t)], .box [.d (.con (.slice none 0 0))], .arr 1 ((inTo (upS t) n c).map rB) 0, .arr 1 ((List.replicate (n + 1) 0).map rI) 0]⟩) (fun c => c ≤ n + 1) (fun c => n + 1 - c) 0 (by kernel_rfl) (by simp) (by simp) (by simp) ?hs (by omega) ?_
  case hs =>
    rw [show ((n : Int) + 1).toNat = n + 1 by omega]
    first
      | (simp only [keepSt, keepE, Al.look, envOf, lend, ren, renL, renR, posOf, List.map_cons, List.map_nil]; done)
      | (simp only [keepSt, keepE, Al.look, envOf, lend, ren, renL, renR, posOf, List.map_cons, List.map_nil]; simp [I, S, B, U8, dI, dS, dB, dU8, dInts, dStrs, dNodes, ren, renL, renR, posOf, Al.look, envOf, inTo, rB, rI])
      | (simp [keepSt, keepE, lend, I, S, B, U8, dI, dS, dB, dU8, dInts, dStrs, dNodes, ren, renL, renR, posOf, Al.look, envOf, inTo, rB, rI])
  intro c hc
  have hlen := inTo_length (upS t) n c
  conv => whnf
  repeat' first
    | (intro _; conv => whnf)
    | (apply And.intro <;> (conv => whnf))
    | (refine AllRow.of rfl ?_; conv => whnf)
    | (apply AllRow.map; intro _ _; conv => whnf)
    | exact ⟨rfl⟩
    | fail
  all_goals try simp only [Int.toNat_natCast, List.length_map, Nat.zero_add] at *
  all_goals try (exact ⟨by omega⟩)
  all_goals try (refine Side.mk ?_; simp [rB]; done)
  · rename_i h0 hcn z hz
    have e : ((n : Int) - c).toNat = n - c := by omega
    refine RoundG.mk' (c + 1) (by simp) ?_ (by omega) (by omega)
    rw [rowsB_set _ (n - c) _ _ _ e, ← inTo_next (v := true) (by rw [decide_eq_true (by omega)]; rfl), show (n : Int) - c - 1 = (n : Int) - ((c + 1 : Nat) : Int) by omega]
    first
      | (simp only [keepSt, keepE, Al.look, envOf, lend, ren, renL, renR, posOf, List.map_cons, List.map_nil]; done)
      | (simp only [keepSt, keepE, Al.look, envOf, lend, ren, renL, renR, posOf, List.map_cons, List.map_nil]; simp [I, S, B, U8, dI, dS, dB, dU8, dInts, dStrs, dNodes, ren, renL, renR, posOf, Al.look, envOf])
      | (simp [keepSt, keepE, lend, I, S, B, U8, dI, dS, dB, dU8, dInts, dStrs, dNodes, ren, renL, renR, posOf, Al.look, envOf])
  · rename_i h0 hcn u hu hle u1 hu1 hge u2 hu2
    rw [hu] at hu1 hu2; cases hu1; cases hu2
    exact ⟨by omega⟩
  · rename_i h0 hcn u hu hle u1 hu1 hge u2 hu2
    rw [hu] at hu1 hu2; cases hu1; cases hu2
    exact ⟨by omega⟩
  · rename_i h0 hcn u hu hle u1 hu1 hge u2 hu2 b hb z hib hz
    rw [hu] at hu1 hu2; cases hu1; cases hu2
    have e : ((n : Int) - c).toNat = n - c := by omega
    rw [e] at hu
    refine RoundG.mk' (c + 1) (by simp) ?_ (by omega) (by omega)
    rw [rowsB_set _ (n - c) _ _ _ e, ← inTo_next (v := true) (by rw [hu]; simp [List.getD_eq_getElem?_getD, hib, hb]; omega), show (n : Int) - c - 1 = (n : Int) - ((c + 1 : Nat) : Int) by omega]
    first
      | (simp only [keepSt, keepE, Al.look, envOf, lend, ren, renL, renR, posOf, List.map_cons, List.map_nil]; done)
      | (simp only [keepSt, keepE, Al.look, envOf, lend, ren, renL, renR, posOf, List.map_cons, List.map_nil]; simp [I, S, B, U8, dI, dS, dB, dU8, dInts, dStrs, dNodes, ren, renL, renR, posOf, Al.look, envOf])
      | (simp [keepSt, keepE, lend, I, S, B, U8, dI, dS, dB, dU8, dInts, dStrs, dNodes, ren, renL, renR, posOf, Al.look, envOf])
  · rename_i h0 hcn u hu hle u1 hu1 hge u2 hu2 b hb z hib hz
    rw [hu] at hu1 hu2; cases hu1; cases hu2
    have e : ((n : Int) - c).toNat = n - c := by omega
    rw [e] at hu
    refine RoundG.mk' (c + 1) (by simp) ?_ (by omega) (by omega)
    rw [rowsB_set _ (n - c) _ _ _ e, ← inTo_next (v := false) (by rw [hu]; simp [List.getD_eq_getElem?_getD, hib, hb]; omega), show (n : Int) - c - 1 = (n : Int) - ((c + 1 : Nat) : Int) by omega]
    first
      | (simp only [keepSt, keepE, Al.look, envOf, lend, ren, renL, renR, posOf, List.map_cons, List.map_nil]; done)
      | (simp only [keepSt, keepE, Al.look, envOf, lend, ren, renL, renR, posOf, List.map_cons, List.map_nil]; simp [I, S, B, U8, dI, dS, dB, dU8, dInts, dStrs, dNodes, ren, renL, renR, posOf, Al.look, envOf])
      | (simp [keepSt, keepE, lend, I, S, B, U8, dI, dS, dB, dU8, dInts, dStrs, dNodes, ren, renL, renR, posOf, Al.look, envOf])
  · rename_i h0 hcn u hu hle u1 hu1 hge z hz
    rw [hu] at hu1; cases hu1
    have e : ((n : Int) - c).toNat = n - c := by omega
    rw [e] at hu
    refine RoundG.mk' (c + 1) (by simp) ?_ (by omega) (by omega)
    rw [rowsB_set _ (n - c) _ _ _ e, ← inTo_next (v := false) (by rw [hu]; simp; omega), show (n : Int) - c - 1 = (n : Int) - ((c + 1 : Nat) : Int) by omega]
    first
      | (simp only [keepSt, keepE, Al.look, envOf, lend, ren, renL, renR, posOf, List.map_cons, List.map_nil]; done)
      | (simp only [keepSt, keepE, Al.look, envOf, lend, ren, renL, renR, posOf, List.map_cons, List.map_nil]; simp [I, S, B, U8, dI, dS, dB, dU8, dInts, dStrs, dNodes, ren, renL, renR, posOf, Al.look, envOf])
      | (simp [keepSt, keepE, lend, I, S, B, U8, dI, dS, dB, dU8, dInts, dStrs, dNodes, ren, renL, renR, posOf, Al.look, envOf])
  · rename_i h0 hcn u hu hle z hz
    have e : ((n : Int) - c).toNat = n - c := by omega
    rw [e] at hu
    refine RoundG.mk' (c + 1) (by simp) ?_ (by omega) (by omega)
    rw [rowsB_set _ (n - c) _ _ _ e, ← inTo_next (v := false) (by rw [hu]; simp; omega), show (n : Int) - c - 1 = (n : Int) - ((c + 1 : Nat) : Int) by omega]
    first
      | (simp only [keepSt, keepE, Al.look, envOf, lend, ren, renL, renR, posOf, List.map_cons, List.map_nil]; done)
      | (simp only [keepSt, keepE, Al.look, envOf, lend, ren, renL, renR, posOf, List.map_cons, List.map_nil]; simp [I, S, B, U8, dI, dS, dB, dU8, dInts, dStrs, dNodes, ren, renL, renR, posOf, Al.look, envOf])
      | (simp [keepSt, keepE, lend, I, S, B, U8, dI, dS, dB, dU8, dInts, dStrs, dNodes, ren, renL, renR, posOf, Al.look, envOf])
  · rename_i h0
    have hcn : c = n + 1 := by omega
    subst hcn
    refine LoopG.weak (Weak.openBox 4 0 6 _ rfl rfl) ?_
    refine LoopG.of ttab_ok [2, 4, 8, 9, 11, 77, 78] [0, 1, 2, 3, 4, 5] (fun (i : Nat) => ⟨[(2, .ptr 0 0 0), (4, .ptr 1 0 0), (8, .vs 2 0 (n + 1)), (9, .vs 3 0 (n + 1)), (11, .ptr 4 0 0), (77, I ((n + 1 : Nat) : Int)), (78, I i)],
      [.box [.d (dNodes t)], .box [.d (.con (.slice none 0 0))], .arr 1 ((inS (upS t) n).map rB) 0, .arr 1 ((subTo t (n + 1) (inS (upS t) n) i).1.map rI) 0, .box [.vs 5 0 (subTo t (n + 1) (inS (upS t) n) i).2.length], .arr 6 ((subTo t (n + 1) (inS (upS t) n) i).2.map rNode) 0]⟩)
      (fun i => i ≤ n + 1) (fun i => n + 1 - i) 0 (by kernel_rfl) (by simp) (by simp) (by simp) ?hs (by omega) ?_
    case hs =>
      first
        | (simp only [keepSt, keepE, Al.look, envOf, lend, ren, renL, renR, posOf, List.map_cons, List.map_nil]; done)
        | (simp only [keepSt, keepE, Al.look, envOf, lend, ren, renL, renR, posOf, List.map_cons, List.map_nil]; simp [I, S, B, U8, dI, dS, dB, dU8, dInts, dStrs, dNodes, ren, renL, renR, posOf, Al.look, envOf, subTo, inS, rB, rI])
        | (simp [keepSt, keepE, lend, I, S, B, U8, dI, dS, dB, dU8, dInts, dStrs, dNodes, ren, renL, renR, posOf, Al.look, envOf, subTo, inS, rB, rI])
    intro i hi
    have hil : (inS (upS t) n).length = n + 1 := inTo_length _ _ _
    have hsl := subTo_len t (n + 1) (inS (upS t) n) i
    conv => whnf
    repeat' first
      | (intro _; conv => whnf)
      | (apply And.intro <;> (conv => whnf))
      | (refine AllRow.of rfl ?_; conv => whnf)
      | (apply AllRow.map; intro _ _; conv => whnf)
      | exact ⟨rfl⟩
      | fail
    all_goals try simp only [Int.toNat_natCast, List.length_map, Nat.zero_add] at *
    all_goals try (exact ⟨by omega⟩)
    all_goals try (refine Side.mk ?_; simp [rI]; done)
    · rename_i hlt b hb pv x hx y hy hib hpv
      rw [hx] at hy; cases hy
      subst hb
      have hstep := subTo_in (m := n + 1) hx hib
      generalize hsi : subTo t (n + 1) (inS (upS t) n) i = si at *
      obtain ⟨pl, out⟩ := si
      dsimp only at hsl hpv hstep ⊢
      have hkids := hg.kids hx
      have hkl := (ht.node _ (List.mem_of_getElem? hx)).len
      rw [rows_set _ i _ _ _ rfl]
      refine LoopG.weak (Weak.openBox 6 3 1 _ rfl rfl) ?_
      refine LoopG.of ttab_ok [2, 4, 8, 9, 11, 12, 13, 77, 78, 103, 104, 105] [0, 1, 2, 3, 4, 5, 6, 7] (fun (j : Nat) => ⟨[(2, .ptr 0 0 0), (4, .ptr 1 0 0), (8, .vs 2 0 (n + 1)), (9, .vs 3 0 (n + 1)), (11, .ptr 4 0 0), (12, I i), (13, .ptr 6 0 0), (77, I ((n + 1 : Nat) : Int)), (78, I i),
        (103, .d (dInts x.kids)), (104, I x.kids.length), (105, I j)],
        [.box [.d (dNodes t)], .box [.d (.con (.slice none 0 0))], .arr 1 ((inS (upS t) n).map rB) 0, .arr 1 ((pl.set i out.length).map rI) 0, .box [.vs 5 0 out.length], .arr 6 (out.map rNode) 0,
          .box [.d (dI x.kind), .d (dS x.name), .d (dI x.num), .vs 7 0 j, .d (dI x.frm), .d (dI x.to)], .arr 1 (((x.kids.take j).map fun k => (pl.set i out.length).getD k.toNat 0).map rI) 0]⟩)
        (fun j => j ≤ x.kids.length) (fun j => x.kids.length - j) 0 (by kernel_rfl) (by simp) (by simp) (by simp) ?hs2 (by omega) ?_
      case hs2 =>
        first
          | (simp only [keepSt, keepE, Al.look, envOf, lend, ren, renL, renR, posOf, List.map_cons, List.map_nil]; done)
          | (simp only [keepSt, keepE, Al.look, envOf, lend, ren, renL, renR, posOf, List.map_cons, List.map_nil]; simp [I, S, B, U8, dI, dS, dB, dU8, dInts, dStrs, dNodes, ren, renL, renR, posOf, Al.look, envOf, rI, rB, rNode])
          | (simp [keepSt, keepE, lend, I, S, B, U8, dI, dS, dB, dU8, dInts, dStrs, dNodes, ren, renL, renR, posOf, Al.look, envOf, rI, rB, rNode])
      intro j hj
      conv => whnf
      repeat' first
        | (exact Side.mix (by kernel_rfl))
        | (intro _; conv => whnf)
        | (apply And.intro <;> (conv => whnf))
        | (refine AllRow.of rfl ?_; conv => whnf)
        | (apply AllRow.map; intro _ _; conv => whnf)
        | exact ⟨rfl⟩
        | fail
      all_goals try simp only [Int.toNat_natCast, List.length_map, Nat.zero_add] at *
      all_goals try (exact ⟨by omega⟩)
      · rename_i hj' k hk
        have := hkids k (List.mem_of_getElem? hk)
        exact ⟨by omega⟩
      · rename_i hj' k hk
        have := hkids k (List.mem_of_getElem? hk)
        exact ⟨by rw [List.length_set]; omega⟩
      · exact ⟨by simp [oneD, Value.oneCell']⟩
      · refine ⟨?_⟩
        simp [pinsOf]
        omega
      · rename_i hj' k hk v hv
        have e : ((x.kids.take j).map fun k => (pl.set i out.length).getD k.toNat 0).map rI ++ [[D.con (.int .i64 v)]] = ((x.kids.take (j + 1)).map fun k => (pl.set i out.length).getD k.toNat 0).map rI := by
          rw [List.take_add_one, hk]
          simp [List.getD_eq_getElem?_getD, hv, rI, dI]
        refine RoundG.mk' (j + 1) (by simp) ?_ (by omega) (by omega)
        rw [← e]
        first
          | (simp only [keepSt, keepE, Al.look, envOf, lend, ren, renL, renR, posOf, List.map_cons, List.map_nil]; done)
          | (simp only [keepSt, keepE, Al.look, envOf, lend, ren, renL, renR, posOf, List.map_cons, List.map_nil]; simp [I, S, B, U8, dI, dS, dB, dU8, dInts, dStrs, dNodes, ren, renL, renR, posOf, Al.look, envOf, rI, rB, rNode])
          | (simp [keepSt, keepE, lend, I, S, B, U8, dI, dS, dB, dU8, dInts, dStrs, dNodes, ren, renL, renR, posOf, Al.look, envOf, rI, rB, rNode])
        rw [List.take_of_length_le (by simp; omega)]
      · exact ⟨by simp; omega⟩
      · exact ⟨by simp [oneD, Value.oneCell']⟩
      · refine ⟨?_⟩
        simp [pinsOf]
        omega
      · have hjl : j = x.kids.length := by omega
        subst hjl
        refine RoundG.mk' (i + 1) (by simp) ?_ (by omega) (by omega)
        rw [hstep]
        first
          | (simp only [keepSt, keepE, Al.look, envOf, lend, ren, renL, renR, posOf, List.map_cons, List.map_nil]; done)
          | (simp only [keepSt, keepE, Al.look, envOf, lend, ren, renL, renR, posOf, List.map_cons, List.map_nil]; simp [I, S, B, U8, dI, dS, dB, dU8, dInts, dStrs, dNodes, ren, renL, renR, posOf, Al.look, envOf, subStep, rI, rB, rNode])
          | (simp [keepSt, keepE, lend, I, S, B, U8, dI, dS, dB, dU8, dInts, dStrs, dNodes, ren, renL, renR, posOf, Al.look, envOf, subStep, rI, rB, rNode])
        exact ⟨List.take_of_length_le (by simp), List.take_of_length_le (by simp)⟩
    · rename_i hlt b hb hib
      subst hb
      refine RoundG.mk' (i + 1) (by simp) ?_ (by omega) (by omega)
      rw [subTo_out hib]
      first
        | (simp only [keepSt, keepE, Al.look, envOf, lend, ren, renL, renR, posOf, List.map_cons, List.map_nil]; done)
        | (simp only [keepSt, keepE, Al.look, envOf, lend, ren, renL, renR, posOf, List.map_cons, List.map_nil]; simp [I, S, B, U8, dI, dS, dB, dU8, dInts, dStrs, dNodes, ren, renL, renR, posOf, Al.look, envOf, rI, rB, rNode])
        | (simp [keepSt, keepE, lend, I, S, B, U8, dI, dS, dB, dU8, dInts, dStrs, dNodes, ren, renL, renR, posOf, Al.look, envOf, rI, rB, rNode])
    · have hin : i = n + 1 := by omega
      subst hin
      exact ⟨by rw [List.drop_zero, List.take_of_length_le (by simp)]; rfl⟩
end Go.Proofs.Tryd
