/- Contracts of the reference of package tree: Sub. -/
import Derived.Test.YtobcdpmjaeflmaaGreatDoorRefAll
import Derived.Test.YtobcdpmjaeflmaaGreatDoorSubP
set_option pp.deepTerms false
set_option pp.deepTerms.threshold 4
set_option linter.unusedVariables false
set_option linter.unusedSimpArgs false
namespace Go.Proofs.Tryz
open Go Go.Al
set_option maxRecDepth 20000
set_option linter.unusedVariables false
theorem rSub_bad (t : List Al.Node) (ht : okTree t) (n : Int) (h : checkS t = false) : SPure prog 18 [aTree t, I n] (.tup [aNil, I 3]) := by
  refine .run ttab_ok func18 rfl (by kernel_rfl) (by simp [f18]) rfl ?_
  conv => whnf
  repeat' first
    | (intro h; exfalso; revert h; simp; done)
    | (intro _; conv => whnf)
    | (apply And.intro <;> (conv => whnf))
    | (refine AllRow.of rfl ?_; conv => whnf)
    | (apply AllRow.map; intro _ _; conv => whnf)
    | (refine CallG.con call25 rfl (rightGood_ok ht h) ?_; conv => whnf)
    | (refine CallQG.con call25 rfl (rightGood_ok ht h) ?_; conv => whnf)
    | exact ⟨rfl⟩
    | fail
theorem rSub_out (t : List Al.Node) (ht : okTree t) (n : Int) (h : checkS t = true) (hn : n < 0 ∨ n ≥ t.length) : SPure prog 18 [aTree t, I n] (.tup [aNil, I 9]) := by
  refine .run ttab_ok func18 rfl (by kernel_rfl) (by simp [f18]) rfl ?_
  conv => whnf
  repeat' first
    | (intro h; exfalso; revert h; simp; done)
    | (intro _; conv => whnf)
    | (apply And.intro <;> (conv => whnf))
    | (refine AllRow.of rfl ?_; conv => whnf)
    | (apply AllRow.map; intro _ _; conv => whnf)
    | (refine CallG.con call25 rfl (rightGood_ok ht h) ?_; conv => whnf)
    | (refine CallQG.con call25 rfl (rightGood_ok ht h) ?_; conv => whnf)
    | exact ⟨rfl⟩
    | fail
  all_goals first | exact ⟨rfl⟩ | (exfalso; simp only [List.length_map] at *; omega)
theorem AllRow.rep {n i : Nat} {row : List D} {K : List D → Prop} (h : K row) : AllRow (List.replicate n row) i K := ⟨fun r hr => by
  rw [List.eq_of_mem_replicate (List.mem_of_getElem? hr)]; exact h⟩
theorem rin_zero (t : List Al.Node) (n : Nat) (k : Nat) (hk : k = n) : (List.replicate (t.length : Int).toNat [D.con (.bool false)]).set k (splice [D.con (.bool false)] 0 [D.con (.bool true)]) = (rinTo t n 0).map rB := by
  subst hk
  rw [Int.toNat_natCast, rinTo, List.map_set, List.map_replicate]
  rfl
theorem mark_next {ks : List Int} {l : List Bool} {j : Nat} {k : Int} (h : ks[j]? = some k) (v : Bool) : List.set (List.map rB (markTo ks l j)) k.toNat (splice (rB v) 0 [D.con (.bool true)]) = List.map rB (markTo ks l (j + 1)) := by
  simp only [markTo, h]
  rw [List.map_set]
  rfl
theorem rSub_good (t : List Al.Node) (ht : okTree t) (n : Nat) (h : checkS t = true) (hn : n < t.length) : SPure prog 18 [aTree t, I n] (.tup [aTree (subS t n), I 0]) := by
  have hg := good_of h
  have hl := ht.len
  refine .run ttab_ok func18 rfl (by kernel_rfl) (by simp [f18]) rfl ?_
  conv => whnf
  repeat' first
    | (apply AllRow.rep; conv => whnf)
    | (intro h; exfalso; revert h; simp; done)
    | (intro _; conv => whnf)
    | (apply And.intro <;> (conv => whnf))
    | (refine AllRow.of rfl ?_; conv => whnf)
    | (apply AllRow.map; intro _ _; conv => whnf)
    | (refine CallG.con call25 rfl (rightGood_ok ht h) ?_; conv => whnf)
    | (refine CallQG.con call25 rfl (rightGood_ok ht h) ?_; conv => whnf)
    | exact ⟨rfl⟩
    | fail
  all_goals try simp only [List.length_map, List.length_replicate, Int.toNat_natCast, Nat.zero_add] at *
  all_goals try (exact ⟨by omega⟩)
  all_goals try (refine Side.mk ?_; simp; done)
  refine LoopG.of ttab_ok [1, 2, 4, 6, 7] [0, 1, 2] (fun (c : Nat) => ⟨[(1, I n), (2, .ptr 0 0 0), (4, .ptr 1 0 0), (6, .vs 2 0 t.length), (7, I ((n : Int) - c))],
    [.box [.d (dNodes t)], .box [.d (.con (.slice none 0 0))], .arr 1 ((rinTo t n c).map rB) 0]⟩) (fun c => c ≤ n + 1) (fun c => n + 1 - c) 0 (by kernel_rfl) (by simp) (by simp) (by simp) ?hs (by omega) ?_
  case hs =>
    rw [← rin_zero t n n rfl]
    first
      | (simp only [keepSt, keepE, Al.look, envOf, lend, ren, renL, renR, posOf, List.map_cons, List.map_nil]; done)
      | (simp only [keepSt, keepE, Al.look, envOf, lend, ren, renL, renR, posOf, List.map_cons, List.map_nil]; simp [I, S, B, U8, dI, dS, dB, dU8, dInts, dStrs, dNodes, ren, renL, renR, posOf, Al.look, envOf])
      | (simp [keepSt, keepE, lend, I, S, B, U8, dI, dS, dB, dU8, dInts, dStrs, dNodes, ren, renL, renR, posOf, Al.look, envOf])
  intro c hc
  have hlen := rinTo_length t n c
  conv => whnf
  repeat' first
    | (intro _; conv => whnf)
    | (apply And.intro <;> (conv => whnf))
    | (refine AllRow.of rfl ?_; conv => whnf)
    | (apply AllRow.map; intro _ _; conv => whnf)
    | exact ⟨rfl⟩
    | fail
  all_goals try simp only [Int.toNat_natCast, List.length_map, Nat.zero_add] at *
  all_goals try (exact ⟨by omega⟩)
  · rename_i h0 b hb x hx hib
    subst hb
    have e : ((n : Int) - c).toNat = n - c := by omega
    rw [e] at hx hib
    have hxk := hg.inside _ x hx
    have hkl := (ht.node _ (List.mem_of_getElem? hx)).len
    have hnext := rinTo_in hx hib
    refine LoopG.of ttab_ok [1, 2, 4, 6, 7, 52, 53, 54] [0, 1, 2] (fun (j : Nat) => ⟨[(1, I n), (2, .ptr 0 0 0), (4, .ptr 1 0 0), (6, .vs 2 0 t.length), (7, I ((n : Int) - c)), (52, .d (dInts x.kids)), (53, I x.kids.length), (54, I j)],
      [.box [.d (dNodes t)], .box [.d (.con (.slice none 0 0))], .arr 1 ((markTo x.kids (rinTo t n c) j).map rB) 0]⟩) (fun j => j ≤ x.kids.length) (fun j => x.kids.length - j) 0 (by kernel_rfl) (by simp) (by simp) (by simp) ?hs2 (by omega) ?_
    case hs2 =>
      first
        | (simp only [keepSt, keepE, Al.look, envOf, lend, ren, renL, renR, posOf, List.map_cons, List.map_nil]; done)
        | (simp only [keepSt, keepE, Al.look, envOf, lend, ren, renL, renR, posOf, List.map_cons, List.map_nil]; simp [I, S, B, U8, dI, dS, dB, dU8, dInts, dStrs, dNodes, ren, renL, renR, posOf, Al.look, envOf, markTo])
        | (simp [keepSt, keepE, lend, I, S, B, U8, dI, dS, dB, dU8, dInts, dStrs, dNodes, ren, renL, renR, posOf, Al.look, envOf, markTo])
    intro j hj
    have hml := markTo_length x.kids (rinTo t n c) j
    conv => whnf
    repeat' first
      | (intro _; conv => whnf)
      | (apply And.intro <;> (conv => whnf))
      | (refine AllRow.of rfl ?_; conv => whnf)
      | (apply AllRow.map; intro _ _; conv => whnf)
      | exact ⟨rfl⟩
      | fail
    all_goals try simp only [Int.toNat_natCast, List.length_map, Nat.zero_add] at *
    all_goals try (exact ⟨by omega⟩)
    · rename_i hlt k hk
      have := hxk k (List.mem_of_getElem? hk)
      exact ⟨by omega⟩
    · rename_i hlt k hk
      have := hxk k (List.mem_of_getElem? hk)
      exact ⟨by omega⟩
    · exact ⟨by simp [rB]⟩
    · rename_i hlt k hk v hv
      refine RoundG.mk' (j + 1) (by simp) ?_ (by omega) (by omega)
      rw [mark_next hk]
      first
        | (simp only [keepSt, keepE, Al.look, envOf, lend, ren, renL, renR, posOf, List.map_cons, List.map_nil]; done)
        | (simp only [keepSt, keepE, Al.look, envOf, lend, ren, renL, renR, posOf, List.map_cons, List.map_nil]; simp [I, S, B, U8, dI, dS, dB, dU8, dInts, dStrs, dNodes, ren, renL, renR, posOf, Al.look, envOf])
        | (simp [keepSt, keepE, lend, I, S, B, U8, dI, dS, dB, dU8, dInts, dStrs, dNodes, ren, renL, renR, posOf, Al.look, envOf])
    · have hjl : j = x.kids.length := by omega
      subst hjl
      refine RoundG.mk' (c + 1) (by simp) ?_ (by omega) (by omega)
      rw [hnext, show (n : Int) - c - 1 = (n : Int) - ((c + 1 : Nat) : Int) by omega]
      first
        | (simp only [keepSt, keepE, Al.look, envOf, lend, ren, renL, renR, posOf, List.map_cons, List.map_nil]; done)
        | (simp only [keepSt, keepE, Al.look, envOf, lend, ren, renL, renR, posOf, List.map_cons, List.map_nil]; simp [I, S, B, U8, dI, dS, dB, dU8, dInts, dStrs, dNodes, ren, renL, renR, posOf, Al.look, envOf])
        | (simp [keepSt, keepE, lend, I, S, B, U8, dI, dS, dB, dU8, dInts, dStrs, dNodes, ren, renL, renR, posOf, Al.look, envOf])
  · rename_i h0 b hb hib
    subst hb
    have e : ((n : Int) - c).toNat = n - c := by omega
    rw [e] at hib
    refine RoundG.mk' (c + 1) (by simp) ?_ (by omega) (by omega)
    rw [rinTo_out hib, show (n : Int) - c - 1 = (n : Int) - ((c + 1 : Nat) : Int) by omega]
    first
      | (simp only [keepSt, keepE, Al.look, envOf, lend, ren, renL, renR, posOf, List.map_cons, List.map_nil]; done)
      | (simp only [keepSt, keepE, Al.look, envOf, lend, ren, renL, renR, posOf, List.map_cons, List.map_nil]; simp [I, S, B, U8, dI, dS, dB, dU8, dInts, dStrs, dNodes, ren, renL, renR, posOf, Al.look, envOf])
      | (simp [keepSt, keepE, lend, I, S, B, U8, dI, dS, dB, dU8, dInts, dStrs, dNodes, ren, renL, renR, posOf, Al.look, envOf])
  · rename_i h0
    have hcn : c = n + 1 := by omega
    subst hcn
    refine LoopG.weak (Weak.openBox 4 0 6 _ rfl rfl) ?_
    refine LoopG.of ttab_ok [2, 4, 6, 10, 11, 67, 68, 69] [0, 1, 2, 3, 4, 5] (fun (i : Nat) => ⟨[(2, .ptr 0 0 0), (4, .ptr 1 0 0), (6, .vs 2 0 t.length), (10, .vs 3 0 t.length), (11, .ptr 4 0 0), (67, .d (dNodes t)), (68, I t.length), (69, I i)],
      [.box [.d (dNodes t)], .box [.d (.con (.slice none 0 0))], .arr 1 ((rinS t n).map rB) 0, .arr 1 ((subTo t t.length (rinS t n) i).1.map rI) 0, .box [.vs 5 0 (subTo t t.length (rinS t n) i).2.length], .arr 6 ((subTo t t.length (rinS t n) i).2.map rNode) 0]⟩)
      (fun i => i ≤ t.length) (fun i => t.length - i) 0 (by kernel_rfl) (by simp) (by simp) (by simp) ?hs3 (by omega) ?_
    case hs3 =>
      first
        | (simp only [keepSt, keepE, Al.look, envOf, lend, ren, renL, renR, posOf, List.map_cons, List.map_nil]; done)
        | (simp only [keepSt, keepE, Al.look, envOf, lend, ren, renL, renR, posOf, List.map_cons, List.map_nil]; simp [I, S, B, U8, dI, dS, dB, dU8, dInts, dStrs, dNodes, ren, renL, renR, posOf, Al.look, envOf, subTo, rinS, rB, rI])
        | (simp [keepSt, keepE, lend, I, S, B, U8, dI, dS, dB, dU8, dInts, dStrs, dNodes, ren, renL, renR, posOf, Al.look, envOf, subTo, rinS, rB, rI])
    intro i hi
    have hil : (rinS t n).length = t.length := rinTo_length _ _ _
    have hsl := subTo_len t t.length (rinS t n) i
    conv => whnf
    repeat' first
      | (intro _; conv => whnf)
      | (apply And.intro <;> (conv => whnf))
      | (refine AllRow.of rfl ?_; conv => whnf)
      | (apply AllRow.map; intro _ _; conv => whnf)
      | exact ⟨rfl⟩
      | fail
    all_goals try simp only [Int.toNat_natCast, List.length_map, Nat.zero_add] at *
    all_goals try (exact ⟨by omega⟩)
    all_goals try (refine Side.mk ?_; simp [rI]; done)
    · rename_i hlt x hx b hb pv hib hpv
      subst hb
      have hstep := subTo_in (m := t.length) hx hib
      generalize hsi : subTo t t.length (rinS t n) i = si at *
      obtain ⟨pl, out⟩ := si
      dsimp only at hsl hpv hstep ⊢
      have hkids := hg.kids hx
      have hkl := (ht.node _ (List.mem_of_getElem? hx)).len
      rw [rows_set _ i _ _ _ rfl]
      refine LoopG.weak (Weak.openNil 14 1 rfl) ?_
      refine LoopG.of ttab_ok [2, 4, 6, 10, 11, 12, 13, 14, 67, 68, 69, 86, 87, 88] [0, 1, 2, 3, 4, 5, 6, 7] (fun (j : Nat) => ⟨[(2, .ptr 0 0 0), (4, .ptr 1 0 0), (6, .vs 2 0 t.length), (10, .vs 3 0 t.length), (11, .ptr 4 0 0), (12, I i), (13, .ptr 6 0 0), (14, .vs 7 0 j), (67, .d (dNodes t)), (68, I t.length), (69, I i),
        (86, .d (dInts x.kids)), (87, I x.kids.length), (88, I j)],
        [.box [.d (dNodes t)], .box [.d (.con (.slice none 0 0))], .arr 1 ((rinS t n).map rB) 0, .arr 1 ((pl.set i out.length).map rI) 0, .box [.vs 5 0 out.length], .arr 6 (out.map rNode) 0,
          .box [.d (dI x.kind), .d (dS x.name), .d (dI x.num), .d (dInts x.kids), .d (dI x.frm), .d (dI x.to)], .arr 1 (((x.kids.take j).map fun k => (pl.set i out.length).getD k.toNat 0).map rI) 0]⟩)
        (fun j => j ≤ x.kids.length) (fun j => x.kids.length - j) 0 (by kernel_rfl) (by simp) (by simp) (by simp) ?hs4 (by omega) ?_
      case hs4 =>
        first
          | (simp only [keepSt, keepE, Al.look, envOf, lend, ren, renL, renR, posOf, List.map_cons, List.map_nil]; done)
          | (simp only [keepSt, keepE, Al.look, envOf, lend, ren, renL, renR, posOf, List.map_cons, List.map_nil]; simp [I, S, B, U8, dI, dS, dB, dU8, dInts, dStrs, dNodes, ren, renL, renR, posOf, Al.look, envOf, rI, rB, rNode])
          | (simp [keepSt, keepE, lend, I, S, B, U8, dI, dS, dB, dU8, dInts, dStrs, dNodes, ren, renL, renR, posOf, Al.look, envOf, rI, rB, rNode])
      intro j hj
      conv => whnf
      repeat' first
        | (intro _; conv => whnf)
        | (apply And.intro <;> (conv => whnf))
        | (refine AllRow.of rfl ?_; conv => whnf)
        | (apply AllRow.map; intro _ _; conv => whnf)
        | exact ⟨rfl⟩
        | fail
      all_goals try simp only [Int.toNat_natCast, List.length_map, Nat.zero_add] at *
      all_goals try (exact ⟨by omega⟩)
      · rename_i hj' k hk
        have := hkids k (List.mem_of_getElem? hk)
        exact ⟨by omega⟩
      · rename_i hj' k hk
        have := hkids k (List.mem_of_getElem? hk)
        exact ⟨by rw [List.length_set]; omega⟩
      · exact ⟨by simp [oneD, Value.oneCell']⟩
      · refine ⟨?_⟩
        simp [pinsOf]
        omega
      · rename_i hj' k hk v hv
        have e : ((x.kids.take j).map fun k => (pl.set i out.length).getD k.toNat 0).map rI ++ [[D.con (.int .i64 v)]] = ((x.kids.take (j + 1)).map fun k => (pl.set i out.length).getD k.toNat 0).map rI := by
          rw [List.take_add_one, hk]
          simp [List.getD_eq_getElem?_getD, hv, rI, dI]
        refine RoundG.mk' (j + 1) (by simp) ?_ (by omega) (by omega)
        rw [← e]
        first
          | (simp only [keepSt, keepE, Al.look, envOf, lend, ren, renL, renR, posOf, List.map_cons, List.map_nil]; done)
          | (simp only [keepSt, keepE, Al.look, envOf, lend, ren, renL, renR, posOf, List.map_cons, List.map_nil]; simp [I, S, B, U8, dI, dS, dB, dU8, dInts, dStrs, dNodes, ren, renL, renR, posOf, Al.look, envOf, rI, rB, rNode])
          | (simp [keepSt, keepE, lend, I, S, B, U8, dI, dS, dB, dU8, dInts, dStrs, dNodes, ren, renL, renR, posOf, Al.look, envOf, rI, rB, rNode])
        rw [List.take_of_length_le (by simp; omega)]
      · exact ⟨by simp; omega⟩
      · exact ⟨by simp [oneD, Value.oneCell']⟩
      · refine ⟨?_⟩
        simp [pinsOf]
        omega
      · have hjl : j = x.kids.length := by omega
        subst hjl
        refine RoundG.mk' (i + 1) (by simp) ?_ (by omega) (by omega)
        rw [hstep]
        first
          | (simp only [keepSt, keepE, Al.look, envOf, lend, ren, renL, renR, posOf, List.map_cons, List.map_nil]; done)
          | (simp only [keepSt, keepE, Al.look, envOf, lend, ren, renL, renR, posOf, List.map_cons, List.map_nil]; simp [I, S, B, U8, dI, dS, dB, dU8, dInts, dStrs, dNodes, ren, renL, renR, posOf, Al.look, envOf, subStep, rI, rB, rNode])
          | (simp [keepSt, keepE, lend, I, S, B, U8, dI, dS, dB, dU8, dInts, dStrs, dNodes, ren, renL, renR, posOf, Al.look, envOf, subStep, rI, rB, rNode])
        exact ⟨List.take_of_length_le (by simp), List.take_of_length_le (by simp)⟩
    · rename_i hlt x hx b hb hib
      subst hb
      refine RoundG.mk' (i + 1) (by simp) ?_ (by omega) (by omega)
      rw [subTo_out hib]
      first
        | (simp only [keepSt, keepE, Al.look, envOf, lend, ren, renL, renR, posOf, List.map_cons, List.map_nil]; done)
        | (simp only [keepSt, keepE, Al.look, envOf, lend, ren, renL, renR, posOf, List.map_cons, List.map_nil]; simp [I, S, B, U8, dI, dS, dB, dU8, dInts, dStrs, dNodes, ren, renL, renR, posOf, Al.look, envOf, rI, rB, rNode])
        | (simp [keepSt, keepE, lend, I, S, B, U8, dI, dS, dB, dU8, dInts, dStrs, dNodes, ren, renL, renR, posOf, Al.look, envOf, rI, rB, rNode])
    · have hin : i = t.length := by omega
      subst hin
      refine ⟨?_⟩
      rw [List.drop_zero, List.take_of_length_le (by simp), hg.rsub hn]
      rfl
end Go.Proofs.Tryz
