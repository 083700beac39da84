/- Plain facts on parents, and trees compared. -/
import Derived.Test.YtobcdpmjaeflmaaDoorSubA
set_option linter.unusedVariables false
set_option linter.unusedSimpArgs false
namespace Go.Proofs.Tryd
open Go Go.Al
set_option maxRecDepth 20000
set_option linter.unusedVariables false
theorem fkTo_keep {i : Nat} {ks : List Int} {k : Nat} {u : Int} (hu : 0 ≤ u) : ∀ {j : Nat} {out o : List Int}, fkTo i ks out j = some o → out[k]? = some u → o[k]? = some u
  | 0, out, o, h, hk => by simp [fkTo] at h; subst h; exact hk
  | j + 1, out, o, h, hk => by
    simp only [fkTo] at h
    obtain ⟨o1, h1, h⟩ := Option.bind_eq_some_iff.1 h
    have ih := fkTo_keep hu h1 hk
    split at h
    · rename_i kk hkk
      split at h
      · cases h
      · rename_i hneg
        cases h
        by_cases e : kk.toNat = k
        · rw [e, List.getD_eq_getElem?_getD, ih] at hneg
          exact absurd hu hneg
        · rw [List.getElem?_set_ne e]; exact ih
    · cases h; exact ih
theorem fkTo_set {i : Nat} {ks : List Int} {kk : Int} : ∀ {j : Nat} {out o : List Int}, fkTo i ks out j = some o → ∀ j', j' < j → ks[j']? = some kk → kk.toNat < out.length → o[kk.toNat]? = some (i : Int)
  | 0, out, o, h, j', hj, _, _ => by omega
  | j + 1, out, o, h, j', hj, hk, hl => by
    simp only [fkTo] at h
    obtain ⟨o1, h1, h⟩ := Option.bind_eq_some_iff.1 h
    have hlen := fkTo_length h1
    by_cases hjj : j' = j
    · subst hjj
      rw [hk] at h
      simp only at h
      split at h
      · cases h
      · cases h
        rw [List.getElem?_set_self (by omega)]
    · have ih := fkTo_set h1 j' (by omega) hk hl
      split at h
      · rename_i k2 hk2
        split at h
        · cases h
        · rename_i hneg
          cases h
          by_cases e : k2.toNat = kk.toNat
          · rw [e, List.getD_eq_getElem?_getD, ih] at hneg
            exact absurd (Int.natCast_nonneg i) hneg
          · rw [List.getElem?_set_ne e]; exact ih
      · cases h; exact ih
theorem fkTo_mem {i : Nat} {ks : List Int} {k : Nat} {u : Int} : ∀ {j : Nat} {out o : List Int}, fkTo i ks out j = some o → o[k]? = some u → out[k]? = some u ∨ (u = i ∧ ∃ kk, kk ∈ ks ∧ kk.toNat = k)
  | 0, out, o, h, hk => by simp [fkTo] at h; subst h; exact .inl hk
  | j + 1, out, o, h, hk => by
    simp only [fkTo] at h
    obtain ⟨o1, h1, h⟩ := Option.bind_eq_some_iff.1 h
    split at h
    · rename_i kk hkk
      split at h
      · cases h
      · cases h
        by_cases e : kk.toNat = k
        · rw [List.getElem?_set] at hk
          rw [if_pos e] at hk
          split at hk
          · cases hk
            exact .inr ⟨rfl, kk, List.mem_of_getElem? hkk, e⟩
          · cases hk
        · rw [List.getElem?_set_ne e] at hk
          exact fkTo_mem h1 hk
    · cases h; exact fkTo_mem h1 hk
theorem fillTo_keep {t : List Al.Node} {k : Nat} {u : Int} (hu : 0 ≤ u) {i : Nat} : ∀ {m : Nat} {o o1 : List Int}, i ≤ m → fillTo t i = some o1 → fillTo t m = some o → o1[k]? = some u → o[k]? = some u
  | 0, o, o1, hi, h1, h, hk => by
    obtain rfl : i = 0 := by omega
    rw [h1] at h; cases h; exact hk
  | m + 1, o, o1, hi, h1, h, hk => by
    by_cases e : i = m + 1
    · subst e; rw [h1] at h; cases h; exact hk
    · simp only [fillTo] at h
      obtain ⟨o2, h2, h⟩ := Option.bind_eq_some_iff.1 h
      have ih := fillTo_keep hu (by omega) h1 h2 hk
      split at h
      · exact fkTo_keep hu h ih
      · cases h; exact ih
theorem fillTo_set {t : List Al.Node} {m : Nat} {x : Al.Node} {kk : Int} {i : Nat} {o : List Int} (h : fillTo t i = some o) (hm : m < i) (hx : t[m]? = some x) (hk : kk ∈ x.kids) (hl : kk.toNat < t.length) : o[kk.toNat]? = some (m : Int) := by
  cases h1 : fillTo t (m + 1) with
  | none => rw [fillTo_none h1 (by omega)] at h; cases h
  | some o1 =>
    refine fillTo_keep (Int.natCast_nonneg m) (by omega) h1 h ?_
    have h2 := h1
    simp only [fillTo] at h2
    obtain ⟨o2, h3, h2⟩ := Option.bind_eq_some_iff.1 h2
    rw [hx] at h2
    simp only at h2
    obtain ⟨j, hj⟩ := List.mem_iff_getElem?.1 hk
    exact fkTo_set h2 j (List.getElem?_eq_some_iff.1 hj).1 hj (by rw [fillTo_length h3]; exact hl)
theorem fillTo_mem {t : List Al.Node} {k : Nat} {u : Int} : ∀ {i : Nat} {o : List Int}, fillTo t i = some o → o[k]? = some u → u = -1 ∨ ∃ (m : Nat) (x : Al.Node), u = m ∧ t[m]? = some x ∧ ∃ kk, kk ∈ x.kids ∧ kk.toNat = k
  | 0, o, h, hk => by
    simp [fillTo] at h
    subst h
    exact .inl (List.eq_of_mem_replicate (List.mem_of_getElem? hk))
  | i + 1, o, h, hk => by
    simp only [fillTo] at h
    obtain ⟨o1, h1, h⟩ := Option.bind_eq_some_iff.1 h
    split at h
    · rename_i x hx
      rcases fkTo_mem h hk with h2 | ⟨rfl, h2⟩
      · exact fillTo_mem h1 h2
      · exact .inr ⟨i, x, rfl, hx, h2⟩
    · cases h; exact fillTo_mem h1 hk
theorem Good.upKid {t : List Al.Node} (h : Good t) {k : Nat} {u : Int} (hk : (upS t)[k]? = some u) : u = -1 ∨ ∃ (m : Nat) (x : Al.Node), u = m ∧ t[m]? = some x ∧ (k : Int) ∈ x.kids ∧ k < m := by
  rcases fillTo_mem h.fill hk with h1 | ⟨m, x, e, hx, kk, hkk, ek⟩
  · exact .inl h1
  · have := h.kids hx kk hkk
    refine .inr ⟨m, x, e, hx, ?_, by omega⟩
    rw [show (k : Int) = kk by omega]
    exact hkk
theorem Good.kidUp {t : List Al.Node} (h : Good t) {m : Nat} {x : Al.Node} {kk : Int} (hx : t[m]? = some x) (hk : kk ∈ x.kids) : (upS t)[kk.toNat]? = some (m : Int) := by
  have h1 := h.inside m x hx kk hk
  exact fillTo_set h.fill (List.getElem?_eq_some_iff.1 hx).1 hx hk (by omega)
theorem Good.upLast {t : List Al.Node} (h : Good t) : (upS t)[t.length - 1]? = some (-1) := by
  have h1 := h.up.1
  have h2 := h.len
  have hg : (upS t)[t.length - 1]? = some ((upS t)[t.length - 1]'(by omega)) := List.getElem?_eq_getElem (by omega)
  rcases h.upKid hg with e | ⟨m, x, _, hx, _, hlt⟩
  · rw [hg, e]
  · have := (List.getElem?_eq_some_iff.1 hx).1
    omega
theorem Good.upOne {t : List Al.Node} (h : Good t) {k : Nat} {u : Int} (hk : k + 1 < t.length) (hu : (upS t)[k]? = some u) : 0 ≤ u := by
  have h1 := h.up
  have h2 := h1.2 u (List.mem_of_getElem? hu)
  have h3 := h.one
  by_cases e : u = -1
  · subst e
    have : (-1 : Int) ∈ (upS t).take ((upS t).length - 1) := List.mem_of_getElem? (i := k) (by rw [List.getElem?_take, if_pos (by omega)]; exact hu)
    simp at h3
    exact absurd this h3
  · omega
theorem inTo_all {t : List Al.Node} (h : Good t) : ∀ (c : Nat), c ≤ t.length → ∀ j, t.length ≤ j + c → j < t.length → (inTo (upS t) (t.length - 1) c)[j]? = some true
  | 0, _, j, h1, h2 => by omega
  | c + 1, hc, j, h1, h2 => by
    have hlen := inTo_length (upS t) (t.length - 1) c
    have ih := inTo_all h c (by omega)
    by_cases hj : j = t.length - 1 - c
    · subst hj
      obtain ⟨u, hu⟩ : ∃ u, (upS t)[t.length - 1 - c]? = some u := ⟨_, List.getElem?_eq_getElem (by rw [h.up.1]; omega)⟩
      rw [inTo_next (v := true), List.getElem?_set_self (by omega)]
      rw [hu]
      by_cases hl : t.length - 1 - c = t.length - 1
      · rw [decide_eq_true hl]; rfl
      · have h0 := h.upOne (by omega) hu
        rcases h.upKid hu with e | ⟨m, x, e, hx, _, hlt⟩
        · omega
        · have hm := (List.getElem?_eq_some_iff.1 hx).1
          have hi := ih m (by omega) hm
          subst e
          simp [List.getD_eq_getElem?_getD, hi]
          omega
    · have hi := ih j (by omega) h2
      simp only [inTo]
      rw [List.getElem?_set_ne (by omega)]
      exact hi
theorem subTo_all {t : List Al.Node} (h : Good t) : ∀ (i : Nat), i ≤ t.length → (subTo t t.length (inS (upS t) (t.length - 1)) i).2 = t.take i ∧ ∀ j, j < i → (subTo t t.length (inS (upS t) (t.length - 1)) i).1[j]? = some (j : Int)
  | 0, _ => ⟨by simp [subTo], by omega⟩
  | i + 1, hi => by
    obtain ⟨ih1, ih2⟩ := subTo_all h i (by omega)
    have hl := subTo_len t t.length (inS (upS t) (t.length - 1)) i
    obtain ⟨x, hx⟩ : ∃ x, t[i]? = some x := ⟨_, List.getElem?_eq_getElem (by omega)⟩
    have hin : (inS (upS t) (t.length - 1))[i]? = some true := by
      have := inTo_all h (t.length - 1 + 1) (by omega) i (by omega) (by omega)
      exact this
    rw [subTo_in hx hin]
    generalize subTo t t.length (inS (upS t) (t.length - 1)) i = s at *
    obtain ⟨pl, out⟩ := s
    dsimp only at ih1 ih2 hl
    have hol : out.length = i := by rw [ih1]; simp; omega
    have hset : ∀ j, j < i + 1 → (pl.set i (out.length : Int))[j]? = some (j : Int) := fun j hj => by
      by_cases e : j = i
      · subst e; rw [List.getElem?_set_self (by omega), hol]
      · rw [List.getElem?_set_ne (by omega)]; exact ih2 j (by omega)
    refine ⟨?_, hset⟩
    simp only [subStep]
    rw [List.take_add_one, hx, ← ih1]
    have hk : (x.kids.map fun k => (pl.set i (out.length : Int)).getD k.toNat 0) = x.kids := by
      conv => rhs; rw [← List.map_id x.kids]
      refine List.map_congr_left fun k hk => ?_
      have := h.kids hx k hk
      rw [List.getD_eq_getElem?_getD, hset _ (by omega)]
      simp; omega
    rw [hk]
    rfl
theorem subS_last {t : List Al.Node} (h : Good t) : subS t (t.length - 1) = t := by
  have hl := h.len
  have := (subTo_all h t.length (Nat.le_refl _)).1
  unfold subS
  rw [show t.length - 1 + 1 = t.length by omega, this, List.take_length]
theorem take_eq_step {α : Type} {a b : List α} {i : Nat} {x y : α} (h : a.take i = b.take i) (hx : a[i]? = some x) (hy : b[i]? = some y) (e : x = y) : a.take (i + 1) = b.take (i + 1) := by
  rw [List.take_add_one, List.take_add_one, h, hx, hy, e]
theorem ptree_ne {a b : List Al.Node} {i : Nat} {x y : Al.Node} (hx : a[i]? = some x) (hy : b[i]? = some y) (h : x ≠ y) : decide (a = b) = false := by
  refine decide_eq_false ?_
  rintro rfl
  rw [hx] at hy
  cases hy
  exact h rfl
theorem ptree_ok (a b : List Al.Node) (ha : a.length ≤ 140737488355328) (hka : ∀ x, x ∈ a → x.kids.length ≤ 140737488355328) : SPure prog 13 [aTree a, aTree b] (B (decide (a = b))) := by
  refine .run ttab_ok func13 rfl (by kernel_rfl) (by simp [f13]) rfl ?_
  conv => whnf
  repeat' first
    | (intro _; conv => whnf)
    | (apply And.intro <;> (conv => whnf))
    | (refine AllRow.of rfl ?_; conv => whnf)
    | (apply AllRow.map; intro _ _; conv => whnf)
    | exact ⟨rfl⟩
    | fail
  all_goals try simp only [Int.toNat_natCast, List.length_map, Nat.zero_add] at *
  · rename_i hne
    refine ⟨?_⟩
    have : ¬ a = b := by rintro rfl; exact hne rfl
    simp [B, dB, this]
  · rename_i hlen
    have hab : a.length = b.length := by omega
    refine LoopG.of ttab_ok [2, 3, 16, 17, 18] [0, 1] (fun (i : Nat) => ⟨[(2, .ptr 0 0 0), (3, .ptr 1 0 0), (16, .d (dNodes a)), (17, I a.length), (18, I i)], [.box [.d (dNodes a)], .box [.d (dNodes b)]]⟩) (fun i => i ≤ a.length ∧ a.take i = b.take i) (fun i => a.length - i) 0 (by kernel_rfl) (by simp) (by simp) (by simp) ?hs ⟨by omega, by simp⟩ ?_
    case hs =>
      first
        | (simp only [keepSt, keepE, Al.look, envOf, lend, ren, renL, renR, posOf, List.map_cons, List.map_nil]; done)
        | (simp only [keepSt, keepE, Al.look, envOf, lend, ren, renL, renR, posOf, List.map_cons, List.map_nil]; simp [I, S, B, U8, dI, dS, dB, dU8, dInts, dStrs, dNodes, ren, renL, renR, posOf, Al.look, envOf])
        | (simp [keepSt, keepE, lend, I, S, B, U8, dI, dS, dB, dU8, dInts, dStrs, dNodes, ren, renL, renR, posOf, Al.look, envOf])
    rintro i ⟨hi, htk⟩
    conv => whnf
    repeat' first
      | (intro _; conv => whnf)
      | (apply And.intro <;> (conv => whnf))
      | (refine AllRow.of rfl ?_; conv => whnf)
      | (apply AllRow.map; intro _ _; conv => whnf)
      | exact ⟨rfl⟩
      | fail
    all_goals try simp only [Int.toNat_natCast, List.length_map, Nat.zero_add] at *
    all_goals try (exact ⟨by omega⟩)
    · rename_i x hx y hy h1
      exact ⟨by rw [ptree_ne hx hy (by rintro rfl; exact h1 rfl)]; rfl⟩
    · rename_i x hx y hy h1 h2
      exact ⟨by rw [ptree_ne hx hy (by rintro rfl; simp at h2)]; rfl⟩
    · rename_i x hx y hy h1 h2 h3
      exact ⟨by rw [ptree_ne hx hy (by rintro rfl; exact h3 rfl)]; rfl⟩
    · rename_i x hx y hy h1 h2 h3 h4
      exact ⟨by rw [ptree_ne hx hy (by rintro rfl; exact h4 rfl)]; rfl⟩
    · rename_i x hx y hy h1 h2 h3 h4 h5
      exact ⟨by rw [ptree_ne hx hy (by rintro rfl; exact h5 rfl)]; rfl⟩
    · rename_i x hx y hy h1 h2 h3 h4 h5
      refine CallG.con call23 rfl (ints_ok x.kids y.kids (hka x (List.mem_of_getElem? hx))) ?_
      conv => whnf
      repeat' first
        | (intro _; conv => whnf)
        | (apply And.intro <;> (conv => whnf))
        | (refine AllRow.of rfl ?_; conv => whnf)
        | (apply AllRow.map; intro _ _; conv => whnf)
        | exact ⟨rfl⟩
        | fail
      all_goals try (exact ⟨by omega⟩)
      · rename_i hk
        have hxy : x = y := by
          obtain ⟨a1, a2, a3, a4, a5, a6⟩ := x
          obtain ⟨b1, b2, b3, b4, b5, b6⟩ := y
          simp at h1 h2 h3 h4 h5 hk
          simp [h1, h2, h3, h4, h5, hk]
        refine RoundG.mk' (i + 1) (by simp) ?_ (by omega) ⟨by omega, take_eq_step htk hx hy hxy⟩
        first
          | (simp only [keepSt, keepE, Al.look, envOf, lend, ren, renL, renR, posOf, List.map_cons, List.map_nil]; done)
          | (simp only [keepSt, keepE, Al.look, envOf, lend, ren, renL, renR, posOf, List.map_cons, List.map_nil]; simp [I, S, B, U8, dI, dS, dB, dU8, dInts, dStrs, dNodes, ren, renL, renR, posOf, Al.look, envOf])
          | (simp [keepSt, keepE, lend, I, S, B, U8, dI, dS, dB, dU8, dInts, dStrs, dNodes, ren, renL, renR, posOf, Al.look, envOf])
      · rename_i hk
        exact ⟨by rw [ptree_ne hx hy (by rintro rfl; simp at hk)]; rfl⟩
    · have hia : i = a.length := by omega
      subst hia
      rw [List.take_length, hab, List.take_length] at htk
      exact ⟨by rw [decide_eq_true htk]; rfl⟩
end Go.Proofs.Tryd
