/- Plain facts: the part below a node, as the program and as the reference mark it. -/
import Derived.Test.YtobcdpmjaeflmaaGreatDoorSubB
set_option linter.unusedVariables false
set_option linter.unusedSimpArgs false
namespace Go.Proofs.Tryz
open Go Go.Al
set_option maxRecDepth 20000
set_option linter.unusedVariables false
theorem inTo_fix (up : List Int) (n : Nat) {k : Nat} (hk : k ≤ n) : ∀ (c' c : Nat), c' ≤ n + 1 → c ≤ c' → n < k + c → (inTo up n c')[k]? = (inTo up n c)[k]?
  | 0, c, _, h, h1 => by
    obtain rfl : c = 0 := by omega
    rfl
  | c' + 1, c, hn, h, h1 => by
    by_cases e : c = c' + 1
    · subst e; rfl
    · have ih := inTo_fix up n hk c' c (by omega) (by omega) h1
      simp only [inTo]
      rw [List.getElem?_set_ne (by omega), ih]
theorem Good.inS_rec {t : List Al.Node} (h : Good t) {n j : Nat} (hn : n < t.length) (hj : j ≤ n) :
    ((inS (upS t) n)[j]? = some true ↔ j = n ∨ ∃ m : Nat, m ≤ n ∧ (upS t)[j]? = some (m : Int) ∧ (inS (upS t) n)[m]? = some true) := by
  have hul := h.up.1
  have hlen := inTo_length (upS t) n (n - j)
  have e1 : (inS (upS t) n)[j]? = (inTo (upS t) n (n - j + 1))[j]? := inTo_fix _ _ hj _ _ (by omega) (by omega) (by omega)
  obtain ⟨u, hu⟩ : ∃ u, (upS t)[j]? = some u := ⟨_, List.getElem?_eq_getElem (by omega)⟩
  rw [e1]
  simp only [inTo]
  rw [show n - (n - j) = j by omega, List.getElem?_set_self (by omega), hu]
  simp only [Option.some.injEq, Bool.or_eq_true, Bool.and_eq_true, decide_eq_true_eq]
  refine or_congr Iff.rfl ⟨?_, ?_⟩
  · rintro ⟨h1, h2, h3⟩
    refine ⟨u.toNat, by omega, by omega, ?_⟩
    rcases h.upKid hu with e | ⟨m, x, e, hx, _, hlt⟩
    · omega
    · subst e
      rw [show (inS (upS t) n)[(m : Int).toNat]? = (inTo (upS t) n (n - j))[(m : Int).toNat]? from inTo_fix _ _ (by omega) _ _ (by omega) (by omega) (by omega)]
      rw [List.getD_eq_getElem?_getD] at h3
      have hm : (m : Int).toNat < (inTo (upS t) n (n - j)).length := by omega
      rw [List.getElem?_eq_getElem hm] at h3 ⊢
      simpa using h3
  · rintro ⟨m, h1, h2, h3⟩
    cases h2
    refine ⟨by omega, by omega, ?_⟩
    rcases h.upKid hu with e | ⟨m', x, e, hx, _, hlt⟩
    · omega
    · obtain rfl : m = m' := by omega
      rw [show (inS (upS t) n)[m]? = (inTo (upS t) n (n - j))[m]? from inTo_fix _ _ (by omega) _ _ (by omega) (by omega) (by omega)] at h3
      rw [List.getD_eq_getElem?_getD, Int.toNat_natCast, h3]
      rfl
def markTo (ks : List Int) (l : List Bool) : Nat → List Bool
  | 0 => l
  | j + 1 => match ks[j]? with
    | some k => (markTo ks l j).set k.toNat true
    | none => markTo ks l j
theorem markTo_length (ks : List Int) (l : List Bool) : ∀ j, (markTo ks l j).length = l.length
  | 0 => rfl
  | j + 1 => by
    simp only [markTo]
    split
    · rw [List.length_set, markTo_length ks l j]
    · exact markTo_length ks l j
theorem markTo_iff {ks : List Int} {l : List Bool} (hk : ∀ k, k ∈ ks → 0 ≤ k ∧ k < l.length) {q : Nat} : ∀ j, j ≤ ks.length → ((markTo ks l j)[q]? = some true ↔ l[q]? = some true ∨ (q : Int) ∈ ks.take j)
  | 0, _ => by simp [markTo]
  | j + 1, hj => by
    have ih := markTo_iff hk (q := q) j (by omega)
    have hml := markTo_length ks l j
    obtain ⟨k, hkj⟩ : ∃ k, ks[j]? = some k := ⟨_, List.getElem?_eq_getElem (by omega)⟩
    have hb := hk k (List.mem_of_getElem? hkj)
    simp only [markTo, hkj]
    rw [List.take_add_one, hkj, List.mem_append]
    by_cases e : k.toNat = q
    · subst e
      rw [List.getElem?_set_self (by omega)]
      have : ((k.toNat : Int)) = k := by omega
      simp [this]
    · rw [List.getElem?_set_ne e, ih]
      have : ¬ (q : Int) = k := by omega
      simp [this]
def rinTo (t : List Al.Node) (n : Nat) : Nat → List Bool
  | 0 => (List.replicate t.length false).set n true
  | c + 1 => match t[n - c]? with
    | some x => if (rinTo t n c).getD (n - c) false then markTo x.kids (rinTo t n c) x.kids.length else rinTo t n c
    | none => rinTo t n c
theorem rinTo_length (t : List Al.Node) (n : Nat) : ∀ c, (rinTo t n c).length = t.length
  | 0 => by simp [rinTo]
  | c + 1 => by
    simp only [rinTo]
    split
    · split
      · rw [markTo_length, rinTo_length t n c]
      · exact rinTo_length t n c
    · exact rinTo_length t n c
theorem rinTo_in {t : List Al.Node} {n c : Nat} {x : Al.Node} (hx : t[n - c]? = some x) (hi : (rinTo t n c)[n - c]? = some true) : rinTo t n (c + 1) = markTo x.kids (rinTo t n c) x.kids.length := by
  simp only [rinTo, hx, List.getD_eq_getElem?_getD, hi]
  rfl
theorem rinTo_out {t : List Al.Node} {n c : Nat} (hi : (rinTo t n c)[n - c]? = some false) : rinTo t n (c + 1) = rinTo t n c := by
  simp only [rinTo, List.getD_eq_getElem?_getD, hi]
  split <;> rfl
theorem some_bool {l : List Bool} {i : Nat} (h : i < l.length) : l[i]? = some true ∨ l[i]? = some false := by
  rw [List.getElem?_eq_getElem h]
  cases l[i] <;> simp
theorem Good.rin_inv {t : List Al.Node} (h : Good t) {n : Nat} (hn : n < t.length) : ∀ c, c ≤ n + 1 → ∀ j, j < t.length →
    ((rinTo t n c)[j]? = some true ↔ j = n ∨ ∃ m : Nat, m ≤ n ∧ n < m + c ∧ (upS t)[j]? = some (m : Int) ∧ (inS (upS t) n)[m]? = some true)
  | 0, _, j, hj => by
    simp only [rinTo, List.getElem?_set, List.length_replicate]
    by_cases e : n = j
    · subst e; simp [hn]
    · rw [if_neg e]
      constructor
      · intro h1
        have := List.eq_of_mem_replicate (List.mem_of_getElem? h1)
        cases this
      · rintro (h1 | ⟨m, h1, h2, _⟩)
        · omega
        · omega
  | c + 1, hc, j, hj => by
    have ih := h.rin_inv hn c (by omega)
    have hrl := rinTo_length t n c
    obtain ⟨x, hx⟩ : ∃ x, t[n - c]? = some x := ⟨_, List.getElem?_eq_getElem (by omega)⟩
    have hat : (rinTo t n c)[n - c]? = some true ↔ (inS (upS t) n)[n - c]? = some true := by
      rw [ih (n - c) (by omega), h.inS_rec hn (by omega)]
      refine or_congr Iff.rfl ⟨?_, ?_⟩
      · rintro ⟨m, h1, h2, h3⟩
        exact ⟨m, h1, h3⟩
      · rintro ⟨m, h1, h2, h3⟩
        refine ⟨m, h1, ?_, h2, h3⟩
        rcases h.upKid h2 with e | ⟨m', _, e, _, _, hlt⟩ <;> omega
    have hjk : ∀ j, j < t.length → ((j : Int) ∈ x.kids ↔ (upS t)[j]? = some ((n - c : Nat) : Int)) := fun j hj => by
      constructor
      · intro hm
        have := h.kidUp hx hm
        simpa using this
      · intro hu
        rcases h.upKid hu with e | ⟨m', x', e, hx', hm, _⟩
        · omega
        · have : m' = n - c := by omega
          subst this
          rw [hx] at hx'
          cases hx'
          exact hm
    rcases some_bool (l := rinTo t n c) (i := n - c) (by omega) with hin | hin
    · rw [rinTo_in hx hin, markTo_iff (by rw [hrl]; exact h.inside _ x hx) _ (Nat.le_refl _), List.take_length, ih j hj, hjk j hj]
      have hP := hat.1 hin
      constructor
      · rintro ((h1 | ⟨m, h1, h2, h3⟩) | h1)
        · exact .inl h1
        · exact .inr ⟨m, h1, by omega, h3⟩
        · exact .inr ⟨n - c, by omega, by omega, h1, hP⟩
      · rintro (h1 | ⟨m, h1, h2, h3, h4⟩)
        · exact .inl (.inl h1)
        · by_cases e : m = n - c
          · subst e; exact .inr h3
          · exact .inl (.inr ⟨m, h1, by omega, h3, h4⟩)
    · rw [rinTo_out hin, ih j hj]
      refine or_congr Iff.rfl ⟨?_, ?_⟩
      · rintro ⟨m, h1, h2, h3⟩
        exact ⟨m, h1, by omega, h3⟩
      · rintro ⟨m, h1, h2, h3, h4⟩
        refine ⟨m, h1, ?_, h3, h4⟩
        by_cases e : m = n - c
        · subst e
          rw [hat.2 h4] at hin
          cases hin
        · omega
def rinS (t : List Al.Node) (n : Nat) : List Bool := rinTo t n (n + 1)
theorem Good.rinS_eq {t : List Al.Node} (h : Good t) {n : Nat} (hn : n < t.length) {j : Nat} (hj : j ≤ n) : (rinS t n)[j]? = (inS (upS t) n)[j]? := by
  have h1 := rinTo_length t n (n + 1)
  have h2 := inTo_length (upS t) n (n + 1)
  have hiff : (rinS t n)[j]? = some true ↔ (inS (upS t) n)[j]? = some true := by
    unfold rinS
    rw [h.rin_inv hn _ (Nat.le_refl _) j (by omega), h.inS_rec hn hj]
    refine or_congr Iff.rfl ⟨?_, ?_⟩
    · rintro ⟨m, h1, h2, h3⟩
      exact ⟨m, h1, h3⟩
    · rintro ⟨m, h1, h2, h3⟩
      refine ⟨m, h1, ?_, h2, h3⟩
      rcases h.upKid h2 with e | ⟨m', _, e, _, _, hlt⟩ <;> omega
  rcases some_bool (l := rinS t n) (i := j) (by unfold rinS; omega) with e | e
  · rw [e, hiff.1 e]
  · rcases some_bool (l := inS (upS t) n) (i := j) (by unfold inS; omega) with e' | e'
    · rw [hiff.2 e'] at e; cases e
    · rw [e, e']
theorem Good.rinS_above {t : List Al.Node} (h : Good t) {n : Nat} (hn : n < t.length) {j : Nat} (hj : n < j) (hjl : j < t.length) : (rinS t n)[j]? = some false := by
  have h1 := rinTo_length t n (n + 1)
  rcases some_bool (l := rinS t n) (i := j) (by unfold rinS; omega) with e | e
  · unfold rinS at e
    rw [h.rin_inv hn _ (Nat.le_refl _) j hjl] at e
    rcases e with e | ⟨m, h1, h2, h3, h4⟩
    · omega
    · rcases h.upKid h3 with e | ⟨m', _, e, _, _, hlt⟩ <;> omega
  · exact e
theorem subTo_alike {t : List Al.Node} {m m' : Nat} {ins ins' : List Bool} {q : Nat} (hm : q ≤ m) (hm' : q ≤ m') (hi : ∀ j, j < q → ins[j]? = ins'[j]?) (hkids : ∀ (i : Nat) x, t[i]? = some x → ∀ k, k ∈ x.kids → 0 ≤ k ∧ k < i) : ∀ i, i ≤ q →
    (subTo t m ins i).2 = (subTo t m' ins' i).2 ∧ ∀ j, j < q → (subTo t m ins i).1[j]? = (subTo t m' ins' i).1[j]?
  | 0, _ => by
    refine ⟨rfl, fun j hj => ?_⟩
    simp only [subTo]
    rw [List.getElem?_replicate, List.getElem?_replicate, if_pos (by omega), if_pos (by omega)]
  | i + 1, hiq => by
    obtain ⟨ih1, ih2⟩ := subTo_alike hm hm' hi hkids i (by omega)
    have hl := subTo_len t m ins i
    have hl' := subTo_len t m' ins' i
    have hii := hi i (by omega)
    simp only [subTo, List.getD_eq_getElem?_getD, hii]
    split
    · rename_i x hx
      split
      · simp only [subStep]
        have hset : ∀ j, j < q → ((subTo t m ins i).1.set i ((subTo t m ins i).2.length : Int))[j]? = ((subTo t m' ins' i).1.set i ((subTo t m' ins' i).2.length : Int))[j]? := fun j hj => by
          rw [ih1]
          by_cases e : i = j
          · subst e
            rw [List.getElem?_set_self (by omega), List.getElem?_set_self (by omega)]
          · rw [List.getElem?_set_ne e, List.getElem?_set_ne e, ih2 j hj]
        refine ⟨?_, hset⟩
        have hk : (x.kids.map fun k => ((subTo t m ins i).1.set i ((subTo t m ins i).2.length : Int)).getD k.toNat 0) = x.kids.map fun k => ((subTo t m' ins' i).1.set i ((subTo t m' ins' i).2.length : Int)).getD k.toNat 0 := by
          refine List.map_congr_left fun k hk => ?_
          have := hkids i x hx k hk
          rw [List.getD_eq_getElem?_getD, List.getD_eq_getElem?_getD, hset _ (by omega)]
        rw [hk, ih1]
      · exact ⟨ih1, ih2⟩
    · exact ⟨ih1, ih2⟩
theorem subTo_stop {t : List Al.Node} {m q : Nat} {ins : List Bool} (hi : ∀ j, q ≤ j → j < t.length → ins[j]? = some false) : ∀ i, q ≤ i → i ≤ t.length → subTo t m ins i = subTo t m ins q
  | 0, h, _ => by
    obtain rfl : q = 0 := by omega
    rfl
  | i + 1, h, h2 => by
    by_cases e : q = i + 1
    · subst e; rfl
    · rw [subTo_out (hi i (by omega) (by omega)), subTo_stop hi i (by omega) (by omega)]
theorem Good.rsub {t : List Al.Node} (h : Good t) {n : Nat} (hn : n < t.length) : (subTo t t.length (rinS t n) t.length).2 = subS t n := by
  rw [subTo_stop (q := n + 1) (fun j h1 h2 => h.rinS_above hn (by omega) h2) t.length (by omega) (Nat.le_refl _)]
  exact (subTo_alike (by omega) (Nat.le_refl _) (fun j hj => h.rinS_eq hn (by omega)) (fun i x hx => h.kids hx) (n + 1) (Nat.le_refl _)).1
end Go.Proofs.Tryz
