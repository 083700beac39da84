/- Plain facts on the names of variants. -/
import Derived.Test.YtobcdpmjaeflmaaGreatDoorPrD
set_option linter.unusedVariables false
set_option linter.unusedSimpArgs false
namespace Go.Proofs.Tryz
open Go Go.Al
set_option maxRecDepth 20000
set_option linter.unusedVariables false
theorem index_occ : ∀ (s sub : Bytes) (i : Nat), Lib.index s sub = i → Lib.occAt s sub i = true
  | [], sub, i, h => by
    unfold Lib.index at h
    split at h
    · obtain rfl : i = 0 := by omega
      rename_i hs
      simp [Lib.occAt]
      simp_all
    · omega
  | c :: s, sub, i, h => by
    unfold Lib.index at h
    split at h
    · obtain rfl : i = 0 := by omega
      rename_i hs
      simpa [Lib.occAt] using hs
    · split at h
      · omega
      · rename_i h1 h2
        have hge := Lib.index_ge s sub
        have hne : Lib.index s sub ≠ -1 := by simpa using h2
        obtain ⟨j, hj⟩ : ∃ j : Nat, Lib.index s sub = j := ⟨(Lib.index s sub).toNat, by omega⟩
        have := index_occ s sub j hj
        obtain rfl : i = j + 1 := by omega
        simpa [Lib.occAt] using this
theorem pick_parts {s : Bytes} (h : pickS s = true) : ∃ a b : Bytes, s = a ++ 58 :: 58 :: b ∧ (∀ c, c ∈ a → c ≠ 58) ∧ pickT s = [a, [58, 58], b] := by
  simp only [pickS, Bool.and_eq_true, decide_eq_true_eq] at h
  obtain ⟨_, ⟨h1, h2⟩, h3⟩ := h
  unfold Lib.cut at h1 h2 h3
  split at h1
  · rename_i hi
    rw [if_pos hi] at h2 h3
    dsimp only at h2 h3
    obtain ⟨i, hi'⟩ : ∃ i : Nat, Lib.index s [58, 58] = i := ⟨(Lib.index s [58, 58]).toNat, by omega⟩
    have hocc := index_occ s [58, 58] i hi'
    have hpre : [58, 58] <+: s.drop i := List.isPrefixOf_iff_prefix.1 hocc
    obtain ⟨b, hb⟩ := hpre
    rw [hi'] at h2
    refine ⟨s.take i, b, ?_, ?_, ?_⟩
    · have : s = s.take i ++ s.drop i := (List.take_append_drop i s).symm
      rw [← hb] at this
      simpa using this
    · intro c hc e
      subst e
      simp only [nameB, Bool.and_eq_true] at h2
      have hsp := h2.1.1
      simp only [Int.toNat_natCast] at hsp hc
      generalize s.take i = l at hsp hc
      cases l with
      | nil => simp at hc
      | cons x l =>
        simp only [speltS, Bool.and_eq_true] at hsp
        have := List.all_eq_true.1 hsp.2 _ hc
        simp [letB, letterS, digitS, bu] at this
    · unfold pickT Lib.cut
      rw [if_pos hi, hi']
      dsimp only
      have : s.drop (i + 2) = b := by
        rw [← List.drop_drop, ← hb]
        rfl
      simp only [Int.toNat_natCast, List.length_cons, List.length_nil]
      rw [this]
  · cases h1
end Go.Proofs.Tryz
