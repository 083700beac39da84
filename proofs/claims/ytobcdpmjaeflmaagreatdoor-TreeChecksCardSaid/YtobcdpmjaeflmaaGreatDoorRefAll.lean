/- Contracts of package patinaref13, but for its printers; the law TreeUps. -/
import Derived.Test.YtobcdpmjaeflmaaGreatDoorPlainA
import Derived.Test.YtobcdpmjaeflmaaGreatDoorTreeAll
import Derived.Test.YtobcdpmjaeflmaaGreatDoorSmallD
set_option linter.unusedVariables false
set_option linter.unusedSimpArgs false
namespace Go.Proofs.Tryz
open Go Go.Al
set_option maxRecDepth 20000
theorem rletter_ok (c : Int) : SPure prog 128 [U8 c] (B (letterS c)) := by
  refine .run ttab_ok func128 rfl (by kernel_rfl) (by simp [f128]) rfl ?_
  conv => whnf
  repeat' first
    | (intro _; conv => whnf)
    | (apply And.intro <;> (conv => whnf))
    | (refine AllRow.of rfl ?_; conv => whnf)
    | (apply AllRow.map; intro _ _; conv => whnf)
    | exact ⟨rfl⟩
    | fail
  all_goals (refine ⟨?_⟩; simp_all [B, dB, letterS]; try omega)
theorem rdigit_ok (c : Int) : SPure prog 129 [U8 c] (B (digitS c)) := by
  refine .run ttab_ok func129 rfl (by kernel_rfl) (by simp [f129]) rfl ?_
  conv => whnf
  repeat' first
    | (intro _; conv => whnf)
    | (apply And.intro <;> (conv => whnf))
    | (refine AllRow.of rfl ?_; conv => whnf)
    | (apply AllRow.map; intro _ _; conv => whnf)
    | exact ⟨rfl⟩
    | fail
  all_goals (refine ⟨?_⟩; simp_all [B, dB, digitS]; try omega)
theorem rword_ok (s : Bytes) : SPure prog 116 [S s] (B (wordL.contains s)) := by
  refine .run ttab_ok func116 rfl (by kernel_rfl) (by simp [f116]) rfl ?_
  conv => whnf
  repeat' first
    | (intro _; conv => whnf)
    | (apply And.intro <;> (conv => whnf))
    | (refine AllRow.of rfl ?_; conv => whnf)
    | (apply AllRow.map; intro _ _; conv => whnf)
    | exact ⟨rfl⟩
    | fail
  refine LoopG.of ttab_ok [0, 5, 6, 7] [] (fun (i : Nat) => ⟨[(0, S s), (5, .d (dStrs wordL)), (6, I 17), (7, I i)], []⟩) (fun i => i ≤ 17 ∧ s ∉ wordL.take i) (fun i => 17 - i) 0 (by kernel_rfl) .nil (by simp) (by simp) ?hs ⟨by omega, by simp⟩ ?_
  case hs =>
    first
      | (simp only [keepSt, keepE, Al.look, envOf, lend, ren, renL, renR, posOf, List.map_cons, List.map_nil]; done)
      | (simp only [keepSt, keepE, Al.look, envOf, lend, ren, renL, renR, posOf, List.map_cons, List.map_nil]; simp [I, S, B, U8, dI, dS, dB, dU8, dInts, dStrs, dNodes, ren, renL, renR, posOf, Al.look, envOf, wordL, rS, ba])
      | (simp [keepSt, keepE, lend, I, S, B, U8, dI, dS, dB, dU8, dInts, dStrs, dNodes, ren, renL, renR, posOf, Al.look, envOf, wordL, rS, ba])
  rintro i ⟨hi, ht⟩
  conv => whnf
  repeat' first
    | (intro _; conv => whnf)
    | (apply And.intro <;> (conv => whnf))
    | (refine AllRow.of rfl ?_; conv => whnf)
    | (apply AllRow.map; intro _ _; conv => whnf)
    | exact ⟨rfl⟩
    | fail
  all_goals try simp only [Int.toNat_natCast] at *
  · exact ⟨by simp [wordL]; omega⟩
  · rename_i hlt w hw h
    refine ⟨?_⟩
    have : s = w := by simpa using h
    have : s ∈ wordL := by rw [this]; exact List.mem_of_getElem? hw
    simp [B, dB, this]
  · exact ⟨by omega⟩
  · rename_i hlt w hw h
    have : ¬ s = w := by simpa using h
    refine RoundG.mk' (i + 1) (by simp) ?_ (by omega) ⟨by omega, ?_⟩
    ·
      first
        | (simp only [keepSt, keepE, Al.look, envOf, lend, ren, renL, renR, posOf, List.map_cons, List.map_nil]; done)
        | (simp only [keepSt, keepE, Al.look, envOf, lend, ren, renL, renR, posOf, List.map_cons, List.map_nil]; simp [I, S, B, U8, dI, dS, dB, dU8, dInts, dStrs, dNodes, ren, renL, renR, posOf, Al.look, envOf])
        | (simp [keepSt, keepE, lend, I, S, B, U8, dI, dS, dB, dU8, dInts, dStrs, dNodes, ren, renL, renR, posOf, Al.look, envOf])
    · rw [List.take_add_one, hw]
      simp [ht, this]
  · rename_i hge
    have : s ∉ wordL := by
      rwa [List.take_of_length_le (by simp [wordL]; omega)] at ht
    exact ⟨by simp [B, dB, this]⟩
theorem rspelt_ok (s : Bytes) (hs : s.length ≤ 140737488355328) : SPure prog 115 [S s] (B (speltS s)) := by
  match s, hs with
  | [], hs =>
    refine .run ttab_ok func115 rfl (by kernel_rfl) (by simp [f115]) rfl ?_
    conv => whnf
    repeat' first
      | (intro _; conv => whnf)
      | (apply And.intro <;> (conv => whnf))
      | (refine AllRow.of rfl ?_; conv => whnf)
      | (apply AllRow.map; intro _ _; conv => whnf)
      | exact ⟨rfl⟩
      | fail
    all_goals (refine ⟨?_⟩; simp_all [B, dB, speltS])
  | b :: s, hs =>
    refine .run ttab_ok func115 rfl (by kernel_rfl) (by simp [f115]) rfl ?_
    conv => whnf
    repeat' first
      | (intro _; conv => whnf)
      | (apply And.intro <;> (conv => whnf))
      | (refine AllRow.of rfl ?_; conv => whnf)
      | (apply AllRow.map; intro _ _; conv => whnf)
      | (refine CallG.con call128 rfl (rletter_ok _) ?_; conv => whnf)
      | (refine CallQG.con call128 rfl (rletter_ok _) ?_; conv => whnf)
      | exact ⟨rfl⟩
      | fail
    · exact ⟨by simp_all⟩
    · rename_i h; exact ⟨by simp at h; simp [B, dB, speltS, h]⟩
    · exact ⟨by simp⟩
    · rename_i h1 h2 h3
      have h3' : letterS (bu b) = true := by simpa [byteAt_ba, bu] using h3
      have hd : digitS (bu b) = false := by
        simp only [letterS, decide_eq_true_eq] at h3'
        simp only [digitS, decide_eq_false_iff_not]
        omega
      have h2' : (b == 95 && s.isEmpty) = false := by
        simp at h2
        simp only [Bool.and_eq_false_iff, beq_eq_false_iff_ne, List.isEmpty_eq_false_iff]
        by_cases hb : b = 95
        · exact .inr (h2 hb)
        · exact .inl hb
      generalize hl : b :: s = l at *
      have spec : speltS l = l.all letB := by rw [← hl]; simp [speltS, h2', hd]
      refine LoopG.of ttab_ok [0, 3] [] (fun (i : Nat) => ⟨[(0, S l), (3, I i)], []⟩) (fun i => i ≤ l.length ∧ (l.take i).all letB = true) (fun i => l.length - i) 0 (by kernel_rfl) .nil (by simp) (by simp) ?hs ⟨by omega, by simp⟩ ?_
      case hs =>
        first
          | (simp only [keepSt, keepE, Al.look, envOf, lend, ren, renL, renR, posOf, List.map_cons, List.map_nil]; done)
          | (simp only [keepSt, keepE, Al.look, envOf, lend, ren, renL, renR, posOf, List.map_cons, List.map_nil]; simp [I, S, B, U8, dI, dS, dB, dU8, dInts, dStrs, dNodes, ren, renL, renR, posOf, Al.look, envOf])
          | (simp [keepSt, keepE, lend, I, S, B, U8, dI, dS, dB, dU8, dInts, dStrs, dNodes, ren, renL, renR, posOf, Al.look, envOf])
      intro i hJ
      obtain ⟨hi, ht⟩ := hJ
      conv => whnf
      repeat' first
        | (intro _; conv => whnf)
        | (apply And.intro <;> (conv => whnf))
        | (refine AllRow.of rfl ?_; conv => whnf)
        | (apply AllRow.map; intro _ _; conv => whnf)
        | (refine CallG.con call129 rfl (rdigit_ok _) ?_; conv => whnf)
        | (refine CallQG.con call129 rfl (rdigit_ok _) ?_; conv => whnf)
        | (refine CallG.con call128 rfl (rletter_ok _) ?_; conv => whnf)
        | (refine CallQG.con call128 rfl (rletter_ok _) ?_; conv => whnf)
        | exact ⟨rfl⟩
        | fail
      all_goals try simp only [Int.toNat_natCast, size_ba] at *
      all_goals try (exact ⟨by omega⟩)
      · rename_i hlt h
        obtain ⟨c, hc, e⟩ := byte_at (l := l) (i := i) (by omega)
        refine RoundG.mk' (i + 1) (by simp) ?_ (by omega) ⟨by omega, ?_⟩
        ·
          first
            | (simp only [keepSt, keepE, Al.look, envOf, lend, ren, renL, renR, posOf, List.map_cons, List.map_nil]; done)
            | (simp only [keepSt, keepE, Al.look, envOf, lend, ren, renL, renR, posOf, List.map_cons, List.map_nil]; simp [I, S, B, U8, dI, dS, dB, dU8, dInts, dStrs, dNodes, ren, renL, renR, posOf, Al.look, envOf])
            | (simp [keepSt, keepE, lend, I, S, B, U8, dI, dS, dB, dU8, dInts, dStrs, dNodes, ren, renL, renR, posOf, Al.look, envOf])
        · rw [e] at h
          rw [List.take_add_one, hc, List.all_append, ht]
          simp [letB, h]
      · rename_i hlt h' h
        obtain ⟨c, hc, e⟩ := byte_at (l := l) (i := i) (by omega)
        refine RoundG.mk' (i + 1) (by simp) ?_ (by omega) ⟨by omega, ?_⟩
        ·
          first
            | (simp only [keepSt, keepE, Al.look, envOf, lend, ren, renL, renR, posOf, List.map_cons, List.map_nil]; done)
            | (simp only [keepSt, keepE, Al.look, envOf, lend, ren, renL, renR, posOf, List.map_cons, List.map_nil]; simp [I, S, B, U8, dI, dS, dB, dU8, dInts, dStrs, dNodes, ren, renL, renR, posOf, Al.look, envOf])
            | (simp [keepSt, keepE, lend, I, S, B, U8, dI, dS, dB, dU8, dInts, dStrs, dNodes, ren, renL, renR, posOf, Al.look, envOf])
        · rw [e] at h
          rw [List.take_add_one, hc, List.all_append, ht]
          simp [letB, h]
      · rename_i hlt h' h
        obtain ⟨c, hc, e⟩ := byte_at (l := l) (i := i) (by omega)
        rw [e] at h h'
        have : l.all letB = false := by
          rw [List.all_eq_false]
          exact ⟨c, List.mem_of_getElem? hc, by simp [letB, h, h']⟩
        exact ⟨by simp [B, dB, spec, this]⟩
      · rename_i hge
        rw [List.take_of_length_le (by omega)] at ht
        exact ⟨by simp [B, dB, spec, ht]⟩
    · rename_i h1 h2 h
      refine ⟨?_⟩
      have hl : letterS (bu b) = false := by simpa [byteAt_ba, bu] using h
      have : speltS (b :: s) = false := by
        simp only [speltS, List.all_cons, letB, hl, Bool.false_or]
        cases digitS (bu b) <;> simp
      simp [B, dB, this]
theorem rname_ok (s : Bytes) (hs : s.length ≤ 140737488355328) : SPure prog 99 [S s] (B (nameB s)) := by
  refine .run ttab_ok func99 rfl (by kernel_rfl) (by simp [f99]) rfl ?_
  conv => whnf
  repeat' first
    | (intro _; conv => whnf)
    | (apply And.intro <;> (conv => whnf))
    | (refine AllRow.of rfl ?_; conv => whnf)
    | (apply AllRow.map; intro _ _; conv => whnf)
    | (refine CallG.con call115 rfl (rspelt_ok _ hs) ?_; conv => whnf)
    | (refine CallQG.con call115 rfl (rspelt_ok _ hs) ?_; conv => whnf)
    | (refine CallG.con call116 rfl (rword_ok _) ?_; conv => whnf)
    | (refine CallQG.con call116 rfl (rword_ok _) ?_; conv => whnf)
    | exact ⟨rfl⟩
    | fail
  all_goals (refine ⟨?_⟩; simp_all [B, dB, nameB]; try first | omega | (intro _; omega))
end Go.Proofs.Tryz

namespace Go.Proofs.Tryz
open Go Go.Al
set_option maxRecDepth 20000
theorem rType_ok (k : Int) : SPure prog 35 [I k] (B (decide (10 ≤ k ∧ k ≤ 16))) := by
  refine .run ttab_ok func35 rfl (by kernel_rfl) (by simp [f35]) rfl ?_
  conv => whnf
  repeat' first
    | (intro _; conv => whnf)
    | (apply And.intro <;> (conv => whnf))
    | (refine AllRow.of rfl ?_; conv => whnf)
    | (apply AllRow.map; intro _ _; conv => whnf)
    | exact ⟨rfl⟩
    | fail
  all_goals (refine ⟨?_⟩; simp_all [B, dB]; try omega)
theorem rStmt_ok (k : Int) : SPure prog 51 [I k] (B (decide (21 ≤ k ∧ k ≤ 27))) := by
  refine .run ttab_ok func51 rfl (by kernel_rfl) (by simp [f51]) rfl ?_
  conv => whnf
  repeat' first
    | (intro _; conv => whnf)
    | (apply And.intro <;> (conv => whnf))
    | (refine AllRow.of rfl ?_; conv => whnf)
    | (apply AllRow.map; intro _ _; conv => whnf)
    | exact ⟨rfl⟩
    | fail
  all_goals (refine ⟨?_⟩; simp_all [B, dB]; try omega)
theorem rPattern_ok (k : Int) : SPure prog 98 [I k] (B (decide (50 ≤ k ∧ k ≤ 54))) := by
  refine .run ttab_ok func98 rfl (by kernel_rfl) (by simp [f98]) rfl ?_
  conv => whnf
  repeat' first
    | (intro _; conv => whnf)
    | (apply And.intro <;> (conv => whnf))
    | (refine AllRow.of rfl ?_; conv => whnf)
    | (apply AllRow.map; intro _ _; conv => whnf)
    | exact ⟨rfl⟩
    | fail
  all_goals (refine ⟨?_⟩; simp_all [B, dB]; try omega)
theorem rExpr_ok (k : Int) : SPure prog 117 [I k] (B (decide (k = 20 ∨ 30 ≤ k ∧ k ≤ 46 ∧ k ≠ 36))) := by
  refine .run ttab_ok func117 rfl (by kernel_rfl) (by simp [f117]) rfl ?_
  conv => whnf
  repeat' first
    | (intro _; conv => whnf)
    | (apply And.intro <;> (conv => whnf))
    | (refine AllRow.of rfl ?_; conv => whnf)
    | (apply AllRow.map; intro _ _; conv => whnf)
    | exact ⟨rfl⟩
    | fail
  all_goals (refine ⟨?_⟩; simp_all [B, dB]; try omega)
def clsR (c : Int) : Int := if c = 84 then 116 else if c = 83 then 115 else if c = 69 then 101 else if c = 80 then 112 else if c = 66 then 98 else if c = 73 then 105 else if c = 70 then 102 else if c = 86 then 118 else if c = 77 then 113 else if c = 65 then 97 else if c = 74 then 110 else 111
theorem ris_ok (k c : Int) : SPure prog 102 [I k, U8 c] (B (isS (clsR c) k)) := by
  refine .run ttab_ok func102 rfl (by kernel_rfl) (by simp [f102]) rfl ?_
  conv => whnf
  repeat' first
    | (intro _; conv => whnf)
    | (apply And.intro <;> (conv => whnf))
    | (refine AllRow.of rfl ?_; conv => whnf)
    | (apply AllRow.map; intro _ _; conv => whnf)
    | (refine CallG.con call35 rfl (rType_ok _) ?_; conv => whnf)
    | (refine CallQG.con call35 rfl (rType_ok _) ?_; conv => whnf)
    | (refine CallG.con call51 rfl (rStmt_ok _) ?_; conv => whnf)
    | (refine CallQG.con call51 rfl (rStmt_ok _) ?_; conv => whnf)
    | (refine CallG.con call117 rfl (rExpr_ok _) ?_; conv => whnf)
    | (refine CallQG.con call117 rfl (rExpr_ok _) ?_; conv => whnf)
    | (refine CallG.con call98 rfl (rPattern_ok _) ?_; conv => whnf)
    | (refine CallQG.con call98 rfl (rPattern_ok _) ?_; conv => whnf)
    | exact ⟨rfl⟩
    | fail
  all_goals (refine ⟨?_⟩; simp_all [B, dB, isS, clsR]; try omega)
theorem rknown_ok (k : Int) : SPure prog 77 [I k] (B (knownS k)) := by
  refine .run ttab_ok func77 rfl (by kernel_rfl) (by simp [f77]) rfl ?_
  conv => whnf
  repeat' first
    | (intro _; conv => whnf)
    | (apply And.intro <;> (conv => whnf))
    | (refine AllRow.of rfl ?_; conv => whnf)
    | (apply AllRow.map; intro _ _; conv => whnf)
    | (refine CallG.con call35 rfl (rType_ok _) ?_; conv => whnf)
    | (refine CallQG.con call35 rfl (rType_ok _) ?_; conv => whnf)
    | (refine CallG.con call51 rfl (rStmt_ok _) ?_; conv => whnf)
    | (refine CallQG.con call51 rfl (rStmt_ok _) ?_; conv => whnf)
    | (refine CallG.con call98 rfl (rPattern_ok _) ?_; conv => whnf)
    | (refine CallQG.con call98 rfl (rPattern_ok _) ?_; conv => whnf)
    | exact ⟨rfl⟩
    | fail
  all_goals (refine ⟨?_⟩; simp_all [B, dB, knownS]; try omega)
def signN (s : Bytes) : Int := if s = [124, 124] then 1 else if s = [38, 38] then 2 else if s = [61, 61] ∨ s = [33, 61] ∨ s = [60] ∨ s = [62] ∨ s = [60, 61] ∨ s = [62, 61] then 3 else if s = [43] ∨ s = [45] then 4 else if s = [42] ∨ s = [47] ∨ s = [37] then 5 else 0
theorem rsign_ok (s : Bytes) : SPure prog 101 [S s] (I (signN s)) := by
  refine .run ttab_ok func101 rfl (by kernel_rfl) (by simp [f101]) rfl ?_
  conv => whnf
  repeat' first
    | (intro _; conv => whnf)
    | (apply And.intro <;> (conv => whnf))
    | (refine AllRow.of rfl ?_; conv => whnf)
    | (apply AllRow.map; intro _ _; conv => whnf)
    | exact ⟨rfl⟩
    | fail
  all_goals (refine ⟨?_⟩; simp_all [I, dI, signN])
theorem signN_iff (s : Bytes) : decide (signN s > 0) = signL.contains s := by
  unfold signN
  by_cases h : s ∈ signL
  · have : signL.contains s = true := by simpa using h
    rw [this]
    simp only [signL, List.mem_cons, List.not_mem_nil, or_false] at h
    rcases h with h | h | h | h | h | h | h | h | h | h | h | h | h <;> subst h <;> rfl
  · have : signL.contains s = false := by simpa using h
    rw [this]
    simp only [signL, List.mem_cons, List.not_mem_nil, or_false, not_or] at h
    simp [h]
def countS (x : Al.Node) : Bool := if x.kind = 2 then true else numS x 0
theorem rcounted_ok (x : Al.Node) (hx : okNode x) : SPure prog 79 [aNode x] (B (countS x)) := by
  have hn := hx.num.1
  refine .run ttab_ok func79 rfl (by kernel_rfl) (by simp [f79]) rfl ?_
  conv => whnf
  repeat' first
    | (intro _; conv => whnf)
    | (apply And.intro <;> (conv => whnf))
    | (refine AllRow.of rfl ?_; conv => whnf)
    | (apply AllRow.map; intro _ _; conv => whnf)
    | exact ⟨rfl⟩
    | fail
  all_goals refine Side.mk ?_
  all_goals first
    | (simp_all [B, dB, countS, numS]; done)
    | (simp_all [B, dB, countS, numS]; omega)
theorem occ_iff {s : Bytes} {i : Nat} : (s.drop i).take 2 = [58, 58] ↔ Lib.occAt s [58, 58] i = true := by
  unfold Lib.occAt
  rw [List.isPrefixOf_iff_prefix, List.prefix_iff_eq_take]
  exact eq_comm
theorem pickS_found {s : Bytes} {i : Nat} (h : Lib.index s [58, 58] = i) (hi : i + 2 ≤ s.length) : pickS s = (nameB (s.take i) && nameB (s.drop (i + 2))) := by
  have e : Lib.cut s [58, 58] = (s.take i, s.drop (i + 2), true) := by
    unfold Lib.cut
    rw [h, if_pos (by omega)]
    simp
  unfold pickS
  rw [e]
  dsimp only
  rw [Bool.true_and]
  cases h1 : nameB (s.take i) with
  | false => simp
  | true =>
    cases h2 : nameB (s.drop (i + 2)) with
    | false => simp
    | true =>
      have l1 := nameB_len h1
      have l2 := nameB_len h2
      simp at l1 l2
      simp
      omega
theorem pickS_none {s : Bytes} (h : Lib.index s [58, 58] = -1) : pickS s = false := by
  unfold pickS Lib.cut
  rw [h]
  simp
theorem rpicked_ok (s : Bytes) (hs : s.length ≤ 140737488351232) : SPure prog 100 [S s] (B (pickS s)) := by
  refine .run ttab_ok func100 rfl (by kernel_rfl) (by simp [f100]) rfl ?_
  conv => whnf
  repeat' first
    | (intro _; conv => whnf)
    | (apply And.intro <;> (conv => whnf))
    | (refine AllRow.of rfl ?_; conv => whnf)
    | (apply AllRow.map; intro _ _; conv => whnf)
    | exact ⟨rfl⟩
    | fail
  refine LoopG.of ttab_ok [0, 3] [] (fun (i : Nat) => ⟨[(0, S s), (3, I i)], []⟩) (fun i => i ≤ s.length ∧ ∀ j, j < i → Lib.occAt s [58, 58] j = false) (fun i => s.length - i) 0 (by kernel_rfl) .nil (by simp) (by simp) ?hs ⟨by omega, by simp⟩ ?_
  case hs =>
    first
      | (simp only [keepSt, keepE, Al.look, envOf, lend, ren, renL, renR, posOf, List.map_cons, List.map_nil]; done)
      | (simp only [keepSt, keepE, Al.look, envOf, lend, ren, renL, renR, posOf, List.map_cons, List.map_nil]; simp [I, S, B, U8, dI, dS, dB, dU8, dInts, dStrs, dNodes, ren, renL, renR, posOf, Al.look, envOf])
      | (simp [keepSt, keepE, lend, I, S, B, U8, dI, dS, dB, dU8, dInts, dStrs, dNodes, ren, renL, renR, posOf, Al.look, envOf])
  rintro i ⟨hi, ho⟩
  conv => whnf
  repeat' first
    | (intro _; conv => whnf)
    | (apply And.intro <;> (conv => whnf))
    | (refine AllRow.of rfl ?_; conv => whnf)
    | (apply AllRow.map; intro _ _; conv => whnf)
    | exact ⟨rfl⟩
    | fail
  all_goals try simp only [Int.toNat_natCast, size_ba] at *
  all_goals try (exact ⟨by omega⟩)
  · rename_i hlt h
    have e2 : ((i : Int) + 2).toNat = i + 2 := by omega
    have hocc : Lib.occAt s [58, 58] i = true := by
      rw [e2] at h
      simp at h
      exact occ_iff.1 (by simpa using h)
    have hidx := Lib.index_first hi hocc ho
    have hp := pickS_found hidx (by omega)
    refine CallG.at [S (s.take i)] ?ha ?_
    case ha => simp [S, dS]
    refine CallG.con call99 rfl (rname_ok _ (by simp; omega)) ?_
    conv => whnf
    repeat' first
      | (intro h; exfalso; revert h; simp; done)
      | (intro _; conv => whnf)
      | (apply And.intro <;> (conv => whnf))
      | (refine AllRow.of rfl ?_; conv => whnf)
      | (apply AllRow.map; intro _ _; conv => whnf)
      | exact ⟨rfl⟩
      | fail
    all_goals try (exact ⟨by simp; omega⟩)
    all_goals try (exact ⟨by omega⟩)
    · rename_i h1
      refine CallG.at [S (s.drop (i + 2))] ?ha2 ?_
      case ha2 =>
        simp [S, dS]
        rw [e2, List.take_of_length_le (by simp)]
      refine CallG.con call99 rfl (rname_ok _ (by simp; omega)) ?_
      conv => whnf
      repeat' first
        | (intro h; exfalso; revert h; simp; done)
        | (intro _; conv => whnf)
        | (apply And.intro <;> (conv => whnf))
        | (refine AllRow.of rfl ?_; conv => whnf)
        | (apply AllRow.map; intro _ _; conv => whnf)
        | exact ⟨rfl⟩
        | fail
      all_goals (refine ⟨?_⟩; rw [hp]; simp_all [B, dB])
    · rename_i h1
      exact ⟨by rw [hp, h1]; rfl⟩
  · rename_i hlt h
    have e2 : ((i : Int) + 2).toNat = i + 2 := by omega
    have hocc : Lib.occAt s [58, 58] i = false := by
      rw [e2] at h
      simp at h
      cases hb : Lib.occAt s [58, 58] i with
      | false => rfl
      | true => exact absurd (occ_iff.2 hb) (by simpa using h)
    refine RoundG.mk' (i + 1) (by simp) ?_ (by omega) ⟨by omega, fun j hj => ?_⟩
    ·
      first
        | (simp only [keepSt, keepE, Al.look, envOf, lend, ren, renL, renR, posOf, List.map_cons, List.map_nil]; done)
        | (simp only [keepSt, keepE, Al.look, envOf, lend, ren, renL, renR, posOf, List.map_cons, List.map_nil]; simp [I, S, B, U8, dI, dS, dB, dU8, dInts, dStrs, dNodes, ren, renL, renR, posOf, Al.look, envOf])
        | (simp [keepSt, keepE, lend, I, S, B, U8, dI, dS, dB, dU8, dInts, dStrs, dNodes, ren, renL, renR, posOf, Al.look, envOf])
    · by_cases e : j = i
      · rw [e]; exact hocc
      · exact ho j (by omega)
  · rename_i hge
    refine ⟨?_⟩
    rw [pickS_none (Lib.index_none fun j hj => by
      cases hb : Lib.occAt s [58, 58] j with
      | false => rfl
      | true =>
        rcases Lib.occAt_room hb with h | h
        · simp at h
          rw [ho j (by omega)] at hb
          cases hb
        · cases h)]
    rfl
theorem rnamed_ok (x : Al.Node) (hx : okNode x) : SPure prog 78 [aNode x] (B (nameS x)) := by
  have hl := hx.name
  refine .run ttab_ok func78 rfl (by kernel_rfl) (by simp [f78]) rfl ?_
  conv => whnf
  repeat' first
    | (intro _; conv => whnf)
    | (apply And.intro <;> (conv => whnf))
    | (refine AllRow.of rfl ?_; conv => whnf)
    | (apply AllRow.map; intro _ _; conv => whnf)
    | (refine CallG.con call99 rfl (rname_ok _ (by omega)) ?_; conv => whnf)
    | (refine CallQG.con call99 rfl (rname_ok _ (by omega)) ?_; conv => whnf)
    | (refine CallG.con call101 rfl (rsign_ok _) ?_; conv => whnf)
    | (refine CallQG.con call101 rfl (rsign_ok _) ?_; conv => whnf)
    | (refine CallG.con call100 rfl (rpicked_ok _ hl) ?_; conv => whnf)
    | (refine CallQG.con call100 rfl (rpicked_ok _ hl) ?_; conv => whnf)
    | exact ⟨rfl⟩
    | fail
  all_goals try (refine ⟨?_⟩; simp_all [B, dB, nameS]; done)
  all_goals
    rename_i hk h
    refine ⟨?_⟩
    rw [show nameS x = decide (signN x.name > 0) by rw [signN_iff]; simp [nameS, hk]]
    simp [B, dB]
    omega
end Go.Proofs.Tryz

namespace Go.Proofs.Tryz
open Go Go.Al
set_option maxRecDepth 20000
theorem rkid_ok (t : List Al.Node) (x : Al.Node) (i : Int) (h0 : 0 ≤ i) (k : Int) (h : x.kids[i.toNat]? = some k) (hk : 0 ≤ k ∧ k < t.length) : SPure prog 103 [aTree t, aNode x, I i] (I (kindAt t k)) := by
  refine .run ttab_ok func103 rfl (by kernel_rfl) (by simp [f103]) rfl ?_
  conv => whnf
  repeat' first
    | (intro _; conv => whnf)
    | (apply And.intro <;> (conv => whnf))
    | (refine AllRow.of rfl ?_; conv => whnf)
    | (apply AllRow.map; intro _ _; conv => whnf)
    | exact ⟨rfl⟩
    | fail
  · have := (List.getElem?_eq_some_iff.1 h).1
    exact ⟨by simp; omega⟩
  · rename_i k' hk'
    rw [h] at hk'
    cases hk'
    exact ⟨by simp; omega⟩
  · rename_i k' hk' y hy
    rw [h] at hk'
    cases hk'
    exact ⟨by rw [kindAt_eq hy]; rfl⟩
def formsR (k : Int) : List Bytes :=
  if k = 1 then [[42, 73]] else if k = 2 then [[102, 110]] else if k = 3 then [[42, 70]] else if k = 4 then [[42, 86]] else if k = 5 ∨ k = 7 ∨ k = 14 ∨ k = 15 ∨ k = 16 then [[84]]
  else if k = 6 then [[], [84]] else if k = 20 then [[98, 108, 111, 99, 107]] else if k = 21 then [[69], [84, 69]] else if k = 22 ∨ k = 36 ∨ k = 41 ∨ k = 39 ∨ k = 40 ∨ k = 42 ∨ k = 44 ∨ k = 43 then [[69]]
  else if k = 23 ∨ k = 38 then [[69, 69]] else if k = 24 then [[69, 66]] else if k = 25 ∨ k = 37 then [[], [69]] else if k = 34 then [[42, 69]] else if k = 35 then [[42, 74]]
  else if k = 45 then [[69, 66], [69, 66, 88]] else if k = 46 then [[69, 42, 65]] else if k = 47 then [[80, 69]] else if k = 54 then [[], [80]] else [[]]
theorem rforms_ok (x : Al.Node) : SPure prog 80 [aNode x] (.d (dStrs (formsR x.kind))) := by
  refine .run ttab_ok func80 rfl (by kernel_rfl) (by simp [f80]) rfl ?_
  conv => whnf
  repeat' first
    | (intro _; conv => whnf)
    | (apply And.intro <;> (conv => whnf))
    | (refine AllRow.of rfl ?_; conv => whnf)
    | (apply AllRow.map; intro _ _; conv => whnf)
    | exact ⟨rfl⟩
    | fail
  all_goals refine Side.mk ?_
  all_goals first
    | rfl
    | (rename_i h; simp [dStrs, dS, rS, formsR, ba, h]; done)
    | (rename_i h1 h2; simp [dStrs, dS, rS, formsR, ba, h1, h2]; done)
    | simp_all [dStrs, dS, rS, formsR, ba]
end Go.Proofs.Tryz

namespace Go.Proofs.Tryz
open Go Go.Al
set_option maxRecDepth 20000
def patR : Bytes → List Int → Bool
  | [], ks => ks.isEmpty
  | [c], ks => match ks with
    | [] => false
    | k :: ks => isS (clsR (bu c)) k && ks.isEmpty
  | c :: d :: f, ks => if bu c = 42 then ks.all (isS (clsR (bu d))) else match ks with
    | [] => false
    | k :: ks => isS (clsR (bu c)) k && patR (d :: f) ks
def okForm : Bytes → Bool
  | [] => true
  | [c] => bu c != 42
  | c :: d :: f => bu c == 42 || okForm (d :: f)
theorem kids_at {t : List Al.Node} {x : Al.Node} (hin : ∀ k, k ∈ x.kids → 0 ≤ k ∧ k < t.length) {j : Nat} (hj : j < x.kids.length) : ∃ k, x.kids[j]? = some k ∧ (0 ≤ k ∧ k < t.length) ∧ (x.kids.map (kindAt t))[j]? = some (kindAt t k) :=
  ⟨x.kids[j], List.getElem?_eq_getElem hj, hin _ (List.getElem_mem hj), by simp [hj]⟩
theorem patR_star {c d : UInt8} {f : Bytes} {ks : List Int} (h : bu c = 42) : patR (c :: d :: f) ks = ks.all (isS (clsR (bu d))) := by
  simp only [patR, h, if_true]
theorem patR_one {c : UInt8} {f : Bytes} {k : Int} {ks : List Int} (h : bu c ≠ 42) : patR (c :: f) (k :: ks) = (isS (clsR (bu c)) k && patR f ks) := by
  cases f with
  | nil => simp [patR]
  | cons d f => simp only [patR, if_neg h]
theorem patR_none {c : UInt8} {f : Bytes} (h : bu c ≠ 42) : patR (c :: f) [] = false := by
  cases f with
  | nil => simp [patR]
  | cons d f => simp only [patR, if_neg h]
theorem okForm_next {c : UInt8} {f : Bytes} (h : okForm (c :: f) = true) (hc : bu c ≠ 42) : okForm f = true := by
  cases f with
  | nil => rfl
  | cons d f => simpa [okForm, hc] using h
theorem byte_drop {l : Bytes} {i : Nat} (h : i < l.length) : ∃ c, l.drop i = c :: l.drop (i + 1) ∧ ((byteAt (ba l) i : Nat) : Int) = bu c := by
  obtain ⟨c, hc, e⟩ := byte_at h
  exact ⟨c, drop_at hc, e⟩
theorem fitsPat_ok (t : List Al.Node) (x : Al.Node) (f : Bytes) (hin : ∀ k, k ∈ x.kids → 0 ≤ k ∧ k < t.length) (hf : okForm f = true) (hl : f.length ≤ 10) (hk : x.kids.length ≤ 17592186043904) (h1 : f ≠ [102, 110]) (h2 : f ≠ [98, 108, 111, 99, 107]) :
    SPure prog 81 [aTree t, aNode x, S f] (B (patR f (x.kids.map (kindAt t)))) := by
  refine .run ttab_ok func81 rfl (by kernel_rfl) (by simp [f81]) rfl ?_
  conv => whnf
  repeat' first
    | (intro h; exact absurd (show f = [102, 110] by simpa using h) h1)
    | (intro h; exact absurd (show f = [98, 108, 111, 99, 107] by simpa using h) h2)
    | (intro _; conv => whnf)
    | (apply And.intro <;> (conv => whnf))
    | exact ⟨rfl⟩
    | fail
  refine LoopG.of ttab_ok [2, 3, 4, 7, 10, 11] [0, 1] (fun (j : Nat) => ⟨[(2, S f), (3, .ptr 0 0 0), (4, .ptr 1 0 0), (7, I x.kids.length), (10, I j), (11, I j)], [.box [.d (dNodes t)], .box (cNode x)]⟩)
    (fun j => j ≤ f.length ∧ j ≤ x.kids.length ∧ patR (f.drop j) ((x.kids.map (kindAt t)).drop j) = patR f (x.kids.map (kindAt t)) ∧ okForm (f.drop j) = true) (fun j => f.length - j) 0 (by kernel_rfl) (by simp) (by simp) (by simp) ?hs ⟨by omega, by omega, by simp, by simpa using hf⟩ ?_
  case hs =>
    first
      | (simp only [keepSt, keepE, Al.look, envOf, lend, ren, renL, renR, posOf, List.map_cons, List.map_nil]; done)
      | (simp only [keepSt, keepE, Al.look, envOf, lend, ren, renL, renR, posOf, List.map_cons, List.map_nil]; simp [I, S, B, U8, dI, dS, dB, dU8, dInts, dStrs, dNodes, ren, renL, renR, posOf, Al.look, envOf, cNode])
      | (simp [keepSt, keepE, lend, I, S, B, U8, dI, dS, dB, dU8, dInts, dStrs, dNodes, ren, renL, renR, posOf, Al.look, envOf, cNode])
  rintro j ⟨hj1, hj2, hp, ho⟩
  conv => whnf
  repeat' first
    | (intro _; conv => whnf)
    | (apply And.intro <;> (conv => whnf))
    | (refine AllRow.of rfl ?_; conv => whnf)
    | (apply AllRow.map; intro _ _; conv => whnf)
    | exact ⟨rfl⟩
    | fail
  all_goals try simp only [Int.toNat_natCast, size_ba, List.length_map] at *
  all_goals try (exact ⟨by omega⟩)
  · rename_i hlt h42
    obtain ⟨c, hc, e⟩ := byte_drop (l := f) (i := j) (by omega)
    rw [e] at h42
    rw [hc] at ho hp
    have hj3 : j + 1 < f.length := by
      cases hd : f.drop (j + 1) with
      | nil => rw [hd] at ho; simp [okForm, h42] at ho
      | cons d r => have := congrArg List.length hd; simp at this; omega
    obtain ⟨d, hd, e'⟩ := byte_drop (l := f) (i := j + 1) hj3
    rw [hd, patR_star h42] at hp
    refine LoopG.of ttab_ok [2, 3, 4, 7, 10, 11] [0, 1] (fun (i : Nat) => ⟨[(2, S f), (3, .ptr 0 0 0), (4, .ptr 1 0 0), (7, I x.kids.length), (10, I i), (11, I j)], [.box [.d (dNodes t)], .box (cNode x)]⟩)
      (fun i => i ≤ x.kids.length ∧ ((x.kids.map (kindAt t)).drop i).all (isS (clsR (bu d))) = patR f (x.kids.map (kindAt t))) (fun i => x.kids.length - i) j (by kernel_rfl) (by simp) (by simp) (by simp) ?hs2 ⟨by omega, hp⟩ ?_
    case hs2 =>
      first
        | (simp only [keepSt, keepE, Al.look, envOf, lend, ren, renL, renR, posOf, List.map_cons, List.map_nil]; done)
        | (simp only [keepSt, keepE, Al.look, envOf, lend, ren, renL, renR, posOf, List.map_cons, List.map_nil]; simp [I, S, B, U8, dI, dS, dB, dU8, dInts, dStrs, dNodes, ren, renL, renR, posOf, Al.look, envOf, cNode])
        | (simp [keepSt, keepE, lend, I, S, B, U8, dI, dS, dB, dU8, dInts, dStrs, dNodes, ren, renL, renR, posOf, Al.look, envOf, cNode])
    rintro i ⟨hi, hpi⟩
    conv => whnf
    repeat' first
      | (intro _; conv => whnf)
      | (apply And.intro <;> (conv => whnf))
      | (refine AllRow.of rfl ?_; conv => whnf)
      | (apply AllRow.map; intro _ _; conv => whnf)
      | exact ⟨rfl⟩
      | fail
    all_goals try simp only [Int.toNat_natCast, size_ba, List.length_map] at *
    all_goals try (exact ⟨by omega⟩)
    · rename_i hlt2
      obtain ⟨k, hk1, hk2, hk3⟩ := kids_at hin (j := i) (by omega)
      refine CallQG.con call103 rfl (rkid_ok t x i (by omega) k (by rw [Int.toNat_natCast]; exact hk1) hk2) ?_
      conv => whnf
      repeat' first
        | (intro _; conv => whnf)
        | (apply And.intro <;> (conv => whnf))
        | (refine AllRow.of rfl ?_; conv => whnf)
        | (apply AllRow.map; intro _ _; conv => whnf)
        | exact ⟨rfl⟩
        | fail
      all_goals try simp only [Int.toNat_natCast, size_ba, List.length_map] at *
      all_goals try (exact ⟨by omega⟩)
      refine CallQG.at [I (kindAt t k), U8 (bu d)] ?ha ?_
      case ha =>
        rw [show ((j : Int) + 1).toNat = j + 1 from by omega, e']
        rfl
      refine CallQG.con call102 rfl (ris_ok _ _) ?_
      conv => whnf
      repeat' first
        | (intro h; exfalso; revert h; simp; done)
        | (intro _; conv => whnf)
        | (apply And.intro <;> (conv => whnf))
        | (refine AllRow.of rfl ?_; conv => whnf)
        | (apply AllRow.map; intro _ _; conv => whnf)
        | exact ⟨rfl⟩
        | fail
      all_goals try (exact ⟨by omega⟩)
      · rename_i hb
        rw [drop_at hk3, List.all_cons, hb, Bool.true_and] at hpi
        refine RoundG.mk' (i + 1) (by simp) ?_ (by omega) ⟨by omega, hpi⟩
        first
          | (simp only [keepSt, keepE, Al.look, envOf, lend, ren, renL, renR, posOf, List.map_cons, List.map_nil]; done)
          | (simp only [keepSt, keepE, Al.look, envOf, lend, ren, renL, renR, posOf, List.map_cons, List.map_nil]; simp [I, S, B, U8, dI, dS, dB, dU8, dInts, dStrs, dNodes, ren, renL, renR, posOf, Al.look, envOf, cNode])
          | (simp [keepSt, keepE, lend, I, S, B, U8, dI, dS, dB, dU8, dInts, dStrs, dNodes, ren, renL, renR, posOf, Al.look, envOf, cNode])
      · rename_i hb
        rw [drop_at hk3, List.all_cons, hb, Bool.false_and] at hpi
        exact ⟨by rw [← hpi]; rfl⟩
    · rename_i hge
      rw [List.drop_eq_nil_of_le (by simp; omega)] at hpi
      exact ⟨by rw [← hpi]; rfl⟩
  · rename_i hlt h42 hjm
    obtain ⟨c, hc, e⟩ := byte_drop (l := f) (i := j) (by omega)
    rw [e] at h42
    have hkd : (x.kids.map (kindAt t)).drop j = [] := List.drop_eq_nil_of_le (by simp; omega)
    rw [hc, hkd, patR_none h42] at hp
    exact ⟨by rw [← hp]; rfl⟩
  · rename_i hlt h42 hjm
    obtain ⟨c, hc, e⟩ := byte_drop (l := f) (i := j) (by omega)
    rw [e] at h42
    obtain ⟨k, hk1, hk2, hk3⟩ := kids_at hin (j := j) (by omega)
    rw [hc, drop_at hk3, patR_one h42] at hp
    rw [hc] at ho
    have ho' := okForm_next ho h42
    refine CallQG.con call103 rfl (rkid_ok t x j (by omega) k (by rw [Int.toNat_natCast]; exact hk1) hk2) ?_
    conv => whnf
    repeat' first
      | (intro _; conv => whnf)
      | (apply And.intro <;> (conv => whnf))
      | (refine AllRow.of rfl ?_; conv => whnf)
      | (apply AllRow.map; intro _ _; conv => whnf)
      | exact ⟨rfl⟩
      | fail
    all_goals try simp only [Int.toNat_natCast, size_ba, List.length_map] at *
    all_goals try (exact ⟨by omega⟩)
    refine CallQG.at [I (kindAt t k), U8 (bu c)] ?ha3 ?_
    case ha3 =>
      rw [e]
      rfl
    refine CallQG.con call102 rfl (ris_ok _ _) ?_
    conv => whnf
    repeat' first
      | (intro h; exfalso; revert h; simp; done)
      | (intro _; conv => whnf)
      | (apply And.intro <;> (conv => whnf))
      | (refine AllRow.of rfl ?_; conv => whnf)
      | (apply AllRow.map; intro _ _; conv => whnf)
      | exact ⟨rfl⟩
      | fail
    all_goals try (exact ⟨by omega⟩)
    · rename_i hb
      rw [hb, Bool.true_and] at hp
      refine RoundG.mk' (j + 1) (by simp) ?_ (by omega) ⟨by omega, by omega, hp, ho'⟩
      first
        | (simp only [keepSt, keepE, Al.look, envOf, lend, ren, renL, renR, posOf, List.map_cons, List.map_nil]; done)
        | (simp only [keepSt, keepE, Al.look, envOf, lend, ren, renL, renR, posOf, List.map_cons, List.map_nil]; simp [I, S, B, U8, dI, dS, dB, dU8, dInts, dStrs, dNodes, ren, renL, renR, posOf, Al.look, envOf, cNode])
        | (simp [keepSt, keepE, lend, I, S, B, U8, dI, dS, dB, dU8, dInts, dStrs, dNodes, ren, renL, renR, posOf, Al.look, envOf, cNode])
    · rename_i hb
      rw [hb, Bool.false_and] at hp
      exact ⟨by rw [← hp]; rfl⟩
  · rename_i hge hjm
    have hfd : f.drop j = [] := List.drop_eq_nil_of_le (by omega)
    have hkd : (x.kids.map (kindAt t)).drop j = [] := List.drop_eq_nil_of_le (by simp; omega)
    rw [hfd, hkd] at hp
    exact ⟨by rw [← hp]; rfl⟩
  · rename_i hge hjm
    have hfd : f.drop j = [] := List.drop_eq_nil_of_le (by omega)
    obtain ⟨k, hk1, hk2, hk3⟩ := kids_at hin (j := j) (by omega)
    rw [hfd, drop_at hk3] at hp
    exact ⟨by rw [← hp]; rfl⟩
end Go.Proofs.Tryz

namespace Go.Proofs.Tryz
open Go Go.Al
set_option maxRecDepth 20000
theorem fitsFn_ok (t : List Al.Node) (x : Al.Node) (hin : ∀ k, k ∈ x.kids → 0 ≤ k ∧ k < t.length) (hk : x.kids.length ≤ 17592186043904) :
    SPure prog 81 [aTree t, aNode x, S [102, 110]] (B (fnR x (x.kids.map (kindAt t)))) := by
  refine .run ttab_ok func81 rfl (by kernel_rfl) (by simp [f81]) rfl ?_
  conv => whnf
  repeat' first
    | (intro h; exfalso; revert h; simp; done)
    | (intro _; conv => whnf)
    | (apply And.intro <;> (conv => whnf))
    | (refine AllRow.of rfl ?_; conv => whnf)
    | (apply AllRow.map; intro _ _; conv => whnf)
    | exact ⟨rfl⟩
    | fail
  all_goals try simp only [List.length_map] at *
  all_goals try (exact ⟨by omega⟩)
  · rename_i h
    exact ⟨by simp only [fnR, List.length_map, decide_eq_false (show ¬ 2 ≤ x.kids.length by omega)]; rfl⟩
  · rename_i h h2
    exact ⟨by simp only [fnR, List.length_map, decide_eq_false h2, Bool.false_and, Bool.and_false]; rfl⟩
  · rename_i h h2
    have hn : x.num = (x.kids.length : Int) - 2 := by simpa using h2
    obtain ⟨k1, a1, a2, a3⟩ := kids_at hin (j := x.kids.length - 2) (by omega)
    obtain ⟨k2, b1, b2, b3⟩ := kids_at hin (j := x.kids.length - 1) (by omega)
    have e1 : ((x.kids.length : Int) - 2).toNat = x.kids.length - 2 := by omega
    have e2 : ((x.kids.length : Int) - 1).toNat = x.kids.length - 1 := by omega
    have hspec : fnR x (x.kids.map (kindAt t)) = (isS 116 (kindAt t k1) && (isS 98 (kindAt t k2) && ((x.kids.map (kindAt t)).take (x.kids.length - 2)).all (isS 113))) := by
      simp only [fnR, List.length_map, getD_at a3, getD_at b3, decide_eq_true hn, decide_eq_true (show 2 ≤ x.kids.length by omega), Bool.true_and]
    rw [hspec]
    refine CallG.con call103 rfl (rkid_ok t x ((x.kids.length : Int) - 2) (by omega) k1 (by rw [e1]; exact a1) a2) ?_
    conv => whnf
    repeat' first
      | (intro h; exfalso; revert h; simp; done)
      | (intro _; conv => whnf)
      | (apply And.intro <;> (conv => whnf))
      | (refine AllRow.of rfl ?_; conv => whnf)
      | (apply AllRow.map; intro _ _; conv => whnf)
      | (refine CallG.con call102 rfl (ris_ok _ _) ?_; conv => whnf)
      | (refine CallQG.con call102 rfl (ris_ok _ _) ?_; conv => whnf)
      | exact ⟨rfl⟩
      | fail
    all_goals try simp only [List.length_map] at *
    all_goals try (exact ⟨by omega⟩)
    · rename_i h3
      have h3 : isS 116 (kindAt t k1) = true := h3
      refine CallG.con call103 rfl (rkid_ok t x ((x.kids.length : Int) - 1) (by omega) k2 (by rw [e2]; exact b1) b2) ?_
      conv => whnf
      repeat' first
        | (intro h; exfalso; revert h; simp; done)
        | (intro _; conv => whnf)
        | (apply And.intro <;> (conv => whnf))
        | (refine AllRow.of rfl ?_; conv => whnf)
        | (apply AllRow.map; intro _ _; conv => whnf)
        | (refine CallG.con call102 rfl (ris_ok _ _) ?_; conv => whnf)
        | (refine CallQG.con call102 rfl (ris_ok _ _) ?_; conv => whnf)
        | exact ⟨rfl⟩
        | fail
      all_goals try simp only [List.length_map] at *
      all_goals try (exact ⟨by omega⟩)
      · rename_i h4
        have h4 : isS 98 (kindAt t k2) = true := h4
        refine LoopG.of ttab_ok [3, 4, 7, 8] [0, 1] (fun (i : Nat) => ⟨[(3, .ptr 0 0 0), (4, .ptr 1 0 0), (7, I x.kids.length), (8, I i)], [.box [.d (dNodes t)], .box (cNode x)]⟩)
          (fun i => i ≤ x.kids.length - 2 ∧ ((x.kids.map (kindAt t)).take i).all (isS 113) = true) (fun i => x.kids.length - 2 - i) 0 (by kernel_rfl) (by simp) (by simp) (by simp) ?hs ⟨by omega, by simp⟩ ?_
        case hs =>
          first
            | (simp only [keepSt, keepE, Al.look, envOf, lend, ren, renL, renR, posOf, List.map_cons, List.map_nil]; done)
            | (simp only [keepSt, keepE, Al.look, envOf, lend, ren, renL, renR, posOf, List.map_cons, List.map_nil]; simp [I, S, B, U8, dI, dS, dB, dU8, dInts, dStrs, dNodes, ren, renL, renR, posOf, Al.look, envOf, cNode])
            | (simp [keepSt, keepE, lend, I, S, B, U8, dI, dS, dB, dU8, dInts, dStrs, dNodes, ren, renL, renR, posOf, Al.look, envOf, cNode])
        rintro i ⟨hi, hpi⟩
        conv => whnf
        repeat' first
          | (intro _; conv => whnf)
          | (apply And.intro <;> (conv => whnf))
          | (refine AllRow.of rfl ?_; conv => whnf)
          | (apply AllRow.map; intro _ _; conv => whnf)
          | exact ⟨rfl⟩
          | fail
        all_goals try simp only [Int.toNat_natCast, List.length_map] at *
        all_goals try (exact ⟨by omega⟩)
        · rename_i hlt
          obtain ⟨k, c1, c2, c3⟩ := kids_at hin (j := i) (by omega)
          refine CallG.con call103 rfl (rkid_ok t x i (by omega) k (by rw [Int.toNat_natCast]; exact c1) c2) ?_
          conv => whnf
          repeat' first
            | (intro h; exfalso; revert h; simp; done)
            | (intro _; conv => whnf)
            | (apply And.intro <;> (conv => whnf))
            | (refine AllRow.of rfl ?_; conv => whnf)
            | (apply AllRow.map; intro _ _; conv => whnf)
            | (refine CallG.con call102 rfl (ris_ok _ _) ?_; conv => whnf)
            | (refine CallQG.con call102 rfl (ris_ok _ _) ?_; conv => whnf)
            | exact ⟨rfl⟩
            | fail
          all_goals try (exact ⟨by omega⟩)
          · rename_i hb
            have hb : isS 113 (kindAt t k) = true := hb
            refine RoundG.mk' (i + 1) (by simp) ?_ (by omega) ⟨by omega, ?_⟩
            ·
              first
                | (simp only [keepSt, keepE, Al.look, envOf, lend, ren, renL, renR, posOf, List.map_cons, List.map_nil]; done)
                | (simp only [keepSt, keepE, Al.look, envOf, lend, ren, renL, renR, posOf, List.map_cons, List.map_nil]; simp [I, S, B, U8, dI, dS, dB, dU8, dInts, dStrs, dNodes, ren, renL, renR, posOf, Al.look, envOf, cNode])
                | (simp [keepSt, keepE, lend, I, S, B, U8, dI, dS, dB, dU8, dInts, dStrs, dNodes, ren, renL, renR, posOf, Al.look, envOf, cNode])
            · rw [List.take_add_one, c3, List.all_append, hpi]
              simp [hb]
          · rename_i hb
            have hb : isS 113 (kindAt t k) = false := hb
            have : ((x.kids.map (kindAt t)).take (x.kids.length - 2)).all (isS 113) = false := by
              rw [List.all_eq_false]
              exact ⟨kindAt t k, List.mem_of_getElem? (show ((x.kids.map (kindAt t)).take (x.kids.length - 2))[i]? = some (kindAt t k) by rw [List.getElem?_take_of_lt (by omega)]; exact c3), by simp [hb]⟩
            exact ⟨by rw [this]; simp [B, dB]⟩
        · rename_i hge
          have hie : i = x.kids.length - 2 := by omega
          rw [hie] at hpi
          exact ⟨by rw [hpi]; simp [B, dB, h3, h4]⟩
      · rename_i h4
        have h4 : isS 98 (kindAt t k2) = false := h4
        exact ⟨by rw [h3, h4]; rfl⟩
    · rename_i h3
      have h3 : isS 116 (kindAt t k1) = false := h3
      exact ⟨by rw [h3]; rfl⟩
def blockR (x : Al.Node) (ks : List Int) : Bool := if x.num = 1 then decide (ks.length ≠ 0) && (isS 101 (ks.getD (ks.length - 1) 0) && (ks.take (ks.length - 1)).all (isS 115)) else ks.all (isS 115)
theorem fitsBlock_ok (t : List Al.Node) (x : Al.Node) (hin : ∀ k, k ∈ x.kids → 0 ≤ k ∧ k < t.length) (hk : x.kids.length ≤ 17592186043904) (hn : x.num = 0 ∨ x.num = 1) :
    SPure prog 81 [aTree t, aNode x, S [98, 108, 111, 99, 107]] (B (blockR x (x.kids.map (kindAt t)))) := by
  refine .run ttab_ok func81 rfl (by kernel_rfl) (by simp [f81]) rfl ?_
  conv => whnf
  repeat' first
    | (intro h; exfalso; revert h; simp; done)
    | (intro _; conv => whnf)
    | (apply And.intro <;> (conv => whnf))
    | (refine AllRow.of rfl ?_; conv => whnf)
    | (apply AllRow.map; intro _ _; conv => whnf)
    | exact ⟨rfl⟩
    | fail
  all_goals try simp only [List.length_map] at *
  all_goals try (exact ⟨by omega⟩)
  · rename_i h1 h0
    have : (x.kids.map (kindAt t)).length = 0 := by rw [List.length_map]; omega
    exact ⟨by simp only [blockR, if_pos h1, this]; rfl⟩
  · rename_i h1 h0
    obtain ⟨k2, b1, b2, b3⟩ := kids_at hin (j := x.kids.length - 1) (by omega)
    have e2 : ((x.kids.length : Int) - 1).toNat = x.kids.length - 1 := by omega
    have hspec : blockR x (x.kids.map (kindAt t)) = (isS 101 (kindAt t k2) && ((x.kids.map (kindAt t)).take (x.kids.length - 1)).all (isS 115)) := by
      simp only [blockR, if_pos h1, List.length_map, getD_at b3, decide_eq_true (show x.kids.length ≠ 0 by omega), Bool.true_and]
    rw [hspec]
    refine CallG.con call103 rfl (rkid_ok t x ((x.kids.length : Int) - 1) (by omega) k2 (by rw [e2]; exact b1) b2) ?_
    conv => whnf
    repeat' first
      | (intro h; exfalso; revert h; simp; done)
      | (intro _; conv => whnf)
      | (apply And.intro <;> (conv => whnf))
      | (refine AllRow.of rfl ?_; conv => whnf)
      | (apply AllRow.map; intro _ _; conv => whnf)
      | (refine CallG.con call102 rfl (ris_ok _ _) ?_; conv => whnf)
      | (refine CallQG.con call102 rfl (ris_ok _ _) ?_; conv => whnf)
      | exact ⟨rfl⟩
      | fail
    all_goals try simp only [List.length_map] at *
    all_goals try (exact ⟨by omega⟩)
    · rename_i h4
      have h4 : isS 101 (kindAt t k2) = true := h4
      refine LoopG.of ttab_ok [3, 4, 7, 9] [0, 1] (fun (i : Nat) => ⟨[(3, .ptr 0 0 0), (4, .ptr 1 0 0), (7, I x.kids.length), (9, I i)], [.box [.d (dNodes t)], .box (cNode x)]⟩)
        (fun i => i ≤ x.kids.length - 1 ∧ ((x.kids.map (kindAt t)).take i).all (isS 115) = true) (fun i => x.kids.length - 1 - i) 0 (by kernel_rfl) (by simp) (by simp) (by simp) ?hs ⟨by omega, by simp⟩ ?_
      case hs =>
        first
          | (simp only [keepSt, keepE, Al.look, envOf, lend, ren, renL, renR, posOf, List.map_cons, List.map_nil]; done)
          | (simp only [keepSt, keepE, Al.look, envOf, lend, ren, renL, renR, posOf, List.map_cons, List.map_nil]; simp [I, S, B, U8, dI, dS, dB, dU8, dInts, dStrs, dNodes, ren, renL, renR, posOf, Al.look, envOf, cNode])
          | (simp [keepSt, keepE, lend, I, S, B, U8, dI, dS, dB, dU8, dInts, dStrs, dNodes, ren, renL, renR, posOf, Al.look, envOf, cNode])
      rintro i ⟨hi, hpi⟩
      conv => whnf
      repeat' first
        | (intro _; conv => whnf)
        | (apply And.intro <;> (conv => whnf))
        | (refine AllRow.of rfl ?_; conv => whnf)
        | (apply AllRow.map; intro _ _; conv => whnf)
        | exact ⟨rfl⟩
        | fail
      all_goals try simp only [Int.toNat_natCast, List.length_map] at *
      all_goals try (exact ⟨by omega⟩)
      · rename_i hlt
        obtain ⟨k, c1, c2, c3⟩ := kids_at hin (j := i) (by omega)
        refine CallG.con call103 rfl (rkid_ok t x i (by omega) k (by rw [Int.toNat_natCast]; exact c1) c2) ?_
        conv => whnf
        repeat' first
          | (intro h; exfalso; revert h; simp; done)
          | (intro _; conv => whnf)
          | (apply And.intro <;> (conv => whnf))
          | (refine AllRow.of rfl ?_; conv => whnf)
          | (apply AllRow.map; intro _ _; conv => whnf)
          | (refine CallG.con call102 rfl (ris_ok _ _) ?_; conv => whnf)
          | (refine CallQG.con call102 rfl (ris_ok _ _) ?_; conv => whnf)
          | exact ⟨rfl⟩
          | fail
        all_goals try (exact ⟨by omega⟩)
        · rename_i hb
          have hb : isS 115 (kindAt t k) = true := hb
          refine RoundG.mk' (i + 1) (by simp) ?_ (by omega) ⟨by omega, ?_⟩
          ·
            first
              | (simp only [keepSt, keepE, Al.look, envOf, lend, ren, renL, renR, posOf, List.map_cons, List.map_nil]; done)
              | (simp only [keepSt, keepE, Al.look, envOf, lend, ren, renL, renR, posOf, List.map_cons, List.map_nil]; simp [I, S, B, U8, dI, dS, dB, dU8, dInts, dStrs, dNodes, ren, renL, renR, posOf, Al.look, envOf, cNode])
              | (simp [keepSt, keepE, lend, I, S, B, U8, dI, dS, dB, dU8, dInts, dStrs, dNodes, ren, renL, renR, posOf, Al.look, envOf, cNode])
          · rw [List.take_add_one, c3, List.all_append, hpi]
            simp [hb]
        · rename_i hb
          have hb : isS 115 (kindAt t k) = false := hb
          have : ((x.kids.map (kindAt t)).take (x.kids.length - 1)).all (isS 115) = false := by
            rw [List.all_eq_false]
            exact ⟨kindAt t k, List.mem_of_getElem? (show ((x.kids.map (kindAt t)).take (x.kids.length - 1))[i]? = some (kindAt t k) by rw [List.getElem?_take_of_lt (by omega)]; exact c3), by simp [hb]⟩
          exact ⟨by rw [this]; simp [B, dB]⟩
      · rename_i hge
        have hie : i = x.kids.length - 1 := by omega
        rw [hie] at hpi
        exact ⟨by rw [hpi]; simp [B, dB, h4]⟩
    · rename_i h4
      have h4 : isS 101 (kindAt t k2) = false := h4
      exact ⟨by rw [h4]; rfl⟩
  · rename_i h1
    have h0 : x.num = 0 := by omega
    have hspec : blockR x (x.kids.map (kindAt t)) = ((x.kids.map (kindAt t)).take (x.kids.length)).all (isS 115) := by
      rw [List.take_of_length_le (by simp)]
      simp only [blockR, if_neg h1]
    rw [hspec]
    refine LoopG.of ttab_ok [3, 4, 7, 9] [0, 1] (fun (i : Nat) => ⟨[(3, .ptr 0 0 0), (4, .ptr 1 0 0), (7, I x.kids.length), (9, I i)], [.box [.d (dNodes t)], .box (cNode x)]⟩)
      (fun i => i ≤ x.kids.length ∧ ((x.kids.map (kindAt t)).take i).all (isS 115) = true) (fun i => x.kids.length - i) 0 (by kernel_rfl) (by simp) (by simp) (by simp) ?hs ⟨by omega, by simp⟩ ?_
    case hs =>
      first
        | (simp only [keepSt, keepE, Al.look, envOf, lend, ren, renL, renR, posOf, List.map_cons, List.map_nil]; done)
        | (simp only [keepSt, keepE, Al.look, envOf, lend, ren, renL, renR, posOf, List.map_cons, List.map_nil]; simp [I, S, B, U8, dI, dS, dB, dU8, dInts, dStrs, dNodes, ren, renL, renR, posOf, Al.look, envOf, cNode])
        | (simp [keepSt, keepE, lend, I, S, B, U8, dI, dS, dB, dU8, dInts, dStrs, dNodes, ren, renL, renR, posOf, Al.look, envOf, cNode])
    rintro i ⟨hi, hpi⟩
    conv => whnf
    repeat' first
      | (intro _; conv => whnf)
      | (apply And.intro <;> (conv => whnf))
      | (refine AllRow.of rfl ?_; conv => whnf)
      | (apply AllRow.map; intro _ _; conv => whnf)
      | exact ⟨rfl⟩
      | fail
    all_goals try simp only [Int.toNat_natCast, List.length_map] at *
    all_goals try (exact ⟨by omega⟩)
    · rename_i hlt
      obtain ⟨k, c1, c2, c3⟩ := kids_at hin (j := i) (by omega)
      refine CallG.con call103 rfl (rkid_ok t x i (by omega) k (by rw [Int.toNat_natCast]; exact c1) c2) ?_
      conv => whnf
      repeat' first
        | (intro h; exfalso; revert h; simp; done)
        | (intro _; conv => whnf)
        | (apply And.intro <;> (conv => whnf))
        | (refine AllRow.of rfl ?_; conv => whnf)
        | (apply AllRow.map; intro _ _; conv => whnf)
        | (refine CallG.con call102 rfl (ris_ok _ _) ?_; conv => whnf)
        | (refine CallQG.con call102 rfl (ris_ok _ _) ?_; conv => whnf)
        | exact ⟨rfl⟩
        | fail
      all_goals try (exact ⟨by omega⟩)
      · rename_i hb
        have hb : isS 115 (kindAt t k) = true := hb
        refine RoundG.mk' (i + 1) (by simp) ?_ (by omega) ⟨by omega, ?_⟩
        ·
          first
            | (simp only [keepSt, keepE, Al.look, envOf, lend, ren, renL, renR, posOf, List.map_cons, List.map_nil]; done)
            | (simp only [keepSt, keepE, Al.look, envOf, lend, ren, renL, renR, posOf, List.map_cons, List.map_nil]; simp [I, S, B, U8, dI, dS, dB, dU8, dInts, dStrs, dNodes, ren, renL, renR, posOf, Al.look, envOf, cNode])
            | (simp [keepSt, keepE, lend, I, S, B, U8, dI, dS, dB, dU8, dInts, dStrs, dNodes, ren, renL, renR, posOf, Al.look, envOf, cNode])
        · rw [List.take_add_one, c3, List.all_append, hpi]
          simp [hb]
      · rename_i hb
        have hb : isS 115 (kindAt t k) = false := hb
        have : ((x.kids.map (kindAt t)).take (x.kids.length)).all (isS 115) = false := by
          rw [List.all_eq_false]
          exact ⟨kindAt t k, List.mem_of_getElem? (show ((x.kids.map (kindAt t)).take (x.kids.length))[i]? = some (kindAt t k) by rw [List.getElem?_take_of_lt (by omega)]; exact c3), by simp [hb]⟩
        exact ⟨by rw [this]; simp [B, dB]⟩
    · rename_i hge
      have hie : i = x.kids.length := by omega
      rw [hie] at hpi
      exact ⟨by rw [hpi]; simp [B, dB]⟩
end Go.Proofs.Tryz

namespace Go.Proofs.Tryz
open Go Go.Al
set_option maxRecDepth 20000
def fitsR (x : Al.Node) (ks : List Int) (f : Bytes) : Bool := if f = [102, 110] then fnR x ks else if f = [98, 108, 111, 99, 107] then blockR x ks else patR f ks
def formOk (f : Bytes) : Bool := decide (f = [102, 110]) || (decide (f = [98, 108, 111, 99, 107]) || (okForm f && decide (f.length ≤ 10)))
theorem rfits_ok (t : List Al.Node) (x : Al.Node) (f : Bytes) (hin : ∀ k, k ∈ x.kids → 0 ≤ k ∧ k < t.length) (hk : x.kids.length ≤ 17592186043904) (hf : formOk f = true) (hb : f = [98, 108, 111, 99, 107] → x.num = 0 ∨ x.num = 1) :
    SPure prog 81 [aTree t, aNode x, S f] (B (fitsR x (x.kids.map (kindAt t)) f)) := by
  unfold fitsR
  split
  · rename_i h; subst h; exact fitsFn_ok t x hin hk
  · split
    · rename_i h; subst h; exact fitsBlock_ok t x hin hk (hb rfl)
    · rename_i h1 h2
      simp only [formOk, decide_eq_false h1, decide_eq_false h2, Bool.false_or, Bool.and_eq_true, decide_eq_true_eq] at hf
      exact fitsPat_ok t x f hin hf.1 hf.2 hk h1 h2
theorem ite_all {c : Prop} [Decidable c] {l m : List Bytes} (hl : l.all formOk = true) (hm : m.all formOk = true) : (if c then l else m).all formOk = true := by split <;> assumption
theorem ite_len {c : Prop} [Decidable c] {l m : List Bytes} (hl : l.length ≤ 2) (hm : m.length ≤ 2) : (if c then l else m).length ≤ 2 := by split <;> assumption
theorem forms_formOk (k : Int) : (formsR k).all formOk = true := by
  unfold formsR
  repeat' first
    | rfl
    | apply ite_all
theorem ite_no {c : Prop} [Decidable c] {l m : List Bytes} (hl : l.contains [98, 108, 111, 99, 107] = false) (hm : m.contains [98, 108, 111, 99, 107] = false) : (if c then l else m).contains [98, 108, 111, 99, 107] = false := by split <;> assumption
theorem forms_block {k : Int} (h : [98, 108, 111, 99, 107] ∈ formsR k) : k = 20 := by
  by_cases hk : k = 20
  · exact hk
  · have : (formsR k).contains [98, 108, 111, 99, 107] = false := by
      unfold formsR
      simp only [if_neg hk]
      repeat' first
        | rfl
        | apply ite_no
    simp at this
    exact absurd h this
theorem count_block {x : Al.Node} (h : countS x = true) (hk : x.kind = 20) : x.num = 0 ∨ x.num = 1 := by
  simpa [countS, numS, hk] using h
def nodeR (t : List Al.Node) (i : Nat) (x : Al.Node) : Bool :=
  knownS x.kind && (nameS x && (countS x && (decide (0 ≤ x.frm) && (decide (x.frm ≤ x.to) && (x.kids.all (fun k => decide (0 ≤ k ∧ k < i)) && (formsR x.kind).any (fitsR x (x.kids.map (kindAt t))))))))
theorem rnode_ok (t : List Al.Node) (ht : okTree t) (i : Nat) (x : Al.Node) (hx : t[i]? = some x) : SPure prog 48 [aTree t, I i] (B (nodeR t i x)) := by
  have hi : i < t.length := (List.getElem?_eq_some_iff.1 hx).1
  have ox := ht.node x (List.mem_of_getElem? hx)
  have hl := ht.len
  have hk := ox.len
  refine .run ttab_ok func48 rfl (by kernel_rfl) (by simp [f48]) rfl ?_
  conv => whnf
  repeat' first
    | (intro _; conv => whnf)
    | (apply And.intro <;> (conv => whnf))
    | (refine AllRow.of rfl ?_; conv => whnf)
    | (apply AllRow.map; intro _ _; conv => whnf)
    | exact ⟨rfl⟩
    | fail
  all_goals try simp only [Int.toNat_natCast, List.length_map] at *
  all_goals try (exact ⟨by omega⟩)
  rename_i x' hx'
  rw [hx] at hx'
  cases hx'
  repeat' first
    | (intro _; conv => whnf)
    | (apply And.intro <;> (conv => whnf))
    | (refine AllRow.of rfl ?_; conv => whnf)
    | (apply AllRow.map; intro _ _; conv => whnf)
    | (refine CallG.con call77 rfl (rknown_ok _) ?_; conv => whnf)
    | (refine CallQG.con call77 rfl (rknown_ok _) ?_; conv => whnf)
    | (refine CallG.con call78 rfl (rnamed_ok _ ox) ?_; conv => whnf)
    | (refine CallQG.con call78 rfl (rnamed_ok _ ox) ?_; conv => whnf)
    | (refine CallG.con call79 rfl (rcounted_ok _ ox) ?_; conv => whnf)
    | (refine CallQG.con call79 rfl (rcounted_ok _ ox) ?_; conv => whnf)
    | exact ⟨rfl⟩
    | fail
  all_goals try simp only [Int.toNat_natCast, List.length_map] at *
  all_goals try (refine Side.mk ?_; simp_all [nodeR, B, dB]; done)
  all_goals try (rename_i h; refine Side.mk ?_; simp [nodeR, B, dB]; intros; omega)
  rename_i h1 h2 h3 h4 h5
  have hpre : nodeR t i x = (x.kids.all (fun k => decide (0 ≤ k ∧ k < i)) && (formsR x.kind).any (fitsR x (x.kids.map (kindAt t)))) := by
    simp only [nodeR, h1, h2, h3, decide_eq_true (show 0 ≤ x.frm by omega), decide_eq_true (show x.frm ≤ x.to by omega), Bool.true_and]
  rw [hpre]
  refine LoopG.of ttab_ok [1, 2, 5, 42, 43, 44] [0, 1] (fun (j : Nat) => ⟨[(1, I i), (2, .ptr 0 0 0), (5, .ptr 1 0 0), (42, .d (dInts x.kids)), (43, I x.kids.length), (44, I j)], [.box [.d (dNodes t)], .box (cNode x)]⟩)
    (fun j => j ≤ x.kids.length ∧ ∀ k, k ∈ x.kids.take j → 0 ≤ k ∧ k < i) (fun j => x.kids.length - j) 0 (by kernel_rfl) (by simp) (by simp) (by simp) ?hs ⟨by omega, by simp⟩ ?_
  case hs =>
    first
      | (simp only [keepSt, keepE, Al.look, envOf, lend, ren, renL, renR, posOf, List.map_cons, List.map_nil]; done)
      | (simp only [keepSt, keepE, Al.look, envOf, lend, ren, renL, renR, posOf, List.map_cons, List.map_nil]; simp [I, S, B, U8, dI, dS, dB, dU8, dInts, dStrs, dNodes, ren, renL, renR, posOf, Al.look, envOf, cNode])
      | (simp [keepSt, keepE, lend, I, S, B, U8, dI, dS, dB, dU8, dInts, dStrs, dNodes, ren, renL, renR, posOf, Al.look, envOf, cNode])
  rintro j ⟨hj, hin⟩
  conv => whnf
  repeat' first
    | (intro _; conv => whnf)
    | (apply And.intro <;> (conv => whnf))
    | (refine AllRow.of rfl ?_; conv => whnf)
    | (apply AllRow.map; intro _ _; conv => whnf)
    | exact ⟨rfl⟩
    | fail
  all_goals try simp only [Int.toNat_natCast, List.length_map] at *
  all_goals try (exact ⟨by omega⟩)
  · rename_i hlt k hk1 h
    have : x.kids.all (fun k => decide (0 ≤ k ∧ k < i)) = false := List.all_eq_false.2 ⟨k, List.mem_of_getElem? hk1, by simp; omega⟩
    exact ⟨by rw [this]; rfl⟩
  · rename_i hlt k hk1 h h'
    have : x.kids.all (fun k => decide (0 ≤ k ∧ k < i)) = false := List.all_eq_false.2 ⟨k, List.mem_of_getElem? hk1, by simp; omega⟩
    exact ⟨by rw [this]; rfl⟩
  · rename_i hlt k hk1 h h'
    refine RoundG.mk' (j + 1) (by simp) ?_ (by omega) ⟨by omega, ?_⟩
    ·
      first
        | (simp only [keepSt, keepE, Al.look, envOf, lend, ren, renL, renR, posOf, List.map_cons, List.map_nil]; done)
        | (simp only [keepSt, keepE, Al.look, envOf, lend, ren, renL, renR, posOf, List.map_cons, List.map_nil]; simp [I, S, B, U8, dI, dS, dB, dU8, dInts, dStrs, dNodes, ren, renL, renR, posOf, Al.look, envOf, cNode])
        | (simp [keepSt, keepE, lend, I, S, B, U8, dI, dS, dB, dU8, dInts, dStrs, dNodes, ren, renL, renR, posOf, Al.look, envOf, cNode])
    · rw [List.take_add_one, hk1]
      intro q hq
      rcases List.mem_append.1 hq with hq | hq
      · exact hin q hq
      · simp at hq; subst hq; omega
  · rename_i hge
    have hjl : j = x.kids.length := by omega
    subst hjl
    rw [List.take_length] at hin
    have hall : x.kids.all (fun k => decide (0 ≤ k ∧ k < i)) = true := List.all_eq_true.2 fun k hk => by simpa using hin k hk
    rw [hall, Bool.true_and]
    have hinT : ∀ k, k ∈ x.kids → 0 ≤ k ∧ k < t.length := fun k hk => by have := hin k hk; omega
    have hfl : (formsR x.kind).length ≤ 2 := by
      unfold formsR
      repeat' first
        | decide
        | apply ite_len
    refine CallG.eq call80 rfl (rforms_ok x) ?_
    conv => whnf
    repeat' first
      | (intro _; conv => whnf)
      | (apply And.intro <;> (conv => whnf))
      | (refine AllRow.of rfl ?_; conv => whnf)
      | (apply AllRow.map; intro _ _; conv => whnf)
      | exact ⟨rfl⟩
      | fail
    all_goals try simp only [Int.toNat_natCast, List.length_map] at *
    refine LoopG.of ttab_ok [2, 5, 57, 58, 59] [0, 1] (fun (j : Nat) => ⟨[(2, .ptr 0 0 0), (5, .ptr 1 0 0), (57, .d (dStrs (formsR x.kind))), (58, I (formsR x.kind).length), (59, I j)], [.box [.d (dNodes t)], .box (cNode x)]⟩)
      (fun j => j ≤ (formsR x.kind).length ∧ ((formsR x.kind).drop j).any (fitsR x (x.kids.map (kindAt t))) = (formsR x.kind).any (fitsR x (x.kids.map (kindAt t)))) (fun j => (formsR x.kind).length - j) 0 (by kernel_rfl) (by simp) (by simp) (by simp) ?hs2 ⟨by omega, by simp⟩ ?_
    case hs2 =>
      first
        | (simp only [keepSt, keepE, Al.look, envOf, lend, ren, renL, renR, posOf, List.map_cons, List.map_nil]; done)
        | (simp only [keepSt, keepE, Al.look, envOf, lend, ren, renL, renR, posOf, List.map_cons, List.map_nil]; simp [I, S, B, U8, dI, dS, dB, dU8, dInts, dStrs, dNodes, ren, renL, renR, posOf, Al.look, envOf, cNode])
        | (simp [keepSt, keepE, lend, I, S, B, U8, dI, dS, dB, dU8, dInts, dStrs, dNodes, ren, renL, renR, posOf, Al.look, envOf, cNode])
    rintro j ⟨hj, hany⟩
    conv => whnf
    repeat' first
      | (intro _; conv => whnf)
      | (apply And.intro <;> (conv => whnf))
      | (refine AllRow.of rfl ?_; conv => whnf)
      | (apply AllRow.map; intro _ _; conv => whnf)
      | exact ⟨rfl⟩
      | fail
    all_goals try simp only [Int.toNat_natCast, List.length_map] at *
    all_goals try (exact ⟨by omega⟩)
    · rename_i hlt f hf
      have hfm := List.mem_of_getElem? hf
      have hfo := (List.all_eq_true.1 (forms_formOk x.kind)) f hfm
      refine CallG.con call81 rfl (rfits_ok t x f hinT hk hfo fun e => count_block h3 (forms_block (e ▸ hfm))) ?_
      conv => whnf
      repeat' first
        | (intro _; conv => whnf)
        | (apply And.intro <;> (conv => whnf))
        | (refine AllRow.of rfl ?_; conv => whnf)
        | (apply AllRow.map; intro _ _; conv => whnf)
        | exact ⟨rfl⟩
        | fail
      all_goals try (exact ⟨by omega⟩)
      · rename_i hb
        rw [drop_at hf, List.any_cons, hb, Bool.true_or] at hany
        exact ⟨by rw [← hany]; rfl⟩
      · rename_i hb
        rw [drop_at hf, List.any_cons, hb, Bool.false_or] at hany
        refine RoundG.mk' (j + 1) (by simp) ?_ (by omega) ⟨by omega, hany⟩
        first
          | (simp only [keepSt, keepE, Al.look, envOf, lend, ren, renL, renR, posOf, List.map_cons, List.map_nil]; done)
          | (simp only [keepSt, keepE, Al.look, envOf, lend, ren, renL, renR, posOf, List.map_cons, List.map_nil]; simp [I, S, B, U8, dI, dS, dB, dU8, dInts, dStrs, dNodes, ren, renL, renR, posOf, Al.look, envOf, cNode])
          | (simp [keepSt, keepE, lend, I, S, B, U8, dI, dS, dB, dU8, dInts, dStrs, dNodes, ren, renL, renR, posOf, Al.look, envOf, cNode])
    · rename_i hge2
      rw [List.drop_eq_nil_of_le (by omega)] at hany
      exact ⟨by rw [← hany]; rfl⟩
end Go.Proofs.Tryz

namespace Go.Proofs.Tryz
open Go Go.Al
set_option maxRecDepth 20000
theorem block_eq (x : Al.Node) (ks : List Int) (hk : x.kind = 20) (hn : x.num = 0 ∨ x.num = 1) : blockR x ks = fitsS x ks := by
  unfold fitsS blockR fitsW
  rcases hn with hn | hn
  · have hs : shapeS x.kind x.num = [42, 115] := by simp [shapeS, hk, hn]
    rw [hs]
    simp [hn, kidsS, bu]
  · have hs : shapeS x.kind x.num = [42, 115, 101] := by simp [shapeS, hk, hn]
    rw [hs]
    rw [if_pos hn]
    by_cases h1 : 1 ≤ ks.length
    · obtain ⟨b, hd, eb⟩ := drop_one h1
      rw [eb]
      simp only [List.length_cons, List.length_nil, Nat.zero_add, hd, decide_eq_true h1, Bool.true_and, decide_eq_true (show ks.length ≠ 0 by omega)]
      rw [show bu 115 = 115 from rfl, Bool.and_comm]
      simp [kidsS, bu]
    · have : ks = [] := List.length_eq_zero_iff.1 (by omega)
      subst this
      simp
theorem forms_eq (x : Al.Node) (ks : List Int) (h2 : x.kind ≠ 2) (hn : x.kind = 20 → x.num = 0 ∨ x.num = 1) : (formsR x.kind).any (fitsR x ks) = fitsS x ks := by
  by_cases h20 : x.kind = 20
  · rw [← block_eq x ks h20 (hn h20)]
    simp [formsR, h20, fitsR]
  · unfold fitsS
    generalize hk : x.kind = k at h2 h20
    by_cases h1 : k = 1
    · subst h1
      first
        | (simp [formsR, shapeS, fitsR, fitsW, patR, kidsS, bu, clsR]; done)
        | (rcases ks with _ | ⟨a, _ | ⟨b, _ | ⟨c, l⟩⟩⟩ <;> simp [formsR, shapeS, fitsR, fitsW, patR, kidsS, bu, clsR] <;> done)
    by_cases h3 : k = 3
    · subst h3
      first
        | (simp [formsR, shapeS, fitsR, fitsW, patR, kidsS, bu, clsR]; done)
        | (rcases ks with _ | ⟨a, _ | ⟨b, _ | ⟨c, l⟩⟩⟩ <;> simp [formsR, shapeS, fitsR, fitsW, patR, kidsS, bu, clsR] <;> done)
    by_cases h4 : k = 4
    · subst h4
      first
        | (simp [formsR, shapeS, fitsR, fitsW, patR, kidsS, bu, clsR]; done)
        | (rcases ks with _ | ⟨a, _ | ⟨b, _ | ⟨c, l⟩⟩⟩ <;> simp [formsR, shapeS, fitsR, fitsW, patR, kidsS, bu, clsR] <;> done)
    by_cases h5 : k = 5
    · subst h5
      first
        | (simp [formsR, shapeS, fitsR, fitsW, patR, kidsS, bu, clsR]; done)
        | (rcases ks with _ | ⟨a, _ | ⟨b, _ | ⟨c, l⟩⟩⟩ <;> simp [formsR, shapeS, fitsR, fitsW, patR, kidsS, bu, clsR] <;> done)
    by_cases h7 : k = 7
    · subst h7
      first
        | (simp [formsR, shapeS, fitsR, fitsW, patR, kidsS, bu, clsR]; done)
        | (rcases ks with _ | ⟨a, _ | ⟨b, _ | ⟨c, l⟩⟩⟩ <;> simp [formsR, shapeS, fitsR, fitsW, patR, kidsS, bu, clsR] <;> done)
    by_cases h14 : k = 14
    · subst h14
      first
        | (simp [formsR, shapeS, fitsR, fitsW, patR, kidsS, bu, clsR]; done)
        | (rcases ks with _ | ⟨a, _ | ⟨b, _ | ⟨c, l⟩⟩⟩ <;> simp [formsR, shapeS, fitsR, fitsW, patR, kidsS, bu, clsR] <;> done)
    by_cases h15 : k = 15
    · subst h15
      first
        | (simp [formsR, shapeS, fitsR, fitsW, patR, kidsS, bu, clsR]; done)
        | (rcases ks with _ | ⟨a, _ | ⟨b, _ | ⟨c, l⟩⟩⟩ <;> simp [formsR, shapeS, fitsR, fitsW, patR, kidsS, bu, clsR] <;> done)
    by_cases h16 : k = 16
    · subst h16
      first
        | (simp [formsR, shapeS, fitsR, fitsW, patR, kidsS, bu, clsR]; done)
        | (rcases ks with _ | ⟨a, _ | ⟨b, _ | ⟨c, l⟩⟩⟩ <;> simp [formsR, shapeS, fitsR, fitsW, patR, kidsS, bu, clsR] <;> done)
    by_cases h6 : k = 6
    · subst h6
      first
        | (simp [formsR, shapeS, fitsR, fitsW, patR, kidsS, bu, clsR]; done)
        | (rcases ks with _ | ⟨a, _ | ⟨b, _ | ⟨c, l⟩⟩⟩ <;> simp [formsR, shapeS, fitsR, fitsW, patR, kidsS, bu, clsR] <;> done)
    by_cases h21 : k = 21
    · subst h21
      first
        | (simp [formsR, shapeS, fitsR, fitsW, patR, kidsS, bu, clsR]; done)
        | (rcases ks with _ | ⟨a, _ | ⟨b, _ | ⟨c, l⟩⟩⟩ <;> simp [formsR, shapeS, fitsR, fitsW, patR, kidsS, bu, clsR] <;> done)
    by_cases h22 : k = 22
    · subst h22
      first
        | (simp [formsR, shapeS, fitsR, fitsW, patR, kidsS, bu, clsR]; done)
        | (rcases ks with _ | ⟨a, _ | ⟨b, _ | ⟨c, l⟩⟩⟩ <;> simp [formsR, shapeS, fitsR, fitsW, patR, kidsS, bu, clsR] <;> done)
    by_cases h36 : k = 36
    · subst h36
      first
        | (simp [formsR, shapeS, fitsR, fitsW, patR, kidsS, bu, clsR]; done)
        | (rcases ks with _ | ⟨a, _ | ⟨b, _ | ⟨c, l⟩⟩⟩ <;> simp [formsR, shapeS, fitsR, fitsW, patR, kidsS, bu, clsR] <;> done)
    by_cases h41 : k = 41
    · subst h41
      first
        | (simp [formsR, shapeS, fitsR, fitsW, patR, kidsS, bu, clsR]; done)
        | (rcases ks with _ | ⟨a, _ | ⟨b, _ | ⟨c, l⟩⟩⟩ <;> simp [formsR, shapeS, fitsR, fitsW, patR, kidsS, bu, clsR] <;> done)
    by_cases h39 : k = 39
    · subst h39
      first
        | (simp [formsR, shapeS, fitsR, fitsW, patR, kidsS, bu, clsR]; done)
        | (rcases ks with _ | ⟨a, _ | ⟨b, _ | ⟨c, l⟩⟩⟩ <;> simp [formsR, shapeS, fitsR, fitsW, patR, kidsS, bu, clsR] <;> done)
    by_cases h40 : k = 40
    · subst h40
      first
        | (simp [formsR, shapeS, fitsR, fitsW, patR, kidsS, bu, clsR]; done)
        | (rcases ks with _ | ⟨a, _ | ⟨b, _ | ⟨c, l⟩⟩⟩ <;> simp [formsR, shapeS, fitsR, fitsW, patR, kidsS, bu, clsR] <;> done)
    by_cases h42 : k = 42
    · subst h42
      first
        | (simp [formsR, shapeS, fitsR, fitsW, patR, kidsS, bu, clsR]; done)
        | (rcases ks with _ | ⟨a, _ | ⟨b, _ | ⟨c, l⟩⟩⟩ <;> simp [formsR, shapeS, fitsR, fitsW, patR, kidsS, bu, clsR] <;> done)
    by_cases h44 : k = 44
    · subst h44
      first
        | (simp [formsR, shapeS, fitsR, fitsW, patR, kidsS, bu, clsR]; done)
        | (rcases ks with _ | ⟨a, _ | ⟨b, _ | ⟨c, l⟩⟩⟩ <;> simp [formsR, shapeS, fitsR, fitsW, patR, kidsS, bu, clsR] <;> done)
    by_cases h43 : k = 43
    · subst h43
      first
        | (simp [formsR, shapeS, fitsR, fitsW, patR, kidsS, bu, clsR]; done)
        | (rcases ks with _ | ⟨a, _ | ⟨b, _ | ⟨c, l⟩⟩⟩ <;> simp [formsR, shapeS, fitsR, fitsW, patR, kidsS, bu, clsR] <;> done)
    by_cases h23 : k = 23
    · subst h23
      first
        | (simp [formsR, shapeS, fitsR, fitsW, patR, kidsS, bu, clsR]; done)
        | (rcases ks with _ | ⟨a, _ | ⟨b, _ | ⟨c, l⟩⟩⟩ <;> simp [formsR, shapeS, fitsR, fitsW, patR, kidsS, bu, clsR] <;> done)
    by_cases h38 : k = 38
    · subst h38
      first
        | (simp [formsR, shapeS, fitsR, fitsW, patR, kidsS, bu, clsR]; done)
        | (rcases ks with _ | ⟨a, _ | ⟨b, _ | ⟨c, l⟩⟩⟩ <;> simp [formsR, shapeS, fitsR, fitsW, patR, kidsS, bu, clsR] <;> done)
    by_cases h24 : k = 24
    · subst h24
      first
        | (simp [formsR, shapeS, fitsR, fitsW, patR, kidsS, bu, clsR]; done)
        | (rcases ks with _ | ⟨a, _ | ⟨b, _ | ⟨c, l⟩⟩⟩ <;> simp [formsR, shapeS, fitsR, fitsW, patR, kidsS, bu, clsR] <;> done)
    by_cases h25 : k = 25
    · subst h25
      first
        | (simp [formsR, shapeS, fitsR, fitsW, patR, kidsS, bu, clsR]; done)
        | (rcases ks with _ | ⟨a, _ | ⟨b, _ | ⟨c, l⟩⟩⟩ <;> simp [formsR, shapeS, fitsR, fitsW, patR, kidsS, bu, clsR] <;> done)
    by_cases h37 : k = 37
    · subst h37
      first
        | (simp [formsR, shapeS, fitsR, fitsW, patR, kidsS, bu, clsR]; done)
        | (rcases ks with _ | ⟨a, _ | ⟨b, _ | ⟨c, l⟩⟩⟩ <;> simp [formsR, shapeS, fitsR, fitsW, patR, kidsS, bu, clsR] <;> done)
    by_cases h34 : k = 34
    · subst h34
      first
        | (simp [formsR, shapeS, fitsR, fitsW, patR, kidsS, bu, clsR]; done)
        | (rcases ks with _ | ⟨a, _ | ⟨b, _ | ⟨c, l⟩⟩⟩ <;> simp [formsR, shapeS, fitsR, fitsW, patR, kidsS, bu, clsR] <;> done)
    by_cases h35 : k = 35
    · subst h35
      first
        | (simp [formsR, shapeS, fitsR, fitsW, patR, kidsS, bu, clsR]; done)
        | (rcases ks with _ | ⟨a, _ | ⟨b, _ | ⟨c, l⟩⟩⟩ <;> simp [formsR, shapeS, fitsR, fitsW, patR, kidsS, bu, clsR] <;> done)
    by_cases h45 : k = 45
    · subst h45
      first
        | (simp [formsR, shapeS, fitsR, fitsW, patR, kidsS, bu, clsR]; done)
        | (rcases ks with _ | ⟨a, _ | ⟨b, _ | ⟨c, l⟩⟩⟩ <;> simp [formsR, shapeS, fitsR, fitsW, patR, kidsS, bu, clsR] <;> done)
    by_cases h46 : k = 46
    · subst h46
      first
        | (simp [formsR, shapeS, fitsR, fitsW, patR, kidsS, bu, clsR]; done)
        | (rcases ks with _ | ⟨a, _ | ⟨b, _ | ⟨c, l⟩⟩⟩ <;> simp [formsR, shapeS, fitsR, fitsW, patR, kidsS, bu, clsR] <;> done)
    by_cases h47 : k = 47
    · subst h47
      first
        | (simp [formsR, shapeS, fitsR, fitsW, patR, kidsS, bu, clsR]; done)
        | (rcases ks with _ | ⟨a, _ | ⟨b, _ | ⟨c, l⟩⟩⟩ <;> simp [formsR, shapeS, fitsR, fitsW, patR, kidsS, bu, clsR] <;> done)
    by_cases h54 : k = 54
    · subst h54
      first
        | (simp [formsR, shapeS, fitsR, fitsW, patR, kidsS, bu, clsR]; done)
        | (rcases ks with _ | ⟨a, _ | ⟨b, _ | ⟨c, l⟩⟩⟩ <;> simp [formsR, shapeS, fitsR, fitsW, patR, kidsS, bu, clsR] <;> done)
    have e1 : formsR k = [[]] := by simp [formsR, h2, h20, h1, h3, h4, h5, h7, h14, h15, h16, h6, h21, h22, h36, h41, h39, h40, h42, h44, h43, h23, h38, h24, h25, h37, h34, h35, h45, h46, h47, h54]
    have e2 : shapeS k x.num = [] := by simp [shapeS, h2, h20, h1, h3, h4, h5, h7, h14, h15, h16, h6, h21, h22, h36, h41, h39, h40, h42, h44, h43, h23, h38, h24, h25, h37, h34, h35, h45, h46, h47, h54]
    rw [e1, e2]
    simp [fitsR, fitsW, patR, kidsS]
theorem bool_law : ∀ a b c d e f g h i : Bool, (a && b) = (c && d) → (e && (f && (a && (g && (h && (i && b)))))) = (i && (e && (f && (c && (g && (h && d)))))) := by decide
theorem node_eq (t : List Al.Node) (i : Nat) (x : Al.Node) : nodeR t i x = nodeS t i x := by
  unfold nodeR nodeS
  have key : (countS x && (formsR x.kind).any (fitsR x (x.kids.map (kindAt t)))) = (numS x (params t x.kids) && fitsS x (x.kids.map (kindAt t))) := by
    by_cases h2 : x.kind = 2
    · have e1 : countS x = true := by simp [countS, h2]
      have e2 : numS x (params t x.kids) = decide (x.num = (params t x.kids : Nat)) := by simp [numS, h2]
      rw [e1, e2, Bool.true_and, params_eq, ← fn_eq x _ h2]
      simp [formsR, h2, fitsR]
    · have e1 : countS x = numS x (params t x.kids) := by simp [countS, numS, h2]
      cases hc : countS x with
      | false => rw [← e1, hc]; rfl
      | true => rw [← e1, hc, forms_eq x _ h2 fun e => count_block hc e]
  exact bool_law _ _ _ _ _ _ _ _ _ key
end Go.Proofs.Tryz

namespace Go.Proofs.Tryz
open Go Go.Al
set_option maxRecDepth 20000
def rparentsX (t : List Al.Node) : AV := match fillTo t t.length with
  | some out => if (out.take (out.length - 1)).all (fun v => decide (0 ≤ v)) then .tup [.d (dInts out), B true] else .tup [.d (.con (.slice none 0 0)), B false]
  | none => .tup [.d (.con (.slice none 0 0)), B false]
theorem rparents_ok (t : List Al.Node) (ht : okTree t) (hk : ∀ (i : Nat) x, t[i]? = some x → ∀ k, k ∈ x.kids → 0 ≤ k ∧ k < t.length) : SPure prog 31 [aTree t] (rparentsX t) := by
  have hl := ht.len
  refine .run ttab_ok func31 rfl (by kernel_rfl) (by simp [f31]) rfl ?_
  conv => whnf
  repeat' first
    | (intro _; conv => whnf)
    | (apply And.intro <;> (conv => whnf))
    | (refine AllRow.of rfl ?_; conv => whnf)
    | (apply AllRow.map; intro _ _; conv => whnf)
    | exact ⟨rfl⟩
    | fail
  all_goals try (exact ⟨by simp; omega⟩)
  refine LoopG.of ttab_ok [1, 4, 16, 17] [0, 1] (fun (i : Nat) => ⟨[(1, .ptr 0 0 0), (4, .vs 1 0 t.length), (16, I t.length), (17, I i)], [.box [.d (dNodes t)], .arr 1 ((fill1 t.length i).map rI) 0]⟩) (fun i => i ≤ t.length) (fun i => t.length - i) 0 (by kernel_rfl) (by simp) (by simp) (by simp) ?hs (by omega) ?_
  case hs =>
    first
      | (simp only [keepSt, keepE, Al.look, envOf, lend, ren, renL, renR, posOf, List.map_cons, List.map_nil]; done)
      | (simp only [keepSt, keepE, Al.look, envOf, lend, ren, renL, renR, posOf, List.map_cons, List.map_nil]; simp [I, S, B, U8, dI, dS, dB, dU8, dInts, dStrs, dNodes, ren, renL, renR, posOf, Al.look, envOf, fill1, rI])
      | (simp [keepSt, keepE, lend, I, S, B, U8, dI, dS, dB, dU8, dInts, dStrs, dNodes, ren, renL, renR, posOf, Al.look, envOf, fill1, rI])
  intro i hi
  conv => whnf
  repeat' first
    | (intro _; conv => whnf)
    | (apply And.intro <;> (conv => whnf))
    | (refine AllRow.of rfl ?_; conv => whnf)
    | (apply AllRow.map; intro _ _; conv => whnf)
    | exact ⟨rfl⟩
    | fail
  all_goals try simp only [Int.toNat_natCast] at *
  · exact ⟨by omega⟩
  · exact ⟨by simp [fill1]; omega⟩
  · exact ⟨by simp [rI]⟩
  · exact ⟨by omega⟩
  · refine RoundG.mk' (i + 1) (by simp) ?_ (by omega) (by omega)
    rw [rows_set _ i _ _ _ (by omega), fill1_set (by omega)]
    first
      | (simp only [keepSt, keepE, Al.look, envOf, lend, ren, renL, renR, posOf, List.map_cons, List.map_nil]; done)
      | (simp only [keepSt, keepE, Al.look, envOf, lend, ren, renL, renR, posOf, List.map_cons, List.map_nil]; simp [I, S, B, U8, dI, dS, dB, dU8, dInts, dStrs, dNodes, ren, renL, renR, posOf, Al.look, envOf])
      | (simp [keepSt, keepE, lend, I, S, B, U8, dI, dS, dB, dU8, dInts, dStrs, dNodes, ren, renL, renR, posOf, Al.look, envOf])
  · rename_i hge
    have hit : i = t.length := by omega
    subst hit
    have e0 : fill1 t.length t.length = List.replicate t.length (-1) := by simp [fill1]
    rw [e0]
    refine LoopG.of ttab_ok [4, 25, 26, 27] [0, 1] (fun (a : Nat × List Int) => ⟨[(4, .vs 1 0 t.length), (25, .d (dNodes t)), (26, I t.length), (27, I a.1)], [.box [.d (dNodes t)], .arr 1 (a.2.map rI) 0]⟩)
      (fun a => a.1 ≤ t.length ∧ fillTo t a.1 = some a.2) (fun a => t.length - a.1) (0, List.replicate t.length (-1)) (by kernel_rfl) (by simp) (by simp) (by simp) ?hs2 ⟨by omega, rfl⟩ ?_
    case hs2 =>
      first
        | (simp only [keepSt, keepE, Al.look, envOf, lend, ren, renL, renR, posOf, List.map_cons, List.map_nil]; done)
        | (simp only [keepSt, keepE, Al.look, envOf, lend, ren, renL, renR, posOf, List.map_cons, List.map_nil]; simp [I, S, B, U8, dI, dS, dB, dU8, dInts, dStrs, dNodes, ren, renL, renR, posOf, Al.look, envOf])
        | (simp [keepSt, keepE, lend, I, S, B, U8, dI, dS, dB, dU8, dInts, dStrs, dNodes, ren, renL, renR, posOf, Al.look, envOf])
    rintro ⟨i, out⟩ ⟨hi, ho⟩
    dsimp only at hi ho
    have hol := fillTo_length ho
    conv => whnf
    repeat' first
      | (intro _; conv => whnf)
      | (apply And.intro <;> (conv => whnf))
      | (refine AllRow.of rfl ?_; conv => whnf)
      | (apply AllRow.map; intro _ _; conv => whnf)
      | exact ⟨rfl⟩
      | fail
    all_goals try simp only [Int.toNat_natCast, List.length_map] at *
    · exact ⟨by omega⟩
    · rename_i hlt x hx
      have hkx := hk i x hx
      have hkl := (ht.node x (List.mem_of_getElem? hx)).len
      refine LoopG.of ttab_ok [4, 25, 26, 27, 6, 33, 34, 35] [0, 1, 2] (fun (a : Nat × List Int) => ⟨[(4, .vs 1 0 t.length), (25, .d (dNodes t)), (26, I t.length), (27, I i), (6, I i), (33, .d (dInts x.kids)), (34, I x.kids.length), (35, I a.1)],
        [.box [.d (dNodes t)], .arr 1 (a.2.map rI) 0, .box (cNode x)]⟩)
        (fun a => a.1 ≤ x.kids.length ∧ fkTo i x.kids out a.1 = some a.2) (fun a => x.kids.length - a.1) (0, out) (by kernel_rfl) (by simp) (by simp) (by simp) ?hs3 ⟨by omega, rfl⟩ ?_
      case hs3 =>
        first
          | (simp only [keepSt, keepE, Al.look, envOf, lend, ren, renL, renR, posOf, List.map_cons, List.map_nil]; done)
          | (simp only [keepSt, keepE, Al.look, envOf, lend, ren, renL, renR, posOf, List.map_cons, List.map_nil]; simp [I, S, B, U8, dI, dS, dB, dU8, dInts, dStrs, dNodes, ren, renL, renR, posOf, Al.look, envOf, cNode])
          | (simp [keepSt, keepE, lend, I, S, B, U8, dI, dS, dB, dU8, dInts, dStrs, dNodes, ren, renL, renR, posOf, Al.look, envOf, cNode])
      rintro ⟨j, o⟩ ⟨hj, hf⟩
      dsimp only at hj hf
      have hlo := fkTo_length hf
      conv => whnf
      repeat' first
        | (intro _; conv => whnf)
        | (apply And.intro <;> (conv => whnf))
        | (refine AllRow.of rfl ?_; conv => whnf)
        | (apply AllRow.map; intro _ _; conv => whnf)
        | exact ⟨rfl⟩
        | fail
      all_goals try simp only [Int.toNat_natCast, List.length_map, Nat.zero_add] at *
      · exact ⟨by omega⟩
      · rename_i hlt2 k hkj
        exact ⟨hkx k (List.mem_of_getElem? hkj)⟩
      · rename_i hlt2 k hkj
        have := hkx k (List.mem_of_getElem? hkj)
        exact ⟨by omega⟩
      · rename_i hlt2 k hkj v hge0 hv
        have h1 := fkTo_step hf hkj hv
        rw [if_pos hge0] at h1
        have h2 := fillTo_step ho hx
        rw [fkTo_none h1 (by omega)] at h2
        have h3 := fillTo_none (m := t.length) h2 (by omega)
        exact ⟨by simp [rparentsX, h3, B, dB]⟩
      · rename_i hlt2 k hkj v hv hge0
        exact ⟨hkx k (List.mem_of_getElem? hkj)⟩
      · rename_i hlt2 k hkj v hv hge0
        have := hkx k (List.mem_of_getElem? hkj)
        exact ⟨by omega⟩
      · exact ⟨by simp [rI]⟩
      · exact ⟨by omega⟩
      · rename_i hlt2 k hkj v hge0 w hv hw
        have h1 := fkTo_step hf hkj hv
        rw [if_neg hge0] at h1
        refine RoundG.mk' (j + 1, o.set k.toNat i) (by simp) ?_ (by dsimp only; omega) ⟨by dsimp only; omega, h1⟩
        rw [rows_set _ k.toNat _ _ _ (by omega)]
        first
          | (simp only [keepSt, keepE, Al.look, envOf, lend, ren, renL, renR, posOf, List.map_cons, List.map_nil]; done)
          | (simp only [keepSt, keepE, Al.look, envOf, lend, ren, renL, renR, posOf, List.map_cons, List.map_nil]; simp [I, S, B, U8, dI, dS, dB, dU8, dInts, dStrs, dNodes, ren, renL, renR, posOf, Al.look, envOf, cNode])
          | (simp [keepSt, keepE, lend, I, S, B, U8, dI, dS, dB, dU8, dInts, dStrs, dNodes, ren, renL, renR, posOf, Al.look, envOf, cNode])
      · exact ⟨by omega⟩
      · rename_i hge2
        have hjl : j = x.kids.length := by omega
        subst hjl
        refine RoundG.mk' (i + 1, o) (by simp) ?_ (by dsimp only; omega) ⟨by dsimp only; omega, by dsimp only; rw [fillTo_step ho hx]; exact hf⟩
        first
          | (simp only [keepSt, keepE, Al.look, envOf, lend, ren, renL, renR, posOf, List.map_cons, List.map_nil]; done)
          | (simp only [keepSt, keepE, Al.look, envOf, lend, ren, renL, renR, posOf, List.map_cons, List.map_nil]; simp [I, S, B, U8, dI, dS, dB, dU8, dInts, dStrs, dNodes, ren, renL, renR, posOf, Al.look, envOf])
          | (simp [keepSt, keepE, lend, I, S, B, U8, dI, dS, dB, dU8, dInts, dStrs, dNodes, ren, renL, renR, posOf, Al.look, envOf])
    · rename_i hge2
      have hit : i = t.length := by omega
      subst hit
      have hp : rparentsX t = if (out.take (out.length - 1)).all (fun v => decide (0 ≤ v)) then .tup [.d (dInts out), B true] else .tup [.d (.con (.slice none 0 0)), B false] := by
        unfold rparentsX; rw [ho]
      refine LoopG.of ttab_ok [4, 10] [0, 1] (fun (j : Nat) => ⟨[(4, .vs 1 0 t.length), (10, I j)], [.box [.d (dNodes t)], .arr 1 (out.map rI) 0]⟩)
        (fun j => j ≤ t.length ∧ (out.take j).all (fun v => decide (0 ≤ v)) = true ∧ (j = 0 ∨ j + 1 ≤ t.length)) (fun j => t.length - j) 0 (by kernel_rfl) (by simp) (by simp) (by simp) ?hs4 ⟨by omega, by simp, .inl rfl⟩ ?_
      case hs4 =>
        first
          | (simp only [keepSt, keepE, Al.look, envOf, lend, ren, renL, renR, posOf, List.map_cons, List.map_nil]; done)
          | (simp only [keepSt, keepE, Al.look, envOf, lend, ren, renL, renR, posOf, List.map_cons, List.map_nil]; simp [I, S, B, U8, dI, dS, dB, dU8, dInts, dStrs, dNodes, ren, renL, renR, posOf, Al.look, envOf])
          | (simp [keepSt, keepE, lend, I, S, B, U8, dI, dS, dB, dU8, dInts, dStrs, dNodes, ren, renL, renR, posOf, Al.look, envOf])
      rintro j ⟨hj, hall, hj0⟩
      conv => whnf
      repeat' first
        | (intro _; conv => whnf)
        | (apply And.intro <;> (conv => whnf))
        | (refine AllRow.of rfl ?_; conv => whnf)
        | (apply AllRow.map; intro _ _; conv => whnf)
        | exact ⟨rfl⟩
        | fail
      all_goals try simp only [Int.toNat_natCast, List.length_map, Nat.zero_add] at *
      all_goals try (exact ⟨by omega⟩)
      · rename_i hlt v hneg hv
        have : (out.take (out.length - 1)).all (fun v => decide (0 ≤ v)) = false := by
          rw [List.all_eq_false]
          exact ⟨v, List.mem_of_getElem? (show (out.take (out.length - 1))[j]? = some v by rw [List.getElem?_take_of_lt (by omega)]; exact hv), by simp; omega⟩
        refine ⟨?_⟩
        rw [hp, this]
        rfl
      · rename_i hlt v hneg hv
        refine RoundG.mk' (j + 1) (by simp) ?_ (by omega) ⟨by omega, ?_, by omega⟩
        ·
          first
            | (simp only [keepSt, keepE, Al.look, envOf, lend, ren, renL, renR, posOf, List.map_cons, List.map_nil]; done)
            | (simp only [keepSt, keepE, Al.look, envOf, lend, ren, renL, renR, posOf, List.map_cons, List.map_nil]; simp [I, S, B, U8, dI, dS, dB, dU8, dInts, dStrs, dNodes, ren, renL, renR, posOf, Al.look, envOf])
            | (simp [keepSt, keepE, lend, I, S, B, U8, dI, dS, dB, dU8, dInts, dStrs, dNodes, ren, renL, renR, posOf, Al.look, envOf])
        · rw [List.take_add_one, hv, List.all_append, hall]
          simp; omega
      · rename_i hge3
        have e : out.length - 1 = j := by omega
        refine ⟨?_⟩
        rw [hp, e, hall, List.drop_zero, List.take_of_length_le (by simp; omega)]
        rfl
end Go.Proofs.Tryz

namespace Go.Proofs.Tryz
open Go Go.Al
set_option maxRecDepth 20000
theorem fm_max : ∀ (l : List Int) (a v : Int), l.foldl max (max a v) = max (l.foldl max a) v
  | [], a, v => rfl
  | x :: l, a, v => by
    simp only [List.foldl_cons]
    rw [show max (max a v) x = max (max a x) v by omega]
    exact fm_max l (max a x) v
theorem fm_set : ∀ (l : List Int) (a : Int) (i : Nat) (v w : Int), l[i]? = some w → w ≤ v → (l.set i v).foldl max a = max (l.foldl max a) v
  | [], a, i, v, w, h, _ => by simp at h
  | x :: l, a, 0, v, w, h, hw => by
    simp at h
    subst h
    simp only [List.set_cons_zero, List.foldl_cons, fm_max]
    omega
  | x :: l, a, i + 1, v, w, h, hw => by
    simp only [List.set_cons_succ, List.foldl_cons]
    exact fm_set l (max a x) i v w (by simpa using h) hw
theorem maxS_fm {l : List Int} (hne : l ≠ []) (h0 : ∀ v, v ∈ l → 0 ≤ v) : l.foldl max 0 = maxS l := by
  cases l with
  | nil => exact absurd rfl hne
  | cons x l =>
    have := h0 x (by simp)
    simp only [List.foldl_cons, maxS]
    rw [show max 0 x = x by omega]
theorem depTo_zero (up : List Int) : ∀ (c i : Nat), i + c < up.length → (depTo up c)[i]? = some 0
  | 0, i, h => by rw [depTo, List.getElem?_replicate, if_pos (by omega)]
  | c + 1, i, h => by
    have ih := depTo_zero up c i (by omega)
    simp only [depTo]
    split
    · split
      · rw [List.getElem?_set_ne (by omega)]
        exact ih
      · exact ih
    · exact ih
theorem fm_zero : ∀ (n : Nat), (List.replicate n (0 : Int)).foldl max 0 = 0
  | 0 => rfl
  | n + 1 => by
    rw [List.replicate_succ, List.foldl_cons]
    exact fm_zero n
theorem rdeep_ok (t : List Al.Node) (up : List Int) (hl : up.length ≤ 1954687338211) (hne : 1 ≤ up.length) (hlast : up[up.length - 1]? = some (-1)) (hup : ∀ (i : Nat) u, i + 1 < up.length → up[i]? = some u → 0 ≤ u ∧ u < up.length) :
    SPure prog 32 [aTree t, .d (dInts up)] (I (maxS (depTo up up.length))) := by
  have hd1 : depTo up 1 = List.replicate up.length 0 := by
    simp only [depTo, Nat.sub_zero, hlast]
    rfl
  refine .run ttab_ok func32 rfl (by kernel_rfl) (by simp [f32]) rfl ?_
  conv => whnf
  repeat' first
    | (intro _; conv => whnf)
    | (apply And.intro <;> (conv => whnf))
    | (refine AllRow.of rfl ?_; conv => whnf)
    | (apply AllRow.map; intro _ _; conv => whnf)
    | exact ⟨rfl⟩
    | fail
  all_goals try (exact ⟨by simp; omega⟩)
  refine LoopG.of ttab_ok [1, 5, 6, 7] [0, 1] (fun (c : Nat) => ⟨[(1, .d (dInts up)), (5, I ((depTo up (c + 1)).foldl max 0)), (6, .vs 1 0 up.length), (7, I ((up.length : Int) - 2 - c))], [.box [.d (dNodes t)], .arr 1 ((depTo up (c + 1)).map rI) 0]⟩) (fun c => c + 1 ≤ up.length) (fun c => up.length - 1 - c) 0 (by kernel_rfl) (by simp) (by simp) (by simp) ?hs (by omega) ?_
  case hs =>
    rw [hd1, fm_zero]
    first
      | (simp only [keepSt, keepE, Al.look, envOf, lend, ren, renL, renR, posOf, List.map_cons, List.map_nil]; done)
      | (simp only [keepSt, keepE, Al.look, envOf, lend, ren, renL, renR, posOf, List.map_cons, List.map_nil]; simp [I, S, B, U8, dI, dS, dB, dU8, dInts, dStrs, dNodes, ren, renL, renR, posOf, Al.look, envOf, rI])
      | (simp [keepSt, keepE, lend, I, S, B, U8, dI, dS, dB, dU8, dInts, dStrs, dNodes, ren, renL, renR, posOf, Al.look, envOf, rI])
  intro c hc
  have hlen := depTo_length up (c + 1)
  conv => whnf
  repeat' first
    | (intro _; conv => whnf)
    | (apply And.intro <;> (conv => whnf))
    | (refine AllRow.of rfl ?_; conv => whnf)
    | (apply AllRow.map; intro _ _; conv => whnf)
    | exact ⟨rfl⟩
    | fail
  all_goals try simp only [Int.toNat_natCast, List.length_map, Nat.zero_add] at *
  all_goals try (exact ⟨by omega⟩)
  · rename_i h0 u hu
    have e : ((up.length : Int) - 2 - c).toNat = up.length - 2 - c := by omega
    exact ⟨hup (up.length - 2 - c) u (by omega) (by rw [← e]; exact hu)⟩
  · rename_i h0 u hu
    have e : ((up.length : Int) - 2 - c).toNat = up.length - 2 - c := by omega
    have := hup (up.length - 2 - c) u (by omega) (by rw [← e]; exact hu)
    exact ⟨by omega⟩
  · rename_i h0 u hu v hv
    have := depTo_bound up (c + 1) v (List.mem_of_getElem? hv)
    exact ⟨by omega⟩
  · exact ⟨by simp [rI]⟩
  · exact ⟨by simp; omega⟩
  · rename_i h0 u hu v w hv hw
    have e : ((up.length : Int) - 2 - c).toNat = up.length - 2 - c := by omega
    have hu0 := hup (up.length - 2 - c) u (by omega) (by rw [← e]; exact hu)
    have hv0 := depTo_bound up (c + 1) v (List.mem_of_getElem? hv)
    have hstep : depTo up (c + 1 + 1) = (depTo up (c + 1)).set (up.length - 2 - c) (v + 1) := by
      have := depTo_step (up := up) (c := c + 1) (u := u) (by rw [show up.length - 1 - (c + 1) = up.length - 2 - c by omega, ← e]; exact hu) hu0.1 hv
      rwa [show up.length - 1 - (c + 1) = up.length - 2 - c by omega] at this
    have hw0 : w = 0 := by
      have := depTo_zero up (c + 1) (up.length - 2 - c) (by omega)
      rw [e, this] at hw
      exact (Option.some.inj hw).symm
    have hfm : (depTo up (c + 1 + 1)).foldl max 0 = max ((depTo up (c + 1)).foldl max 0) (v + 1) := by
      rw [hstep]
      exact fm_set _ 0 _ _ w (by rw [← e]; exact hw) (by omega)
    have hlen2 := depTo_length up (c + 1 + 1)
    have hget : (depTo up (c + 1 + 1))[up.length - 2 - c]? = some (v + 1) := by
      rw [hstep, List.getElem?_set_self (by omega)]
    rw [rows_set _ (up.length - 2 - c) _ _ _ e, ← hstep]
    apply AllRow.map
    intro z hz
    rw [e, hget] at hz
    cases hz
    conv => whnf
    repeat' first
      | (intro _; conv => whnf)
      | (apply And.intro <;> (conv => whnf))
      | (refine AllRow.of rfl ?_; conv => whnf)
      | (apply AllRow.map; intro _ _; conv => whnf)
      | exact ⟨rfl⟩
      | fail
    all_goals try simp only [Int.toNat_natCast, List.length_map, Nat.zero_add] at *
    all_goals try (exact ⟨by omega⟩)
    · rename_i hgt z hz
      rw [e, hget] at hz
      cases hz
      refine RoundG.mk' (c + 1) (by simp) ?_ (by omega) (by omega)
      rw [hfm, show max ((depTo up (c + 1)).foldl max 0) (v + 1) = v + 1 by omega, show (up.length : Int) - 2 - c - 1 = (up.length : Int) - 2 - ((c + 1 : Nat) : Int) from by omega]
      first
        | (simp only [keepSt, keepE, Al.look, envOf, lend, ren, renL, renR, posOf, List.map_cons, List.map_nil]; done)
        | (simp only [keepSt, keepE, Al.look, envOf, lend, ren, renL, renR, posOf, List.map_cons, List.map_nil]; simp [I, S, B, U8, dI, dS, dB, dU8, dInts, dStrs, dNodes, ren, renL, renR, posOf, Al.look, envOf])
        | (simp [keepSt, keepE, lend, I, S, B, U8, dI, dS, dB, dU8, dInts, dStrs, dNodes, ren, renL, renR, posOf, Al.look, envOf])
    · rename_i hgt
      refine RoundG.mk' (c + 1) (by simp) ?_ (by omega) (by omega)
      rw [hfm, show max ((depTo up (c + 1)).foldl max 0) (v + 1) = (depTo up (c + 1)).foldl max 0 by omega, show (up.length : Int) - 2 - c - 1 = (up.length : Int) - 2 - ((c + 1 : Nat) : Int) from by omega]
      first
        | (simp only [keepSt, keepE, Al.look, envOf, lend, ren, renL, renR, posOf, List.map_cons, List.map_nil]; done)
        | (simp only [keepSt, keepE, Al.look, envOf, lend, ren, renL, renR, posOf, List.map_cons, List.map_nil]; simp [I, S, B, U8, dI, dS, dB, dU8, dInts, dStrs, dNodes, ren, renL, renR, posOf, Al.look, envOf])
        | (simp [keepSt, keepE, lend, I, S, B, U8, dI, dS, dB, dU8, dInts, dStrs, dNodes, ren, renL, renR, posOf, Al.look, envOf])
  · have hcl : c + 1 = up.length := by omega
    rw [hcl] at *
    refine ⟨?_⟩
    rw [maxS_fm (fun e => by have := depTo_length up up.length; rw [e] at this; simp at this; omega) fun v hv => (depTo_bound up _ v hv).1]
    rfl
end Go.Proofs.Tryz

namespace Go.Proofs.Tryz
open Go Go.Al
set_option maxRecDepth 20000
theorem fk_last {i n : Nat} {ks : List Int} (hi : i < n) (hk : ∀ k, k ∈ ks → 0 ≤ k ∧ k < i) : ∀ {j : Nat} {out o : List Int}, fkTo i ks out j = some o → out[n - 1]? = some (-1) → o[n - 1]? = some (-1)
  | 0, out, o, h, hb => by simp [fkTo] at h; subst h; exact hb
  | j + 1, out, o, h, hb => by
    simp only [fkTo] at h
    obtain ⟨o1, h1, h⟩ := Option.bind_eq_some_iff.1 h
    have ih := fk_last hi hk h1 hb
    split at h
    · rename_i k hkj
      have := hk k (List.mem_of_getElem? hkj)
      split at h
      · cases h
      · cases h
        rw [List.getElem?_set_ne (by omega)]
        exact ih
    · cases h; exact ih
theorem fill_last {t : List Al.Node} (hk : ∀ (i : Nat) x, t[i]? = some x → ∀ k, k ∈ x.kids → 0 ≤ k ∧ k < i) (hn : 1 ≤ t.length) : ∀ {i : Nat} {o : List Int}, fillTo t i = some o → o[t.length - 1]? = some (-1)
  | 0, o, h => by
    simp [fillTo] at h
    subst h
    rw [List.getElem?_replicate, if_pos (by omega)]
  | i + 1, o, h => by
    simp only [fillTo] at h
    obtain ⟨o1, h1, h⟩ := Option.bind_eq_some_iff.1 h
    have ih := fill_last hk hn h1
    split at h
    · rename_i x hx
      exact fk_last (List.getElem?_eq_some_iff.1 hx).1 (hk i x hx) h ih
    · cases h; exact ih
theorem all_contains {l : List Int} (h : ∀ v, v ∈ l → -1 ≤ v) : l.all (fun v => decide (0 ≤ v)) = !l.contains (-1) := by
  cases hc : l.contains (-1) with
  | true =>
    rw [List.all_eq_false.2 ⟨-1, by simpa using hc, by simp⟩]
    rfl
  | false =>
    rw [List.all_eq_true.2 fun v hv => ?_]
    · rfl
    · have h1 := h v hv
      have : v ≠ -1 := by
        rintro rfl
        simp at hc
        exact hc hv
      simp; omega
theorem Right_ok (t : List Al.Node) (ht : okTree t) : SPure prog 25 [aTree t] (B (checkS t)) := by
  have hl := ht.len
  refine .run ttab_ok func25 rfl (by kernel_rfl) (by simp [f25]) rfl ?_
  conv => whnf
  repeat' first
    | (intro _; conv => whnf)
    | (apply And.intro <;> (conv => whnf))
    | (refine AllRow.of rfl ?_; conv => whnf)
    | (apply AllRow.map; intro _ _; conv => whnf)
    | exact ⟨rfl⟩
    | fail
  all_goals try simp only [Int.toNat_natCast, List.length_map, Nat.zero_add] at *
  all_goals try (exact ⟨by omega⟩)
  · rename_i h
    have : decide (1 ≤ t.length) = false := decide_eq_false (by omega)
    refine ⟨?_⟩
    rw [show checkS t = false by unfold checkS; rw [this]; rfl]
    rfl
  · rename_i h h2
    have : decide (t.length ≤ 20000) = false := decide_eq_false (by omega)
    refine ⟨?_⟩
    rw [show checkS t = false by unfold checkS; rw [this]; simp]
    rfl
  · rename_i x hk1 h1 h2 hx
    have hlast : kindAt t (t.length - 1) = x.kind := kindAt_eq hx
    have : decide (kindAt t (t.length - 1) = 1) = false := by rw [hlast]; simpa using hk1
    refine ⟨?_⟩
    rw [show checkS t = false by unfold checkS; rw [this]; simp]
    rfl
  · rename_i x hk1 h1 h2 hx
    have hlast : kindAt t (t.length - 1) = x.kind := kindAt_eq hx
    have e1 : decide (1 ≤ t.length) = true := decide_eq_true (by omega)
    have e2 : decide (t.length ≤ 20000) = true := decide_eq_true (by omega)
    have e3 : decide (kindAt t (t.length - 1) = 1) = true := by rw [hlast]; simpa using hk1
    refine LoopG.of ttab_ok [1, 28, 29] [0] (fun (i : Nat) => ⟨[(1, .ptr 0 0 0), (28, I t.length), (29, I i)], [.box [.d (dNodes t)]]⟩) (fun i => i ≤ t.length ∧ nodesS t i = true) (fun i => t.length - i) 0 (by kernel_rfl) (by simp) (by simp) (by simp) ?hs ⟨by omega, by simp [nodesS]⟩ ?_
    case hs =>
      first
        | (simp only [keepSt, keepE, Al.look, envOf, lend, ren, renL, renR, posOf, List.map_cons, List.map_nil]; done)
        | (simp only [keepSt, keepE, Al.look, envOf, lend, ren, renL, renR, posOf, List.map_cons, List.map_nil]; simp [I, S, B, U8, dI, dS, dB, dU8, dInts, dStrs, dNodes, ren, renL, renR, posOf, Al.look, envOf])
        | (simp [keepSt, keepE, lend, I, S, B, U8, dI, dS, dB, dU8, dInts, dStrs, dNodes, ren, renL, renR, posOf, Al.look, envOf])
    rintro i ⟨hi, hn⟩
    conv => whnf
    repeat' first
      | (intro _; conv => whnf)
      | (apply And.intro <;> (conv => whnf))
      | (refine AllRow.of rfl ?_; conv => whnf)
      | (apply AllRow.map; intro _ _; conv => whnf)
      | exact ⟨rfl⟩
      | fail
    all_goals try simp only [Int.toNat_natCast, List.length_map, Nat.zero_add] at *
    · rename_i hlt
      obtain ⟨y, hy⟩ : ∃ y, t[i]? = some y := ⟨_, List.getElem?_eq_getElem (by omega)⟩
      refine CallG.con call48 rfl (node_eq t i y ▸ rnode_ok t ht i y hy) ?_
      conv => whnf
      repeat' first
        | (intro _; conv => whnf)
        | (apply And.intro <;> (conv => whnf))
        | (refine AllRow.of rfl ?_; conv => whnf)
        | (apply AllRow.map; intro _ _; conv => whnf)
        | exact ⟨rfl⟩
        | fail
      · exact ⟨by omega⟩
      · rename_i hb
        refine RoundG.mk' (i + 1) (by simp) ?_ (by omega) ⟨by omega, by rw [nodesS_step hy, hn, hb]; rfl⟩
        first
          | (simp only [keepSt, keepE, Al.look, envOf, lend, ren, renL, renR, posOf, List.map_cons, List.map_nil]; done)
          | (simp only [keepSt, keepE, Al.look, envOf, lend, ren, renL, renR, posOf, List.map_cons, List.map_nil]; simp [I, S, B, U8, dI, dS, dB, dU8, dInts, dStrs, dNodes, ren, renL, renR, posOf, Al.look, envOf])
          | (simp [keepSt, keepE, lend, I, S, B, U8, dI, dS, dB, dU8, dInts, dStrs, dNodes, ren, renL, renR, posOf, Al.look, envOf])
      · rename_i hb
        have := nodesS_mono (m := t.length) (by rw [nodesS_step hy, hn, hb]; rfl) (show i + 1 ≤ t.length by omega)
        refine ⟨?_⟩
        rw [show checkS t = false by unfold checkS; rw [this]; simp]
        rfl
    · rename_i hge
      have hit : i = t.length := by omega
      subst hit
      have hkin : ∀ (i : Nat) x, t[i]? = some x → ∀ k, k ∈ x.kids → 0 ≤ k ∧ k < i := fun j z hz k hkz =>
        nodeS_kids (nodesS_node hn (List.getElem?_eq_some_iff.1 hz).1 hz) k hkz
      have hkids : ∀ (i : Nat) x, t[i]? = some x → ∀ k, k ∈ x.kids → 0 ≤ k ∧ k < t.length := fun j z hz k hkz => by
        have hj := (List.getElem?_eq_some_iff.1 hz).1
        have := hkin j z hz k hkz
        omega
      have hpar := rparents_ok t ht hkids
      have hspec : checkS t = (match fillTo t t.length with
        | some out => !(out.take (out.length - 1)).contains (-1) && decide (maxS (depTo out out.length) ≤ 400)
        | none => false) := by
        unfold checkS
        rw [e1, e2, e3, hn]
        simp only [Bool.true_and]
        rfl
      unfold rparentsX at hpar
      cases hf : fillTo t t.length with
      | none =>
        rw [hf] at hpar
        refine CallG.eq call31 rfl hpar ?_
        conv => whnf
        repeat' first
          | (intro h; exfalso; revert h; simp; done)
          | (intro _; conv => whnf)
          | (apply And.intro <;> (conv => whnf))
          | (refine AllRow.of rfl ?_; conv => whnf)
          | (apply AllRow.map; intro _ _; conv => whnf)
          | exact ⟨rfl⟩
          | fail
        all_goals refine ⟨?_⟩
        all_goals rw [show checkS t = false by rw [hspec, hf]]
        all_goals rfl
      | some out =>
        rw [hf] at hpar
        dsimp only at hpar
        have hol := fillTo_length hf
        have hob := fillTo_bound hf (Nat.le_refl _)
        have hla := fill_last hkin (by omega) hf
        have hac := all_contains (l := out.take (out.length - 1)) fun v hv => (hob v (List.mem_of_mem_take hv)).1
        rw [hac] at hpar
        cases hc : (out.take (out.length - 1)).contains (-1) with
        | true =>
          rw [hc] at hpar
          simp only [Bool.not_true, Bool.false_eq_true, if_false] at hpar
          refine CallG.eq call31 rfl hpar ?_
          conv => whnf
          repeat' first
            | (intro h; exfalso; revert h; simp; done)
            | (intro _; conv => whnf)
            | (apply And.intro <;> (conv => whnf))
            | (refine AllRow.of rfl ?_; conv => whnf)
            | (apply AllRow.map; intro _ _; conv => whnf)
            | exact ⟨rfl⟩
            | fail
          all_goals refine ⟨?_⟩
          all_goals rw [show checkS t = false by rw [hspec, hf]; dsimp only; rw [hc]; rfl]
          all_goals rfl
        | false =>
          rw [hc] at hpar hac
          simp only [Bool.not_false, if_true] at hpar
          have hdeep := rdeep_ok t out (by omega) (by omega) (by rw [hol]; exact hla) (fun i u hi hu => by
            have h1 := List.all_eq_true.1 hac u (List.mem_of_getElem? (show (out.take (out.length - 1))[i]? = some u by rw [List.getElem?_take_of_lt (by omega)]; exact hu))
            have h2 := hob u (List.mem_of_getElem? hu)
            simp at h1
            omega)
          refine CallG.eq call31 rfl hpar ?_
          conv => whnf
          repeat' first
            | (intro h; exfalso; revert h; simp; done)
            | (intro _; conv => whnf)
            | (apply And.intro <;> (conv => whnf))
            | (refine AllRow.of rfl ?_; conv => whnf)
            | (apply AllRow.map; intro _ _; conv => whnf)
            | (refine CallG.con call32 rfl (hdeep) ?_; conv => whnf)
            | (refine CallQG.con call32 rfl (hdeep) ?_; conv => whnf)
            | exact ⟨rfl⟩
            | fail
          all_goals refine ⟨?_⟩
          all_goals rename_i h4
          · rw [show checkS t = true by rw [hspec, hf]; dsimp only; rw [hc, decide_eq_true h4]; rfl]
            rfl
          · rw [show checkS t = false by rw [hspec, hf]; dsimp only; rw [hc, decide_eq_false h4]; rfl]
            rfl
end Go.Proofs.Tryz

namespace Go.Proofs.Tryz
open Go Go.Al
set_option maxRecDepth 20000
theorem rightGood_ok {t : List Al.Node} (ht : okTree t) {b : Bool} (h : checkS t = b) : SPure prog 25 [aTree t] (B b) := h ▸ Right_ok t ht
theorem Good.above {t : List Al.Node} (h : Good t) : ((upS t).take ((upS t).length - 1)).all (fun v => decide (0 ≤ v)) = true := by
  rw [all_contains fun v hv => (h.up.2 v (List.mem_of_mem_take hv)).1, h.one]
  rfl
theorem rparentsGood_ok {t : List Al.Node} (ht : okTree t) (h : Good t) : SPure prog 31 [aTree t] (.tup [.d (dInts (upS t)), B true]) := by
  have := rparents_ok t ht h.inside
  unfold rparentsX at this
  rw [h.fill] at this
  dsimp only at this
  rwa [if_pos h.above] at this
theorem rdeepGood_ok {t : List Al.Node} (ht : okTree t) (h : Good t) : SPure prog 32 [aTree t, .d (dInts (upS t))] (I (maxS (depTo (upS t) (upS t).length))) := by
  have hl := ht.len
  have h1 := h.len
  obtain ⟨h2, h3⟩ := h.up
  refine rdeep_ok t _ (by omega) (by omega) (by rw [h2]; exact fill_last (fun i x hx => h.kids hx) h1 h.fill) fun i u hi hu => ?_
  have h4 := List.all_eq_true.1 h.above u (List.mem_of_getElem? (show ((upS t).take ((upS t).length - 1))[i]? = some u by rw [List.getElem?_take_of_lt (by omega)]; exact hu))
  have h5 := h3 u (List.mem_of_getElem? hu)
  simp at h4
  omega
theorem rParents_ok (t : List Al.Node) (ht : okTree t) : SPure prog 13 [aTree t] (if checkS t then .tup [.d (dInts (upS t)), I 0] else .tup [.d (.con (.slice none 0 0)), I 3]) := by
  cases hc : checkS t with
  | false =>
    refine .run ttab_ok func13 rfl (by kernel_rfl) (by simp [f13]) rfl ?_
    conv => whnf
    repeat' first
      | (intro h; exfalso; revert h; simp; done)
      | (intro _; conv => whnf)
      | (apply And.intro <;> (conv => whnf))
      | (refine AllRow.of rfl ?_; conv => whnf)
      | (apply AllRow.map; intro _ _; conv => whnf)
      | (refine CallG.con call25 rfl (rightGood_ok ht hc) ?_; conv => whnf)
      | (refine CallQG.con call25 rfl (rightGood_ok ht hc) ?_; conv => whnf)
      | exact ⟨rfl⟩
      | fail
    all_goals exact ⟨rfl⟩
  | true =>
    have hg := good_of hc
    refine .run ttab_ok func13 rfl (by kernel_rfl) (by simp [f13]) rfl ?_
    conv => whnf
    repeat' first
      | (intro h; exfalso; revert h; simp; done)
      | (intro _; conv => whnf)
      | (apply And.intro <;> (conv => whnf))
      | (refine AllRow.of rfl ?_; conv => whnf)
      | (apply AllRow.map; intro _ _; conv => whnf)
      | (refine CallG.con call25 rfl (rightGood_ok ht hc) ?_; conv => whnf)
      | (refine CallQG.con call25 rfl (rightGood_ok ht hc) ?_; conv => whnf)
      | (refine CallG.eq call31 rfl (rparentsGood_ok ht hg) ?_; conv => whnf)
      | exact ⟨rfl⟩
      | fail
    all_goals exact ⟨rfl⟩
theorem rDepth_ok (t : List Al.Node) (ht : okTree t) : SPure prog 15 [aTree t] (if checkS t then .tup [I (maxS (depTo (upS t) (upS t).length)), I 0] else .tup [I 0, I 3]) := by
  cases hc : checkS t with
  | false =>
    refine .run ttab_ok func15 rfl (by kernel_rfl) (by simp [f15]) rfl ?_
    conv => whnf
    repeat' first
      | (intro h; exfalso; revert h; simp; done)
      | (intro _; conv => whnf)
      | (apply And.intro <;> (conv => whnf))
      | (refine AllRow.of rfl ?_; conv => whnf)
      | (apply AllRow.map; intro _ _; conv => whnf)
      | (refine CallG.con call25 rfl (rightGood_ok ht hc) ?_; conv => whnf)
      | (refine CallQG.con call25 rfl (rightGood_ok ht hc) ?_; conv => whnf)
      | exact ⟨rfl⟩
      | fail
    all_goals exact ⟨rfl⟩
  | true =>
    have hg := good_of hc
    refine .run ttab_ok func15 rfl (by kernel_rfl) (by simp [f15]) rfl ?_
    conv => whnf
    repeat' first
      | (intro h; exfalso; revert h; simp; done)
      | (intro _; conv => whnf)
      | (apply And.intro <;> (conv => whnf))
      | (refine AllRow.of rfl ?_; conv => whnf)
      | (apply AllRow.map; intro _ _; conv => whnf)
      | (refine CallG.con call25 rfl (rightGood_ok ht hc) ?_; conv => whnf)
      | (refine CallQG.con call25 rfl (rightGood_ok ht hc) ?_; conv => whnf)
      | (refine CallG.eq call31 rfl (rparentsGood_ok ht hg) ?_; conv => whnf)
      | (refine CallG.con call32 rfl (rdeepGood_ok ht hg) ?_; conv => whnf)
      | (refine CallQG.con call32 rfl (rdeepGood_ok ht hg) ?_; conv => whnf)
      | exact ⟨rfl⟩
      | fail
    all_goals exact ⟨rfl⟩
theorem intsNil_ok : SPure prog 16 [.d (.con (.slice none 0 0)), .d (.con (.slice none 0 0))] (B true) :=
  .reckon (tab := ttab) (ext := ext) (r := []) ttab_ok follows_mixed funs_ok ext_ok 100 10 (by kernel_rfl)
theorem treeUps_ok (t : List Al.Node) (ht : okTree t) : SPure prog 4 [aTree t] (B true) := by
  have hp := Parents_ok t ht
  have hr := rParents_ok t ht
  have hd := Depth_ok t ht
  have he := rDepth_ok t ht
  cases hlong : longS t with
  | true =>
    refine .run ttab_ok func4 rfl (by kernel_rfl) (by simp [f4]) rfl ?_
    conv => whnf
    repeat' first
      | (intro h; exfalso; revert h; simp; done)
      | (intro _; conv => whnf)
      | (apply And.intro <;> (conv => whnf))
      | (refine AllRow.of rfl ?_; conv => whnf)
      | (apply AllRow.map; intro _ _; conv => whnf)
      | (refine CallG.con call6 rfl (hlong ▸ long_ok t ht) ?_; conv => whnf)
      | (refine CallQG.con call6 rfl (hlong ▸ long_ok t ht) ?_; conv => whnf)
      | (refine CallG.con call7 rfl (small_ok) ?_; conv => whnf)
      | (refine CallQG.con call7 rfl (small_ok) ?_; conv => whnf)
      | exact ⟨rfl⟩
      | fail
    all_goals exact ⟨rfl⟩
  | false =>
    cases hc : checkS t with
    | false =>
      rw [hc] at hp hr hd he
      simp only [Bool.false_eq_true, if_false] at hp hr hd he
      refine .run ttab_ok func4 rfl (by kernel_rfl) (by simp [f4]) rfl ?_
      conv => whnf
      repeat' first
        | (intro h; exfalso; revert h; simp; done)
        | (intro _; conv => whnf)
        | (apply And.intro <;> (conv => whnf))
        | (refine AllRow.of rfl ?_; conv => whnf)
        | (apply AllRow.map; intro _ _; conv => whnf)
        | (refine CallG.con call6 rfl (hlong ▸ long_ok t ht) ?_; conv => whnf)
        | (refine CallQG.con call6 rfl (hlong ▸ long_ok t ht) ?_; conv => whnf)
        | (refine CallG.con call7 rfl (small_ok) ?_; conv => whnf)
        | (refine CallQG.con call7 rfl (small_ok) ?_; conv => whnf)
        | (refine CallG.eq call12 rfl (hp) ?_; conv => whnf)
        | (refine CallG.eq call13 rfl (hr) ?_; conv => whnf)
        | (refine CallG.eq call14 rfl (hd) ?_; conv => whnf)
        | (refine CallG.eq call15 rfl (he) ?_; conv => whnf)
        | (refine CallG.con call16 rfl (intsNil_ok) ?_; conv => whnf)
        | (refine CallQG.con call16 rfl (intsNil_ok) ?_; conv => whnf)
        | exact ⟨rfl⟩
        | fail
    | true =>
      have hg := good_of hc
      have hl := ht.len
      have h1 := hg.up.1
      rw [hc] at hp hr hd he
      simp only [if_true] at hp hr hd he
      have hi := ints_ok (upS t) (upS t) (by omega)
      rw [decide_eq_true rfl] at hi
      refine .run ttab_ok func4 rfl (by kernel_rfl) (by simp [f4]) rfl ?_
      conv => whnf
      repeat' first
        | (intro h; exfalso; revert h; simp; done)
        | (intro _; conv => whnf)
        | (apply And.intro <;> (conv => whnf))
        | (refine AllRow.of rfl ?_; conv => whnf)
        | (apply AllRow.map; intro _ _; conv => whnf)
        | (refine CallG.con call6 rfl (hlong ▸ long_ok t ht) ?_; conv => whnf)
        | (refine CallQG.con call6 rfl (hlong ▸ long_ok t ht) ?_; conv => whnf)
        | (refine CallG.con call7 rfl (small_ok) ?_; conv => whnf)
        | (refine CallQG.con call7 rfl (small_ok) ?_; conv => whnf)
        | (refine CallG.eq call12 rfl (hp) ?_; conv => whnf)
        | (refine CallG.eq call13 rfl (hr) ?_; conv => whnf)
        | (refine CallG.eq call14 rfl (hd) ?_; conv => whnf)
        | (refine CallG.eq call15 rfl (he) ?_; conv => whnf)
        | (refine CallG.con call16 rfl (hi) ?_; conv => whnf)
        | (refine CallQG.con call16 rfl (hi) ?_; conv => whnf)
        | exact ⟨rfl⟩
        | fail
end Go.Proofs.Tryz

