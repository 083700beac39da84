/- Contracts of package tree, but for its printers. -/
import Derived.Test.YtobcdpmjaeflmaaDoorAl5
import Derived.Test.YtobcdpmjaeflmaaDoorTF
import Derived.Test.YtobcdpmjaeflmaaDoorShelf
import Derived.Test.YtobcdpmjaeflmaaDoorAl4
set_option linter.unusedVariables false
set_option linter.unusedSimpArgs false
namespace Go.Proofs.Tryd
open Go Go.Al
set_option maxRecDepth 20000

theorem isType_ok (k : Int) : SPure prog 30 [I k] (B (decide (10 ≤ k ∧ k ≤ 16))) := by
  refine .run ttab_ok func30 rfl (by kernel_rfl) (by simp [f30]) rfl ?_
  conv => whnf
  repeat' first
    | (intro _; conv => whnf)
    | (apply And.intro <;> (conv => whnf))
    | (refine AllRow.of rfl ?_; conv => whnf)
    | (apply AllRow.map; intro _ _; conv => whnf)
    | exact ⟨rfl⟩
    | fail
  all_goals (refine ⟨?_⟩; simp_all [B, dB]; try omega)
theorem isStmt_ok (k : Int) : SPure prog 32 [I k] (B (decide (21 ≤ k ∧ k ≤ 27))) := by
  refine .run ttab_ok func32 rfl (by kernel_rfl) (by simp [f32]) rfl ?_
  conv => whnf
  repeat' first
    | (intro _; conv => whnf)
    | (apply And.intro <;> (conv => whnf))
    | (refine AllRow.of rfl ?_; conv => whnf)
    | (apply AllRow.map; intro _ _; conv => whnf)
    | exact ⟨rfl⟩
    | fail
  all_goals (refine ⟨?_⟩; simp_all [B, dB]; try omega)
theorem isPattern_ok (k : Int) : SPure prog 57 [I k] (B (decide (50 ≤ k ∧ k ≤ 54))) := by
  refine .run ttab_ok func57 rfl (by kernel_rfl) (by simp [f57]) rfl ?_
  conv => whnf
  repeat' first
    | (intro _; conv => whnf)
    | (apply And.intro <;> (conv => whnf))
    | (refine AllRow.of rfl ?_; conv => whnf)
    | (apply AllRow.map; intro _ _; conv => whnf)
    | exact ⟨rfl⟩
    | fail
  all_goals (refine ⟨?_⟩; simp_all [B, dB]; try omega)
theorem isExpr_ok (k : Int) : SPure prog 58 [I k] (B (decide (k = 20 ∨ 30 ≤ k ∧ k ≤ 46 ∧ k ≠ 36))) := by
  refine .run ttab_ok func58 rfl (by kernel_rfl) (by simp [f58]) rfl ?_
  conv => whnf
  repeat' first
    | (intro _; conv => whnf)
    | (apply And.intro <;> (conv => whnf))
    | (refine AllRow.of rfl ?_; conv => whnf)
    | (apply AllRow.map; intro _ _; conv => whnf)
    | exact ⟨rfl⟩
    | fail
  all_goals (refine ⟨?_⟩; simp_all [B, dB]; try omega)
def signL : List Bytes := [[124, 124], [38, 38], [61, 61], [33, 61], [60], [62], [60, 61], [62, 61], [43], [45], [42], [47], [37]]
theorem sign_ok (s : Bytes) : SPure prog 61 [S s] (B (signL.contains s)) := by
  refine .run ttab_ok func61 rfl (by kernel_rfl) (by simp [f61]) rfl ?_
  conv => whnf
  repeat' first
    | (intro _; conv => whnf)
    | (apply And.intro <;> (conv => whnf))
    | (refine AllRow.of rfl ?_; conv => whnf)
    | (apply AllRow.map; intro _ _; conv => whnf)
    | exact ⟨rfl⟩
    | fail
  all_goals (refine ⟨?_⟩; simp_all [B, dB, signL])
/-- Is a kind one that a letter says? -/
def isS (c k : Int) : Bool :=
  if c = 105 then decide (k = 2 ∨ k = 3 ∨ k = 4) else if c = 116 then decide (10 ≤ k ∧ k ≤ 16) else if c = 115 then decide (21 ≤ k ∧ k ≤ 27) else if c = 101 then decide (k = 20 ∨ 30 ≤ k ∧ k ≤ 46 ∧ k ≠ 36)
  else if c = 112 then decide (50 ≤ k ∧ k ≤ 54) else if c = 98 then decide (k = 20) else if c = 102 then decide (k = 5) else if c = 118 then decide (k = 6) else if c = 110 then decide (k = 36)
  else if c = 97 then decide (k = 47) else if c = 113 then decide (k = 7) else if c = 111 then decide (k = 20 ∨ k = 45) else false
theorem is_ok (c k : Int) : SPure prog 74 [U8 c, I k] (B (isS c k)) := by
  refine .run ttab_ok func74 rfl (by kernel_rfl) (by simp [f74]) rfl ?_
  conv => whnf
  repeat' first
    | (intro _; conv => whnf)
    | (apply And.intro <;> (conv => whnf))
    | (refine AllRow.of rfl ?_; conv => whnf)
    | (apply AllRow.map; intro _ _; conv => whnf)
    | (refine CallG.con call30 rfl (isType_ok _) ?_; conv => whnf)
    | (refine CallQG.con call30 rfl (isType_ok _) ?_; conv => whnf)
    | (refine CallG.con call32 rfl (isStmt_ok _) ?_; conv => whnf)
    | (refine CallQG.con call32 rfl (isStmt_ok _) ?_; conv => whnf)
    | (refine CallG.con call58 rfl (isExpr_ok _) ?_; conv => whnf)
    | (refine CallQG.con call58 rfl (isExpr_ok _) ?_; conv => whnf)
    | (refine CallG.con call57 rfl (isPattern_ok _) ?_; conv => whnf)
    | (refine CallQG.con call57 rfl (isPattern_ok _) ?_; conv => whnf)
    | exact ⟨rfl⟩
    | fail
  all_goals (refine ⟨?_⟩; simp_all [B, dB, isS]; try omega)
end Go.Proofs.Tryd

namespace Go.Proofs.Tryd
open Go Go.Al
set_option maxRecDepth 20000

def knownS (k : Int) : Bool := decide (1 ≤ k ∧ k ≤ 7 ∨ 10 ≤ k ∧ k ≤ 16 ∨ 20 ≤ k ∧ k ≤ 27 ∨ 30 ≤ k ∧ k ≤ 47 ∨ 50 ≤ k ∧ k ≤ 54)
theorem known_ok (k : Int) : SPure prog 40 [I k] (B (knownS k)) := by
  refine .run ttab_ok func40 rfl (by kernel_rfl) (by simp [f40]) rfl ?_
  conv => whnf
  repeat' first
    | (refine And.intro ?_ ?_ <;> (conv => whnf))
    | (intro _; conv => whnf)
    | (refine CallG.con call30 rfl (isType_ok _) ?_; conv => whnf)
    | (refine CallG.con call32 rfl (isStmt_ok _) ?_; conv => whnf)
    | (refine CallG.con call57 rfl (isPattern_ok _) ?_; conv => whnf)
    | (refine CallG.con call58 rfl (isExpr_ok _) ?_; conv => whnf)
    | exact ⟨rfl⟩
    | fail
  all_goals (refine ⟨?_⟩; simp_all [B, dB, knownS]; try omega)

def kidsS : Bytes → List Int → Bool
  | [], l => l.isEmpty
  | [c], l => match l with
    | k :: l => isS (bu c) k && l.isEmpty
    | [] => false
  | c :: d :: s, l => if bu c = 63 then (match l with
      | k :: l' => isS (bu d) k && kidsS s l'
      | [] => false) || kidsS s l
    else match l with
      | k :: l' => isS (bu c) k && kidsS (d :: s) l'
      | [] => false
def okShape : Bytes → Bool
  | [] => true
  | [c] => decide (bu c ≠ 63)
  | c :: d :: s => if bu c = 63 then okShape s else okShape (d :: s)

theorem kids_ok : ∀ (n : Nat) (s : Bytes) (l : List Int), s.length ≤ n → okShape s = true → SPure prog 64 [S s, .d (dInts l)] (B (kidsS s l)) := by
  intro n
  induction n with
  | zero =>
    intro s l hn hs
    obtain rfl : s = [] := List.length_eq_zero_iff.1 (by omega)
    refine .run ttab_ok func64 rfl (by kernel_rfl) (by simp [f64]) rfl ?_
    conv => whnf
    repeat' first
      | (refine And.intro ?_ ?_ <;> (conv => whnf))
      | (intro h; exfalso; revert h; simp; done)
      | (intro _; conv => whnf)
      | exact ⟨rfl⟩
      | fail
    all_goals (refine ⟨?_⟩; simp_all [B, dB, kidsS])
  | succ n ih =>
    intro s l hn hs
    match s, hn, hs with
    | [], hn, hs => exact ih [] l (by simp) hs
    | [c], hn, hs =>
      refine .run ttab_ok func64 rfl (by kernel_rfl) (by simp [f64]) rfl ?_
      conv => whnf
      repeat' first
        | (refine And.intro ?_ ?_ <;> (conv => whnf))
        | (intro h; exfalso; revert h; simp; done)
        | (intro h; exfalso; revert h; simpa [okShape, bu] using hs)
        | (intro _; conv => whnf)
        | (refine AllRow.map ?_; intro _ _; conv => whnf)
        | (refine CallQG.con call74 rfl (is_ok _ _) ?_; conv => whnf)
        | exact ⟨rfl⟩
        | (refine CallQG.at [S [], .d (dInts (l.drop 1))] ?ha ?_
           case ha => simp only [S, dS, dInts, Int.toNat_natCast, size_ba, extract_ba, List.length_map, List.map_drop]; simp [List.take_of_length_le]; done
           refine CallQG.con call64 rfl (ih [] (l.drop 1) ?_ ?_) ?_
           rotate_left 2
           conv => whnf)
        | fail
      all_goals try (simp at hn hs ⊢; omega)
      all_goals try (simp_all [okShape, bu]; done)
      all_goals try (refine Side.mk ?_)
      all_goals try (simp; done)
      all_goals try (simp_all; omega)
      all_goals try (simp_all [rI]; done)
      all_goals (cases l <;> simp_all [kidsS, B, dB, bu])
    | c :: d :: s, hn, hs =>
      refine .run ttab_ok func64 rfl (by kernel_rfl) (by simp [f64]) rfl ?_
      conv => whnf
      repeat' first
        | (refine And.intro ?_ ?_ <;> (conv => whnf))
        | (intro h; exfalso; revert h; simp; done)
        | (intro _; conv => whnf)
        | (refine AllRow.map ?_; intro _ _; conv => whnf)
        | (refine CallQG.con call74 rfl (is_ok _ _) ?_; conv => whnf)
        | exact ⟨rfl⟩
        | (refine CallQG.at [S s, .d (dInts (l.drop 1))] ?ha ?_
           case ha => simp only [S, dS, dInts, Int.toNat_natCast, size_ba, extract_ba, List.length_map, List.map_drop]; simp [List.take_of_length_le]; done
           refine CallQG.con call64 rfl (ih s (l.drop 1) ?_ ?_) ?_
           rotate_left 2
           conv => whnf)
        | (refine CallQG.at [S s, .d (dInts l)] ?ha ?_
           case ha => simp only [S, dS, dInts, Int.toNat_natCast, size_ba, extract_ba, List.length_map, List.map_drop]; simp [List.take_of_length_le]; done
           refine CallQG.con call64 rfl (ih s l ?_ ?_) ?_
           rotate_left 2
           conv => whnf)
        | (refine CallQG.at [S (d :: s), .d (dInts (l.drop 1))] ?ha ?_
           case ha => simp only [S, dS, dInts, Int.toNat_natCast, size_ba, extract_ba, List.length_map, List.map_drop]; simp [List.take_of_length_le]; done
           refine CallQG.con call64 rfl (ih (d :: s) (l.drop 1) ?_ ?_) ?_
           rotate_left 2
           conv => whnf)
        | fail
      all_goals try (simp at hn hs ⊢; omega)
      all_goals try (simp_all [okShape, bu]; done)
      all_goals try (refine Side.mk ?_)
      all_goals try (simp; done)
      all_goals try (simp_all; omega)
      all_goals try (simp_all [rI]; done)
      all_goals (cases l <;> simp_all [kidsS, B, dB, bu])
end Go.Proofs.Tryd

namespace Go.Proofs.Tryd
open Go Go.Al
set_option maxRecDepth 20000
def shapeS (k num : Int) : Bytes :=
  if k = 1 then [42, 105] else if k = 2 then [42, 113, 116, 98] else if k = 3 then [42, 102] else if k = 4 then [42, 118] else if k = 5 ∨ k = 7 ∨ k = 14 ∨ k = 15 ∨ k = 16 then [116]
  else if k = 6 then [63, 116] else if k = 20 then (if num = 1 then [42, 115, 101] else [42, 115]) else if k = 21 then [63, 116, 101] else if k = 23 ∨ k = 38 then [101, 101] else if k = 24 then [101, 98]
  else if k = 25 ∨ k = 37 then [63, 101] else if k = 34 then [42, 101] else if k = 35 then [42, 110] else if k = 22 ∨ k = 36 ∨ k = 41 ∨ k = 39 ∨ k = 40 ∨ k = 42 ∨ k = 44 ∨ k = 43 then [101]
  else if k = 45 then [101, 98, 63, 111] else if k = 46 then [101, 42, 97] else if k = 47 then [112, 101] else if k = 54 then [63, 112] else []
theorem shape_ok (x : Al.Node) : SPure prog 62 [aNode x] (S (shapeS x.kind x.num)) := by
  refine .run ttab_ok func62 rfl (by kernel_rfl) (by simp [f62]) rfl ?_
  conv => whnf
  repeat' first
    | (intro _; conv => whnf)
    | (apply And.intro <;> (conv => whnf))
    | (refine AllRow.of rfl ?_; conv => whnf)
    | (apply AllRow.map; intro _ _; conv => whnf)
    | exact ⟨rfl⟩
    | fail
  all_goals refine Side.mk ?_
  all_goals first
    | rfl
    | (rename_i h; simp [S, dS, shapeS, ba, h]; done)
    | (rename_i h1 h2; simp [S, dS, shapeS, ba, h1, h2]; done)
    | simp_all [S, dS, shapeS, ba]
def numS (x : Al.Node) (params : Int) : Bool :=
  if x.kind = 2 then decide (x.num = params) else if x.kind = 7 ∨ x.kind = 20 ∨ x.kind = 21 ∨ x.kind = 31 ∨ x.kind = 53 ∨ x.kind = 43 then decide (x.num = 0 ∨ x.num = 1)
  else if x.kind = 30 then decide (0 ≤ x.num) else if x.kind = 52 then decide (-9223372036854775808 < x.num) else decide (x.num = 0)
theorem num_ok (x : Al.Node) (params : Int) (hp : okI params) : SPure prog 42 [aNode x, I params] (B (numS x params)) := by
  refine .run ttab_ok func42 rfl (by kernel_rfl) (by simp [f42]) rfl ?_
  conv => whnf
  repeat' first
    | (intro _; conv => whnf)
    | (apply And.intro <;> (conv => whnf))
    | (refine AllRow.of rfl ?_; conv => whnf)
    | (apply AllRow.map; intro _ _; conv => whnf)
    | exact ⟨rfl⟩
    | fail
  all_goals refine Side.mk ?_
  all_goals first
    | exact hp
    | (simp_all [B, dB, numS]; done)
    | (simp_all [B, dB, numS]; omega)
end Go.Proofs.Tryd

namespace Go.Proofs.Tryd
open Go Go.Al
set_option maxRecDepth 20000

def letterS (c : Int) : Bool := decide (97 ≤ c ∧ c ≤ 122 ∨ 65 ≤ c ∧ c ≤ 90 ∨ c = 95)
def digitS (c : Int) : Bool := decide (48 ≤ c ∧ c ≤ 57)
theorem letter_ok (c : Int) : SPure prog 82 [U8 c] (B (letterS c)) := by
  refine .run ttab_ok func82 rfl (by kernel_rfl) (by simp [f82]) rfl ?_
  conv => whnf
  repeat' first
    | (intro _; conv => whnf)
    | (apply And.intro <;> (conv => whnf))
    | (refine AllRow.of rfl ?_; conv => whnf)
    | (apply AllRow.map; intro _ _; conv => whnf)
    | exact ⟨rfl⟩
    | fail
  all_goals (refine ⟨?_⟩; simp_all [B, dB, letterS]; try omega)
theorem digit_ok (c : Int) : SPure prog 81 [U8 c] (B (digitS c)) := by
  refine .run ttab_ok func81 rfl (by kernel_rfl) (by simp [f81]) rfl ?_
  conv => whnf
  repeat' first
    | (intro _; conv => whnf)
    | (apply And.intro <;> (conv => whnf))
    | (refine AllRow.of rfl ?_; conv => whnf)
    | (apply AllRow.map; intro _ _; conv => whnf)
    | exact ⟨rfl⟩
    | fail
  all_goals (refine ⟨?_⟩; simp_all [B, dB, digitS]; try omega)
def wordL : List Bytes := [[102, 110], [115, 116, 114, 117, 99, 116], [101, 110, 117, 109], [108, 101, 116], [109, 117, 116], [119, 104, 105, 108, 101], [105, 102], [101, 108, 115, 101], [109, 97, 116, 99, 104],
  [114, 101, 116, 117, 114, 110], [98, 114, 101, 97, 107], [99, 111, 110, 116, 105, 110, 117, 101], [116, 114, 117, 101], [102, 97, 108, 115, 101], [105, 54, 52], [98, 111, 111, 108], [66, 111, 120]]
theorem word_ok (s : Bytes) : SPure prog 71 [S s] (B (wordL.contains s)) := by
  refine .run ttab_ok func71 rfl (by kernel_rfl) (by simp [f71]) rfl ?_
  conv => whnf
  repeat' first
    | (intro _; conv => whnf)
    | (apply And.intro <;> (conv => whnf))
    | (refine AllRow.of rfl ?_; conv => whnf)
    | (apply AllRow.map; intro _ _; conv => whnf)
    | exact ⟨rfl⟩
    | fail
  all_goals (refine ⟨?_⟩; simp_all [B, dB, wordL])
def letB (b : UInt8) : Bool := letterS (bu b) || digitS (bu b)
def speltS : Bytes → Bool
  | [] => false
  | b :: s => !(b == 95 && s.isEmpty) && !digitS (bu b) && (b :: s).all letB
theorem byte_at {l : Bytes} {i : Nat} (h : i < l.length) : ∃ c, l[i]? = some c ∧ ((byteAt (ba l) i : Nat) : Int) = bu c := by
  refine ⟨l[i], List.getElem?_eq_getElem h, ?_⟩
  rw [byteAt_ba, List.getD_eq_getElem?_getD, List.getElem?_eq_getElem h]; rfl
theorem spelt_ok (s : Bytes) (hs : s.length ≤ 140737488355328) : SPure prog 70 [S s] (B (speltS s)) := by
  match s, hs with
  | [], hs =>
    refine .run ttab_ok func70 rfl (by kernel_rfl) (by simp [f70]) rfl ?_
    conv => whnf
    repeat' first
      | (intro _; conv => whnf)
      | (apply And.intro <;> (conv => whnf))
      | (refine AllRow.of rfl ?_; conv => whnf)
      | (apply AllRow.map; intro _ _; conv => whnf)
      | exact ⟨rfl⟩
      | fail
    all_goals (refine ⟨?_⟩; simp_all [B, dB, speltS])
  | b :: s, hs =>
    refine .run ttab_ok func70 rfl (by kernel_rfl) (by simp [f70]) rfl ?_
    conv => whnf
    repeat' first
      | (intro _; conv => whnf)
      | (apply And.intro <;> (conv => whnf))
      | (refine AllRow.of rfl ?_; conv => whnf)
      | (apply AllRow.map; intro _ _; conv => whnf)
      | (refine CallG.con call81 rfl (digit_ok _) ?_; conv => whnf)
      | (refine CallQG.con call81 rfl (digit_ok _) ?_; conv => whnf)
      | exact ⟨rfl⟩
      | fail
    · exact ⟨by simp_all⟩
    · rename_i h; exact ⟨by simp at h; simp [B, dB, speltS, h]⟩
    · exact ⟨by simp⟩
    · rename_i h1 h2 h; exact ⟨by simp [byteAt_ba] at h; simp [B, dB, speltS, bu, h]⟩
    · rename_i h1 h2 h3
      have h2' : (b == 95 && s.isEmpty) = false := by
        simp at h2
        simp only [Bool.and_eq_false_iff, beq_eq_false_iff_ne, List.isEmpty_eq_false_iff]
        by_cases hb : b = 95
        · exact .inr (h2 hb)
        · exact .inl hb
      have h3' : digitS (bu b) = false := by simpa [byteAt_ba, bu] using h3
      have hlen : (b :: s).length ≤ 140737488355328 := hs
      generalize hl : b :: s = l at *
      have spec : speltS l = l.all letB := by rw [← hl]; simp [speltS, h2', h3']
      refine LoopG.of ttab_ok [0, 16, 17] [] (fun (i : Nat) => ⟨[(0, S l), (16, I l.length), (17, I i)], []⟩) (fun i => i ≤ l.length ∧ (l.take i).all letB = true) (fun i => l.length - i) 0 (by kernel_rfl) .nil (by simp) (by simp) ?hs ⟨by omega, by simp⟩ ?_
      case hs =>
        first
          | (simp only [keepSt, keepE, Al.look, envOf, lend, ren, renL, renR, posOf, List.map_cons, List.map_nil]; done)
          | (simp only [keepSt, keepE, Al.look, envOf, lend, ren, renL, renR, posOf, List.map_cons, List.map_nil]; simp [I, S, B, U8, dI, dS, dB, dU8, dInts, dStrs, dNodes, ren, renL, renR, posOf, Al.look, envOf])
          | (simp [keepSt, keepE, lend, I, S, B, U8, dI, dS, dB, dU8, dInts, dStrs, dNodes, ren, renL, renR, posOf, Al.look, envOf])
      intro i hJ
      obtain ⟨hi, ht⟩ := hJ
      conv => whnf
      repeat' first
        | (intro _; conv => whnf)
        | (apply And.intro <;> (conv => whnf))
        | (refine AllRow.of rfl ?_; conv => whnf)
        | (apply AllRow.map; intro _ _; conv => whnf)
        | (refine CallG.con call81 rfl (digit_ok _) ?_; conv => whnf)
        | (refine CallQG.con call81 rfl (digit_ok _) ?_; conv => whnf)
        | (refine CallG.con call82 rfl (letter_ok _) ?_; conv => whnf)
        | (refine CallQG.con call82 rfl (letter_ok _) ?_; conv => whnf)
        | exact ⟨rfl⟩
        | fail
      all_goals try simp only [Int.toNat_natCast] at *
      · exact ⟨by simp; omega⟩
      · exact ⟨by omega⟩
      · rename_i hlt h
        obtain ⟨c, hc, e⟩ := byte_at (l := l) (i := i) (by omega)
        refine RoundG.mk' (i + 1) (by simp) ?_ (by omega) ⟨by omega, ?_⟩
        ·
          first
            | (simp only [keepSt, keepE, Al.look, envOf, lend, ren, renL, renR, posOf, List.map_cons, List.map_nil]; done)
            | (simp only [keepSt, keepE, Al.look, envOf, lend, ren, renL, renR, posOf, List.map_cons, List.map_nil]; simp [I, S, B, U8, dI, dS, dB, dU8, dInts, dStrs, dNodes, ren, renL, renR, posOf, Al.look, envOf])
            | (simp [keepSt, keepE, lend, I, S, B, U8, dI, dS, dB, dU8, dInts, dStrs, dNodes, ren, renL, renR, posOf, Al.look, envOf])
        · rw [e] at h
          rw [List.take_add_one, hc, List.all_append, ht]
          simp [letB, h]
      · exact ⟨by simp; omega⟩
      · exact ⟨by omega⟩
      · rename_i hlt h' h
        obtain ⟨c, hc, e⟩ := byte_at (l := l) (i := i) (by omega)
        refine RoundG.mk' (i + 1) (by simp) ?_ (by omega) ⟨by omega, ?_⟩
        ·
          first
            | (simp only [keepSt, keepE, Al.look, envOf, lend, ren, renL, renR, posOf, List.map_cons, List.map_nil]; done)
            | (simp only [keepSt, keepE, Al.look, envOf, lend, ren, renL, renR, posOf, List.map_cons, List.map_nil]; simp [I, S, B, U8, dI, dS, dB, dU8, dInts, dStrs, dNodes, ren, renL, renR, posOf, Al.look, envOf])
            | (simp [keepSt, keepE, lend, I, S, B, U8, dI, dS, dB, dU8, dInts, dStrs, dNodes, ren, renL, renR, posOf, Al.look, envOf])
        · rw [e] at h
          rw [List.take_add_one, hc, List.all_append, ht]
          simp [letB, h]
      · rename_i hlt h' h
        obtain ⟨c, hc, e⟩ := byte_at (l := l) (i := i) (by omega)
        rw [e] at h h'
        have : l.all letB = false := by
          rw [List.all_eq_false]
          exact ⟨c, List.mem_of_getElem? hc, by simp [letB, h, h']⟩
        exact ⟨by simp [B, dB, spec, this]⟩
      · rename_i hge
        rw [List.take_of_length_le (by omega)] at ht
        exact ⟨by simp [B, dB, spec, ht]⟩
def nameB (s : Bytes) : Bool := speltS s && decide (s.length ≤ 64) && !wordL.contains s
theorem name_ok (s : Bytes) (hs : s.length ≤ 140737488355328) : SPure prog 59 [S s] (B (nameB s)) := by
  refine .run ttab_ok func59 rfl (by kernel_rfl) (by simp [f59]) rfl ?_
  conv => whnf
  repeat' first
    | (intro _; conv => whnf)
    | (apply And.intro <;> (conv => whnf))
    | (refine AllRow.of rfl ?_; conv => whnf)
    | (apply AllRow.map; intro _ _; conv => whnf)
    | (refine CallG.con call70 rfl (spelt_ok _ hs) ?_; conv => whnf)
    | (refine CallQG.con call70 rfl (spelt_ok _ hs) ?_; conv => whnf)
    | (refine CallG.con call71 rfl (word_ok _) ?_; conv => whnf)
    | (refine CallQG.con call71 rfl (word_ok _) ?_; conv => whnf)
    | exact ⟨rfl⟩
    | fail
  all_goals (refine ⟨?_⟩; simp_all [B, dB, nameB]; try first | omega | (intro _; omega))
end Go.Proofs.Tryd

namespace Go.Proofs.Tryd
open Go Go.Al
set_option maxRecDepth 20000
theorem cut_ok (s sep : Bytes) (hs : s.length < 4294967281) : SPure prog 60 [S s, S sep] (.tup [S (Lib.cut s sep).1, S (Lib.cut s sep).2.1, B (Lib.cut s sep).2.2]) :=
  cut_pure (fun s sep m w h1 h2 => strings_Cut s sep m w h1 h2) s sep hs
def pickS (s : Bytes) : Bool := decide (s.length ≤ 130) && ((Lib.cut s [58, 58]).2.2 && nameB (Lib.cut s [58, 58]).1 && nameB (Lib.cut s [58, 58]).2.1)
def nameS (x : Al.Node) : Bool :=
  if x.kind = 2 ∨ x.kind = 3 ∨ x.kind = 4 ∨ x.kind = 5 ∨ x.kind = 6 ∨ x.kind = 7 ∨ x.kind = 13 ∨ x.kind = 21 ∨ x.kind = 33 ∨ x.kind = 34 ∨ x.kind = 35 ∨ x.kind = 36 ∨ x.kind = 41 ∨ x.kind = 51 then nameB x.name
  else if x.kind = 37 ∨ x.kind = 54 then pickS x.name else if x.kind = 38 then signL.contains x.name else decide (x.name = [])
theorem cut_len (s sep : Bytes) : (Lib.cut s sep).1.length ≤ s.length ∧ (Lib.cut s sep).2.1.length ≤ s.length := by
  unfold Lib.cut
  split
  · exact ⟨by simp; omega, by simp⟩
  · exact ⟨Nat.le_refl _, by simp⟩
theorem nodeName_ok (x : Al.Node) (hx : okNode x) : SPure prog 41 [aNode x] (B (nameS x)) := by
  have hl := hx.name
  refine .run ttab_ok func41 rfl (by kernel_rfl) (by simp [f41]) rfl ?_
  conv => whnf
  repeat' first
    | (intro _; conv => whnf)
    | (apply And.intro <;> (conv => whnf))
    | (refine AllRow.of rfl ?_; conv => whnf)
    | (apply AllRow.map; intro _ _; conv => whnf)
    | (refine CallG.con call59 rfl (name_ok _ (by first | omega | exact Nat.le_trans (cut_len _ _).1 (by omega) | exact Nat.le_trans (cut_len _ _).2 (by omega))) ?_; conv => whnf)
    | (refine CallQG.con call59 rfl (name_ok _ (by first | omega | exact Nat.le_trans (cut_len _ _).1 (by omega) | exact Nat.le_trans (cut_len _ _).2 (by omega))) ?_; conv => whnf)
    | (refine CallG.eq call60 rfl (cut_ok _ [58, 58] (by simp at *; omega)) ?_; conv => whnf)
    | (refine CallG.con call61 rfl (sign_ok _) ?_; conv => whnf)
    | (refine CallQG.con call61 rfl (sign_ok _) ?_; conv => whnf)
    | exact ⟨rfl⟩
    | fail
  all_goals try (refine ⟨?_⟩; simp_all [B, dB, nameS]; done)
  all_goals (refine ⟨?_⟩; simp_all [B, dB, nameS, pickS]; try first | omega | (intros; omega))
end Go.Proofs.Tryd

namespace Go.Proofs.Tryd
open Go Go.Al
set_option maxRecDepth 20000
theorem all1_ok (c k : Int) : SCall prog 76 [I k, .ptr 0 0 0] [.box [.d (dU8 c)]] (fun x r => x = B (!isS c k) ∧ r = [.box [.d (dU8 c)]]) := by
  refine .run ttab_ok func76 rfl (by kernel_rfl) (by simp [f76]) rfl ?_
  conv => whnf
  repeat' first
    | (intro _; conv => whnf)
    | (apply And.intro <;> (conv => whnf))
    | (refine AllRow.of rfl ?_; conv => whnf)
    | (apply AllRow.map; intro _ _; conv => whnf)
    | (refine CallG.con call74 rfl (is_ok _ _) ?_; conv => whnf)
    | (refine CallQG.con call74 rfl (is_ok _ _) ?_; conv => whnf)
    | exact ⟨rfl⟩
    | fail
  all_goals first
    | rfl
    | (rename_i h; rw [h]; rfl)
theorem indexFunc_ok (c : Int) (l : List Int) (hl : l.length ≤ 140737488355328) : SCall prog 85 [.d (dInts l), .fn 76 [.ptr 0 0 0]] [.box [.d (dU8 c)]]
    (fun x r => (∃ n : Int, x = I n ∧ (n < 0 ↔ l.all (isS c) = true)) ∧ r = [.box [.d (dU8 c)]]) := by
  refine .run ttab_ok func85 rfl (by kernel_rfl) (by simp [f85]) rfl ?_
  conv => whnf
  repeat' first
    | (intro _; conv => whnf)
    | (apply And.intro <;> (conv => whnf))
    | (refine AllRow.of rfl ?_; conv => whnf)
    | (apply AllRow.map; intro _ _; conv => whnf)
    | exact ⟨rfl⟩
    | fail
  refine LoopG.of ttab_ok [0, 1, 7, 8] [0] (fun (i : Nat) => ⟨[(0, .d (dInts l)), (1, .fn 76 [.ptr 0 0 0]), (7, I l.length), (8, I i)], [.box [.d (dU8 c)]]⟩) (fun i => i ≤ l.length ∧ (l.take i).all (isS c) = true) (fun i => l.length - i) 0 (by kernel_rfl) (by simp) (by simp [posOf]) (by simp) ?hs ⟨by omega, by simp⟩ ?_
  case hs =>
    first
      | (simp only [keepSt, keepE, Al.look, envOf, lend, ren, renL, renR, posOf, List.map_cons, List.map_nil]; done)
      | (simp only [keepSt, keepE, Al.look, envOf, lend, ren, renL, renR, posOf, List.map_cons, List.map_nil]; simp [I, S, B, U8, dI, dS, dB, dU8, dInts, dStrs, dNodes, ren, renL, renR, posOf, Al.look, envOf])
      | (simp [keepSt, keepE, lend, I, S, B, U8, dI, dS, dB, dU8, dInts, dStrs, dNodes, ren, renL, renR, posOf, Al.look, envOf])
  intro i hJ
  obtain ⟨hi, ht⟩ := hJ
  conv => whnf
  repeat' first
    | (intro _; conv => whnf)
    | (apply And.intro <;> (conv => whnf))
    | (refine AllRow.of rfl ?_; conv => whnf)
    | (apply AllRow.map; intro _ _; conv => whnf)
    | exact ⟨rfl⟩
    | fail
  all_goals try simp only [Int.toNat_natCast] at *
  · exact ⟨by simp; omega⟩
  · rename_i hlt k hk
    refine CallG.lend call76 [0] (by simp) (by simp) (by simp [isArr]) (all1_ok c k) ?_
    rintro x r ⟨rfl, rfl⟩
    refine ⟨by simp, ?_⟩
    conv => whnf
    repeat' first
      | (intro _; conv => whnf)
      | (apply And.intro <;> (conv => whnf))
      | (refine AllRow.of rfl ?_; conv => whnf)
      | (apply AllRow.map; intro _ _; conv => whnf)
      | exact ⟨rfl⟩
      | fail
    · rename_i h
      refine ⟨i, rfl, ?_⟩
      have : l.all (isS c) = false := by
        rw [List.all_eq_false]
        exact ⟨k, List.mem_of_getElem? hk, by simpa using h⟩
      rw [this]
      simp
    · rfl
    · exact ⟨by omega⟩
    · rename_i h
      refine RoundG.mk' (i + 1) (by simp) ?_ (by omega) ⟨by omega, ?_⟩
      ·
        first
          | (simp only [keepSt, keepE, Al.look, envOf, lend, ren, renL, renR, posOf, List.map_cons, List.map_nil]; done)
          | (simp only [keepSt, keepE, Al.look, envOf, lend, ren, renL, renR, posOf, List.map_cons, List.map_nil]; simp [I, S, B, U8, dI, dS, dB, dU8, dInts, dStrs, dNodes, ren, renL, renR, posOf, Al.look, envOf])
          | (simp [keepSt, keepE, lend, I, S, B, U8, dI, dS, dB, dU8, dInts, dStrs, dNodes, ren, renL, renR, posOf, Al.look, envOf])
      · rw [List.take_add_one, hk, List.all_append, ht]
        simpa using h
  · refine ⟨-1, rfl, ?_⟩
    rw [List.take_of_length_le (by omega)] at ht
    simp [ht]
  · rfl
theorem containsFunc_ok (c : Int) (l : List Int) (hl : l.length ≤ 140737488355328) : SCall prog 75 [.d (dInts l), .fn 76 [.ptr 0 0 0]] [.box [.d (dU8 c)]]
    (fun x r => x = B (!l.all (isS c)) ∧ r = [.box [.d (dU8 c)]]) := by
  refine .run ttab_ok func75 rfl (by kernel_rfl) (by simp [f75]) rfl ?_
  conv => whnf
  repeat' first
    | (intro _; conv => whnf)
    | (apply And.intro <;> (conv => whnf))
    | (refine AllRow.of rfl ?_; conv => whnf)
    | (apply AllRow.map; intro _ _; conv => whnf)
    | exact ⟨rfl⟩
    | fail
  refine CallG.lend call85 [0] (by simp) (by simp) (by simp [isArr]) (indexFunc_ok c l hl) ?_
  rintro x r ⟨⟨n, rfl, hn⟩, rfl⟩
  refine ⟨by simp, ?_⟩
  conv => whnf
  repeat' first
    | (intro _; conv => whnf)
    | (apply And.intro <;> (conv => whnf))
    | (refine AllRow.of rfl ?_; conv => whnf)
    | (apply AllRow.map; intro _ _; conv => whnf)
    | exact ⟨rfl⟩
    | fail
  · rename_i h
    have : ¬ l.all (isS c) = true := fun e => absurd (hn.2 e) (by omega)
    have : l.all (isS c) = false := by simpa using this
    rw [this]; rfl
  · rfl
  · rename_i h
    have : l.all (isS c) = true := hn.1 (by omega)
    rw [this]; rfl
  · rfl
theorem all_ok (c : Int) (l : List Int) (hl : l.length ≤ 140737488355328) : SPure prog 65 [U8 c, .d (dInts l)] (B (l.all (isS c))) := by
  refine .run ttab_ok func65 rfl (by kernel_rfl) (by simp [f65]) rfl ?_
  conv => whnf
  repeat' first
    | (intro _; conv => whnf)
    | (apply And.intro <;> (conv => whnf))
    | (refine AllRow.of rfl ?_; conv => whnf)
    | (apply AllRow.map; intro _ _; conv => whnf)
    | exact ⟨rfl⟩
    | fail
  refine CallG.lend call75 [0] (by simp) (by simp) (by simp [isArr]) (containsFunc_ok c l hl) ?_
  rintro x r ⟨rfl, rfl⟩
  refine ⟨by simp, ?_⟩
  conv => whnf
  repeat' first
    | (intro _; conv => whnf)
    | (apply And.intro <;> (conv => whnf))
    | (refine AllRow.of rfl ?_; conv => whnf)
    | (apply AllRow.map; intro _ _; conv => whnf)
    | exact ⟨rfl⟩
    | fail
  all_goals (refine ⟨?_⟩; simp_all [B, dB])
end Go.Proofs.Tryd

namespace Go.Proofs.Tryd
open Go Go.Al
set_option maxRecDepth 20000
theorem index_ok (s : Bytes) (c : Int) (i : Int) (h : Lib.indexByte s c.toNat.toUInt8 = i) : SPure prog 63 [S s, U8 c] (I i) := by
  have := indexByte_pure (P := prog) (f := 63) (fun s c w => strings_IndexByte s c w) (ba s) c
  rw [show (ba s).data.toList = s from rfl, h] at this
  exact this
theorem fits_none (x : Al.Node) (ks : List Int) (s : Bytes) (hsh : shapeS x.kind x.num = s) (h1 : Lib.indexByte s 42 = -1) (ho : okShape s = true) : SPure prog 43 [aNode x, .d (dInts ks)] (B (kidsS s ks)) := by
  have hshape := shape_ok x
  rw [hsh] at hshape
  refine .run ttab_ok func43 rfl (by kernel_rfl) (by simp [f43]) rfl ?_
  conv => whnf
  repeat' first
    | (intro h; exfalso; revert h; simp; done)
    | (intro _; conv => whnf)
    | (apply And.intro <;> (conv => whnf))
    | (refine AllRow.of rfl ?_; conv => whnf)
    | (apply AllRow.map; intro _ _; conv => whnf)
    | (refine CallG.con call62 rfl (hshape) ?_; conv => whnf)
    | (refine CallQG.con call62 rfl (hshape) ?_; conv => whnf)
    | (refine CallG.con call63 rfl (index_ok _ 42 (-1) h1) ?_; conv => whnf)
    | (refine CallQG.con call63 rfl (index_ok _ 42 (-1) h1) ?_; conv => whnf)
    | (refine CallG.con call64 rfl (kids_ok _ _ _ (Nat.le_refl _) ho) ?_; conv => whnf)
    | (refine CallQG.con call64 rfl (kids_ok _ _ _ (Nat.le_refl _) ho) ?_; conv => whnf)
    | exact ⟨rfl⟩
    | fail
  all_goals (refine ⟨?_⟩; simp_all [B, dB])
theorem fits_star (x : Al.Node) (ks : List Int) (c : UInt8) (r : Bytes) (hsh : shapeS x.kind x.num = 42 :: c :: r) (ho : okShape r = true) (hr : r.length ≤ 3) (hk : ks.length ≤ 140737488355328) :
    SPure prog 43 [aNode x, .d (dInts ks)] (B (decide (r.length ≤ ks.length) && ((ks.take (ks.length - r.length)).all (isS (bu c)) && kidsS r (ks.drop (ks.length - r.length))))) := by
  have hshape := shape_ok x
  rw [hsh] at hshape
  refine .run ttab_ok func43 rfl (by kernel_rfl) (by simp [f43]) rfl ?_
  conv => whnf
  repeat' first
    | (intro h; exfalso; revert h; simp; done)
    | (intro _; conv => whnf)
    | (apply And.intro <;> (conv => whnf))
    | (refine AllRow.of rfl ?_; conv => whnf)
    | (apply AllRow.map; intro _ _; conv => whnf)
    | (refine CallG.con call62 rfl (hshape) ?_; conv => whnf)
    | (refine CallQG.con call62 rfl (hshape) ?_; conv => whnf)
    | (refine CallG.con call63 rfl (index_ok _ 42 0 (by simp [Lib.indexByte])) ?_; conv => whnf)
    | (refine CallQG.con call63 rfl (index_ok _ 42 0 (by simp [Lib.indexByte])) ?_; conv => whnf)
    | exact ⟨rfl⟩
    | fail
  all_goals try (refine Side.mk ?_; simp [rI]; done)
  all_goals try (refine Side.mk ?_; simp; omega)
  all_goals try (rename_i h; refine Side.mk ?_; simp at h; simp [B, dB]; intro h'; omega)
  rename_i h0 h
  have hle : r.length ≤ ks.length := by simp at h; omega
  have e1 : (((List.map rI ks).length : Int) - (((ba (42 :: c :: r)).size : Int) - 0 - 2)).toNat = ks.length - r.length := by simp; omega
  have e2 : ((ba (42 :: c :: r)).size : Int).toNat = r.length + 2 := by simp; omega
  refine CallQG.at [S [], .d (dInts [])] ?ha ?_
  case ha =>
    simp [S, dS, dInts]
    rfl
  refine CallQG.con call64 rfl (kids_ok 0 [] [] (by simp) rfl) ?_
  conv => whnf
  repeat' first
    | (intro h; exfalso; revert h; simp; done)
    | (intro _; conv => whnf)
    | (apply And.intro <;> (conv => whnf))
    | (refine AllRow.of rfl ?_; conv => whnf)
    | (apply AllRow.map; intro _ _; conv => whnf)
    | exact ⟨rfl⟩
    | fail
  all_goals try (refine Side.mk ?_; simp [rI]; done)
  all_goals try (refine Side.mk ?_; simp; omega)
  refine CallQG.at [U8 (bu c), .d (dInts (ks.take (ks.length - r.length)))] ?ha2 ?_
  case ha2 =>
    rw [e1]
    simp [U8, dU8, dInts, bu, List.map_take]
  refine CallQG.con call65 rfl (all_ok _ _ (by simp; omega)) ?_
  conv => whnf
  repeat' first
    | (intro h; exfalso; revert h; simp; done)
    | (intro _; conv => whnf)
    | (apply And.intro <;> (conv => whnf))
    | (refine AllRow.of rfl ?_; conv => whnf)
    | (apply AllRow.map; intro _ _; conv => whnf)
    | exact ⟨rfl⟩
    | fail
  all_goals try (refine Side.mk ?_; simp [rI]; done)
  all_goals try (refine Side.mk ?_; simp; omega)
  · rename_i h1 h2
    refine CallQG.at [S r, .d (dInts (ks.drop (ks.length - r.length)))] ?ha3 ?_
    case ha3 =>
      rw [e1, e2]
      simp [S, dS, dInts, List.map_drop, List.take_of_length_le]
    refine CallQG.con call64 rfl (kids_ok _ _ _ (Nat.le_refl _) ho) ?_
    conv => whnf
    repeat' first
      | (intro h; exfalso; revert h; simp; done)
      | (intro _; conv => whnf)
      | (apply And.intro <;> (conv => whnf))
      | (refine AllRow.of rfl ?_; conv => whnf)
      | (apply AllRow.map; intro _ _; conv => whnf)
      | exact ⟨rfl⟩
      | fail
    all_goals (refine ⟨?_⟩; simp_all [B, dB])
  · rename_i h1 h2
    exact ⟨by simp [B, dB, h2]⟩
  · rename_i h1
    simp [kidsS] at h1
theorem fits_mid (x : Al.Node) (ks : List Int) (hsh : shapeS x.kind x.num = [101, 42, 97]) (hk : ks.length ≤ 140737488355328) :
    SPure prog 43 [aNode x, .d (dInts ks)] (B (decide (1 ≤ ks.length) && (kidsS [101] (ks.take 1) && (ks.drop 1).all (isS 97)))) := by
  have hshape := shape_ok x
  rw [hsh] at hshape
  refine .run ttab_ok func43 rfl (by kernel_rfl) (by simp [f43]) rfl ?_
  conv => whnf
  repeat' first
    | (intro h; exfalso; revert h; simp; done)
    | (intro _; conv => whnf)
    | (apply And.intro <;> (conv => whnf))
    | (refine AllRow.of rfl ?_; conv => whnf)
    | (apply AllRow.map; intro _ _; conv => whnf)
    | (refine CallG.con call62 rfl (hshape) ?_; conv => whnf)
    | (refine CallQG.con call62 rfl (hshape) ?_; conv => whnf)
    | (refine CallG.con call63 rfl (index_ok _ 42 1 (by decide)) ?_; conv => whnf)
    | (refine CallQG.con call63 rfl (index_ok _ 42 1 (by decide)) ?_; conv => whnf)
    | exact ⟨rfl⟩
    | fail
  all_goals try (refine Side.mk ?_; simp [rI]; done)
  all_goals try (refine Side.mk ?_; simp; omega)
  all_goals try (rename_i h; refine Side.mk ?_; simp at h; simp [B, dB]; intro h'; omega)
  all_goals try (rename_i h; refine Side.mk ?_; simp at h ⊢; omega)
  rename_i h0 h
  have hle : 1 ≤ ks.length := by simp at h; omega
  have e1 : (((List.map rI ks).length : Int) - (((ba [101, 42, 97]).size : Int) - 1 - 2)).toNat = ks.length := by simp
  refine CallQG.at [S [101], .d (dInts (ks.take 1))] ?ha ?_
  case ha => simp [S, dS, dInts, List.map_take]
  refine CallQG.con call64 rfl (kids_ok 1 [101] _ (by simp) (by decide)) ?_
  conv => whnf
  repeat' first
    | (intro h; exfalso; revert h; simp; done)
    | (intro _; conv => whnf)
    | (apply And.intro <;> (conv => whnf))
    | (refine AllRow.of rfl ?_; conv => whnf)
    | (apply AllRow.map; intro _ _; conv => whnf)
    | exact ⟨rfl⟩
    | fail
  all_goals try (refine Side.mk ?_; simp [rI]; done)
  all_goals try (refine Side.mk ?_; simp; omega)
  · refine CallQG.at [U8 97, .d (dInts (ks.drop 1))] ?ha2 ?_
    case ha2 =>
      rw [e1]
      simp [U8, dU8, dInts, List.map_drop, List.take_of_length_le]
    refine CallQG.con call65 rfl (all_ok _ _ (by simp; omega)) ?_
    conv => whnf
    repeat' first
      | (intro h; exfalso; revert h; simp; done)
      | (intro _; conv => whnf)
      | (apply And.intro <;> (conv => whnf))
      | (refine AllRow.of rfl ?_; conv => whnf)
      | (apply AllRow.map; intro _ _; conv => whnf)
      | exact ⟨rfl⟩
      | fail
    all_goals try (refine Side.mk ?_; simp [rI]; done)
    all_goals try (refine Side.mk ?_; simp; omega)
    · rename_i h1 h2
      refine CallQG.at [S [], .d (dInts [])] ?ha3 ?_
      case ha3 =>
        rw [e1]
        simp [S, dS, dInts]
        rfl
      refine CallQG.con call64 rfl (kids_ok 0 [] [] (by simp) rfl) ?_
      conv => whnf
      repeat' first
        | (intro h; exfalso; revert h; simp; done)
        | (intro _; conv => whnf)
        | (apply And.intro <;> (conv => whnf))
        | (refine AllRow.of rfl ?_; conv => whnf)
        | (apply AllRow.map; intro _ _; conv => whnf)
        | exact ⟨rfl⟩
        | fail
      all_goals (refine ⟨?_⟩; simp_all [B, dB, kidsS])
    · rename_i h1 h2
      exact ⟨by simp only [h2, Bool.and_false]; rfl⟩
  · rename_i h1
    exact ⟨by simp [B, dB, h1]⟩
def fitsW (s : Bytes) (ks : List Int) : Bool := match s with
  | [101, 42, 97] => decide (1 ≤ ks.length) && (kidsS [101] (ks.take 1) && (ks.drop 1).all (isS 97))
  | 42 :: c :: r => decide (r.length ≤ ks.length) && ((ks.take (ks.length - r.length)).all (isS (bu c)) && kidsS r (ks.drop (ks.length - r.length)))
  | s => kidsS s ks
def fitsS (x : Al.Node) (ks : List Int) : Bool := fitsW (shapeS x.kind x.num) ks
def shapeKind (s : Bytes) : Bool := match s with
  | [101, 42, 97] => true
  | 42 :: _ :: r => okShape r && decide (r.length ≤ 3)
  | s => decide (Lib.indexByte s 42 = -1) && okShape s
theorem shape_ite {c : Prop} [Decidable c] {s t : Bytes} (hs : shapeKind s = true) (ht : shapeKind t = true) : shapeKind (if c then s else t) = true := by split <;> assumption
theorem shape_kind (k num : Int) : shapeKind (shapeS k num) = true := by
  unfold shapeS
  repeat' first
    | rfl
    | apply shape_ite
theorem fits_ok (x : Al.Node) (ks : List Int) (hk : ks.length ≤ 140737488355328) : SPure prog 43 [aNode x, .d (dInts ks)] (B (fitsS x ks)) := by
  have h := shape_kind x.kind x.num
  unfold fitsS fitsW
  generalize hs : shapeS x.kind x.num = s at h
  unfold shapeKind at h
  split at h
  · exact fits_mid x ks hs hk
  · rename_i c r
    simp only [Bool.and_eq_true, decide_eq_true_eq] at h
    exact fits_star x ks c r hs h.1 h.2 hk
  · rename_i h1 h2
    simp only [Bool.and_eq_true, decide_eq_true_eq] at h
    exact fits_none x ks s hs h.1 h.2
end Go.Proofs.Tryd

namespace Go.Proofs.Tryd
open Go Go.Al
set_option maxRecDepth 20000
def kindAt (t : List Al.Node) (k : Int) : Int := match t[k.toNat]? with
  | some x => x.kind
  | none => 0
def params (t : List Al.Node) (ks : List Int) : Nat := (ks.filter fun k => decide (kindAt t k = 7)).length
def nodeS (t : List Al.Node) (i : Nat) (x : Al.Node) : Bool :=
  x.kids.all (fun k => decide (0 ≤ k ∧ k < i)) && (knownS x.kind && (nameS x && (numS x (params t x.kids) && (decide (0 ≤ x.frm) && (decide (x.frm ≤ x.to) && fitsS x (x.kids.map (kindAt t)))))))
def cNode (x : Al.Node) : List AV := [.d (dI x.kind), .d (dS x.name), .d (dI x.num), .d (dInts x.kids), .d (dI x.frm), .d (dI x.to)]
theorem nodeS_bad {t : List Al.Node} {i j : Nat} {x : Al.Node} {k : Int} (hk : x.kids[j]? = some k) (h : ¬ (0 ≤ k ∧ k < i)) : nodeS t i x = false := by
  have : x.kids.all (fun k => decide (0 ≤ k ∧ k < i)) = false := List.all_eq_false.2 ⟨k, List.mem_of_getElem? hk, by simpa using h⟩
  unfold nodeS
  rw [this, Bool.false_and]
theorem nodeS_good {t : List Al.Node} {i : Nat} {x : Al.Node} (h : ∀ k, k ∈ x.kids → 0 ≤ k ∧ k < i) :
    nodeS t i x = (knownS x.kind && (nameS x && (numS x (params t x.kids) && (decide (0 ≤ x.frm) && (decide (x.frm ≤ x.to) && fitsS x (x.kids.map (kindAt t))))))) := by
  have : x.kids.all (fun k => decide (0 ≤ k ∧ k < i)) = true := List.all_eq_true.2 fun k hk => by simpa using h k hk
  unfold nodeS
  rw [this, Bool.true_and]
theorem kindAt_eq {t : List Al.Node} {k : Int} {y : Al.Node} (h : t[k.toNat]? = some y) : kindAt t k = y.kind := by simp [kindAt, h]
theorem params_add {t : List Al.Node} {l : List Int} {j : Nat} {k : Int} (h : l[j]? = some k) : params t (l.take (j + 1)) = params t (l.take j) + (if kindAt t k = 7 then 1 else 0) := by
  unfold params
  rw [List.take_add_one, h, List.filter_append, List.length_append]
  congr 1
  simp only [Option.toList_some, List.filter_cons, List.filter_nil]
  split <;> simp_all
theorem params_le (t : List Al.Node) (l : List Int) : params t l ≤ l.length := List.length_filter_le _ _
theorem rows_add {t : List Al.Node} {l : List Int} {j : Nat} {k : Int} {y : Al.Node} (hj : j ≤ l.length) (h : l[j]? = some k) (hy : t[k.toNat]? = some y) :
    List.take j (List.drop 0 (List.map rI (List.map (kindAt t) (l.take j)))) ++ [[D.con (.int .i64 y.kind)]] = List.map rI (List.map (kindAt t) (l.take (j + 1))) := by
  rw [List.drop_zero, List.take_of_length_le (by simp; omega), List.take_add_one, h]
  simp [kindAt_eq hy, rI, dI]
theorem node_ok (t : List Al.Node) (ht : okTree t) (i : Nat) (x : Al.Node) (hx : t[i]? = some x) : SPure prog 26 [aTree t, I i] (B (nodeS t i x)) := by
  have hi : i < t.length := (List.getElem?_eq_some_iff.1 hx).1
  have ox := ht.node x (List.mem_of_getElem? hx)
  have hl := ht.len
  have hk := ox.len
  refine .run ttab_ok func26 rfl (by kernel_rfl) (by simp [f26]) rfl ?_
  conv => whnf
  repeat' first
    | (intro _; conv => whnf)
    | (apply And.intro <;> (conv => whnf))
    | (refine AllRow.of rfl ?_; conv => whnf)
    | (apply AllRow.map; intro _ _; conv => whnf)
    | exact ⟨rfl⟩
    | fail
  all_goals try simp only [Int.toNat_natCast] at *
  · exact ⟨by simp; omega⟩
  rename_i x' hx'
  rw [hx] at hx'
  cases hx'
  refine LoopG.weak (Weak.openNil 6 1 rfl) ?_
  refine LoopG.of ttab_ok [1, 2, 5, 6, 7, 16, 17, 18] [0, 1, 2] (fun (j : Nat) => ⟨[(1, I i), (2, .ptr 0 0 0), (5, .ptr 1 0 0), (6, .vs 2 0 j), (7, I (params t (x.kids.take j))), (16, .d (dInts x.kids)), (17, I x.kids.length), (18, I j)],
      [.box [.d (dNodes t)], .box (cNode x), .arr 1 (((x.kids.take j).map (kindAt t)).map rI) 0]⟩) (fun j => j ≤ x.kids.length ∧ ∀ k, k ∈ x.kids.take j → 0 ≤ k ∧ k < i) (fun j => x.kids.length - j) 0 (by kernel_rfl) (by simp) (by simp) (by simp) ?hs ⟨by omega, by simp⟩ ?_
  case hs =>
    first
      | (simp only [keepSt, keepE, Al.look, envOf, lend, ren, renL, renR, posOf, List.map_cons, List.map_nil]; done)
      | (simp only [keepSt, keepE, Al.look, envOf, lend, ren, renL, renR, posOf, List.map_cons, List.map_nil]; simp [I, S, B, U8, dI, dS, dB, dU8, dInts, dStrs, dNodes, ren, renL, renR, posOf, Al.look, envOf, cNode, params])
      | (simp [keepSt, keepE, lend, I, S, B, U8, dI, dS, dB, dU8, dInts, dStrs, dNodes, ren, renL, renR, posOf, Al.look, envOf, cNode, params])
  intro j hJ
  obtain ⟨hj, hin⟩ := hJ
  conv => whnf
  repeat' first
    | (intro _; conv => whnf)
    | (apply And.intro <;> (conv => whnf))
    | (refine AllRow.of rfl ?_; conv => whnf)
    | (apply AllRow.map; intro _ _; conv => whnf)
    | exact ⟨rfl⟩
    | fail
  all_goals try simp only [Int.toNat_natCast] at *
  · exact ⟨by simp; omega⟩
  · rename_i hlt k hkj h
    exact ⟨by rw [nodeS_bad hkj (by omega)]; rfl⟩
  · rename_i hlt k hkj h h'
    exact ⟨by rw [nodeS_bad hkj (by omega)]; rfl⟩
  · rename_i hlt k hkj h h'
    exact ⟨by simp; omega⟩
  · exact ⟨by simp [oneD, Value.oneCell']⟩
  · rename_i hlt k hkj h h' y hy
    exact ⟨by simp [pinsOf]; omega⟩
  · rename_i hlt k hkj h h' y hy
    exact ⟨by simp; omega⟩
  · have := params_le t (x.kids.take j)
    have : (x.kids.take j).length ≤ x.kids.length := by simp; omega
    exact ⟨by omega⟩
  · exact ⟨by omega⟩
  · rename_i hlt k hkj h h' y hy y' hy' h7
    have hyy : y = y' := by rw [hy] at hy'; exact Option.some.inj hy'
    have hp := params_add (t := t) hkj
    rw [if_pos (by rw [kindAt_eq hy']; exact h7)] at hp
    refine RoundG.mk' (j + 1) (by simp) ?_ (by omega) ⟨by omega, ?_⟩
    · simp only [rows_add hj hkj hy, hp]
      first
        | (simp only [keepSt, keepE, Al.look, envOf, lend, ren, renL, renR, posOf, List.map_cons, List.map_nil]; done)
        | (simp only [keepSt, keepE, Al.look, envOf, lend, ren, renL, renR, posOf, List.map_cons, List.map_nil]; simp [I, S, B, U8, dI, dS, dB, dU8, dInts, dStrs, dNodes, ren, renL, renR, posOf, Al.look, envOf, cNode])
        | (simp [keepSt, keepE, lend, I, S, B, U8, dI, dS, dB, dU8, dInts, dStrs, dNodes, ren, renL, renR, posOf, Al.look, envOf, cNode])
    · rw [List.take_add_one, hkj]
      intro q hq
      rcases List.mem_append.1 hq with hq | hq
      · exact hin q hq
      · simp at hq; subst hq; omega
  · exact ⟨by omega⟩
  · rename_i hlt k hkj h h' y hy y' hy' h7
    have hp := params_add (t := t) hkj
    rw [if_neg (by rw [kindAt_eq hy']; exact h7)] at hp
    refine RoundG.mk' (j + 1) (by simp) ?_ (by omega) ⟨by omega, ?_⟩
    · simp only [rows_add hj hkj hy, hp]
      first
        | (simp only [keepSt, keepE, Al.look, envOf, lend, ren, renL, renR, posOf, List.map_cons, List.map_nil]; done)
        | (simp only [keepSt, keepE, Al.look, envOf, lend, ren, renL, renR, posOf, List.map_cons, List.map_nil]; simp [I, S, B, U8, dI, dS, dB, dU8, dInts, dStrs, dNodes, ren, renL, renR, posOf, Al.look, envOf, cNode])
        | (simp [keepSt, keepE, lend, I, S, B, U8, dI, dS, dB, dU8, dInts, dStrs, dNodes, ren, renL, renR, posOf, Al.look, envOf, cNode])
    · rw [List.take_add_one, hkj]
      intro q hq
      rcases List.mem_append.1 hq with hq | hq
      · exact hin q hq
      · simp at hq; subst hq; omega
  · rename_i hge
    have hjl : j = x.kids.length := by omega
    subst hjl
    rw [List.take_length] at *
    rw [nodeS_good hin]
    have hpb := params_le t x.kids
    repeat' first
      | (intro _; conv => whnf)
      | (apply And.intro <;> (conv => whnf))
      | (refine AllRow.of rfl ?_; conv => whnf)
      | (apply AllRow.map; intro _ _; conv => whnf)
      | (refine CallG.con call40 rfl (known_ok _) ?_; conv => whnf)
      | (refine CallQG.con call40 rfl (known_ok _) ?_; conv => whnf)
      | (refine CallG.con call41 rfl (nodeName_ok _ ox) ?_; conv => whnf)
      | (refine CallQG.con call41 rfl (nodeName_ok _ ox) ?_; conv => whnf)
      | (refine CallG.con call42 rfl (num_ok _ _ ⟨by omega, by omega⟩) ?_; conv => whnf)
      | (refine CallQG.con call42 rfl (num_ok _ _ ⟨by omega, by omega⟩) ?_; conv => whnf)
      | exact ⟨rfl⟩
      | fail
    all_goals try (refine ⟨?_⟩; simp_all [B, dB]; done)
    · refine CallG.con (args' := [aNode x, .d (dInts (x.kids.map (kindAt t)))]) (R' := [.box [.d (dNodes t)], .box (cNode x), .arr 1 ((x.kids.map (kindAt t)).map rI) (max 0 (0 + x.kids.length))]) call43 ?hfz (fits_ok x _ (by simp; omega)) ?_
      case hfz =>
        simp [fzL, fz, asD, aNode, dInts, dI, dS, dNodes, cNode]
        exact List.take_of_length_le (by simp)
      conv => whnf
      repeat' first
        | (intro _; conv => whnf)
        | (apply And.intro <;> (conv => whnf))
        | (refine AllRow.of rfl ?_; conv => whnf)
        | (apply AllRow.map; intro _ _; conv => whnf)
        | exact ⟨rfl⟩
        | fail
      all_goals (refine ⟨?_⟩; simp_all [B, dB])
    all_goals (rename_i h; refine ⟨?_⟩; simp [B, dB]; intros; omega)
end Go.Proofs.Tryd

namespace Go.Proofs.Tryd
open Go Go.Al
set_option maxRecDepth 20000
def idxS (l : List Int) (v : Int) : Int := if v ∈ l then (l.idxOf v : Int) else -1
theorem idx_found {l : List Int} {v : Int} {i : Nat} (h : l[i]? = some v) (hn : v ∉ l.take i) : idxS l v = i := by
  have hi := (List.getElem?_eq_some_iff.1 h).1
  have hm : v ∈ l := List.mem_of_getElem? h
  have e : l = l.take i ++ v :: l.drop (i + 1) := by
    have := List.take_append_drop i l
    rw [List.drop_eq_getElem_cons hi, (List.getElem?_eq_some_iff.1 h).2] at this
    exact this.symm
  unfold idxS
  rw [if_pos hm]
  congr 1
  rw [e, List.idxOf_append, if_neg hn, List.idxOf_cons_self]
  simp; omega
theorem indexL_ok (l : List Int) (v : Int) (hl : l.length ≤ 140737488355328) : SPure prog 56 [.d (dInts l), I v] (I (idxS l v)) := by
  refine .run ttab_ok func56 rfl (by kernel_rfl) (by simp [f56]) rfl ?_
  conv => whnf
  repeat' first
    | (intro _; conv => whnf)
    | (apply And.intro <;> (conv => whnf))
    | (refine AllRow.of rfl ?_; conv => whnf)
    | (apply AllRow.map; intro _ _; conv => whnf)
    | exact ⟨rfl⟩
    | fail
  refine LoopG.of ttab_ok [0, 1, 7, 8] [] (fun (i : Nat) => ⟨[(0, .d (dInts l)), (1, I v), (7, I l.length), (8, I i)], []⟩) (fun i => i ≤ l.length ∧ v ∉ l.take i) (fun i => l.length - i) 0 (by kernel_rfl) .nil (by simp) (by simp) ?hs ⟨by omega, by simp⟩ ?_
  case hs =>
    first
      | (simp only [keepSt, keepE, Al.look, envOf, lend, ren, renL, renR, posOf, List.map_cons, List.map_nil]; done)
      | (simp only [keepSt, keepE, Al.look, envOf, lend, ren, renL, renR, posOf, List.map_cons, List.map_nil]; simp [I, S, B, U8, dI, dS, dB, dU8, dInts, dStrs, dNodes, ren, renL, renR, posOf, Al.look, envOf])
      | (simp [keepSt, keepE, lend, I, S, B, U8, dI, dS, dB, dU8, dInts, dStrs, dNodes, ren, renL, renR, posOf, Al.look, envOf])
  intro i hJ
  obtain ⟨hi, ht⟩ := hJ
  conv => whnf
  repeat' first
    | (intro _; conv => whnf)
    | (apply And.intro <;> (conv => whnf))
    | (refine AllRow.of rfl ?_; conv => whnf)
    | (apply AllRow.map; intro _ _; conv => whnf)
    | exact ⟨rfl⟩
    | fail
  all_goals try simp only [Int.toNat_natCast] at *
  · exact ⟨by simp; omega⟩
  · rename_i hlt x hx h
    subst h
    exact ⟨by rw [idx_found hx ht]; rfl⟩
  · exact ⟨by omega⟩
  · rename_i hlt x hx h
    refine RoundG.mk' (i + 1) (by simp) ?_ (by omega) ⟨by omega, ?_⟩
    ·
      first
        | (simp only [keepSt, keepE, Al.look, envOf, lend, ren, renL, renR, posOf, List.map_cons, List.map_nil]; done)
        | (simp only [keepSt, keepE, Al.look, envOf, lend, ren, renL, renR, posOf, List.map_cons, List.map_nil]; simp [I, S, B, U8, dI, dS, dB, dU8, dInts, dStrs, dNodes, ren, renL, renR, posOf, Al.look, envOf])
        | (simp [keepSt, keepE, lend, I, S, B, U8, dI, dS, dB, dU8, dInts, dStrs, dNodes, ren, renL, renR, posOf, Al.look, envOf])
    · rw [List.take_add_one, hx]
      simp [ht]
      exact h
  · rename_i hge
    rw [List.take_of_length_le (by omega)] at ht
    exact ⟨by simp [idxS, ht, I, dI]⟩
theorem contains_ok (l : List Int) (v : Int) (hl : l.length ≤ 140737488355328) : SPure prog 39 [.d (dInts l), I v] (B (l.contains v)) := by
  refine .run ttab_ok func39 rfl (by kernel_rfl) (by simp [f39]) rfl ?_
  conv => whnf
  repeat' first
    | (intro _; conv => whnf)
    | (apply And.intro <;> (conv => whnf))
    | (refine AllRow.of rfl ?_; conv => whnf)
    | (apply AllRow.map; intro _ _; conv => whnf)
    | (refine CallG.con call56 rfl (indexL_ok _ _ hl) ?_; conv => whnf)
    | (refine CallQG.con call56 rfl (indexL_ok _ _ hl) ?_; conv => whnf)
    | exact ⟨rfl⟩
    | fail
  all_goals (refine ⟨?_⟩)
  all_goals (rename_i h; unfold idxS at h; split at h <;> simp_all [B, dB])
def maxS : List Int → Int
  | [] => 0
  | x :: l => l.foldl max x
theorem maxS_step {l : List Int} {i : Nat} {x : Int} (h1 : 1 ≤ i) (h : l[i]? = some x) : maxS (l.take (i + 1)) = max (maxS (l.take i)) x := by
  rw [List.take_add_one, h]
  match l, i, h1 with
  | y :: l, i + 1, _ => simp [maxS, List.foldl_append]
  | [], _, _ => simp at h
theorem max_ok (l : List Int) (hl : l.length ≤ 140737488355328) (hne : l ≠ []) : SPure prog 24 [.d (dInts l)] (I (maxS l)) := by
  refine .run ttab_ok func24 rfl (by kernel_rfl) (by simp [f24]) rfl ?_
  conv => whnf
  repeat' first
    | (intro h; exfalso; revert h; simp; done)
    | (intro _; conv => whnf)
    | (apply And.intro <;> (conv => whnf))
    | (refine AllRow.of rfl ?_; conv => whnf)
    | (apply AllRow.map; intro _ _; conv => whnf)
    | exact ⟨rfl⟩
    | fail
  · rename_i h
    simp at h
    have : 0 < l.length := List.length_pos_iff.2 hne
    omega
  · have : 0 < l.length := List.length_pos_iff.2 hne
    exact ⟨by simp; omega⟩
  · rename_i h x hx
    have hx : l[0]? = some x := hx
    have h0 : 0 < l.length := List.length_pos_iff.2 hne
    refine LoopG.of ttab_ok [0, 3, 4] [] (fun (i : Nat) => ⟨[(0, .d (dInts l)), (3, I (maxS (l.take i))), (4, I i)], []⟩) (fun i => 1 ≤ i ∧ i ≤ l.length) (fun i => l.length - i) 1 (by kernel_rfl) .nil (by simp) (by simp) ?hs ⟨by omega, by omega⟩ ?_
    case hs =>
      have e : maxS (l.take 1) = x := by
        rw [List.take_add_one, hx]; simp [maxS]
      rw [e]
      first
        | (simp only [keepSt, keepE, Al.look, envOf, lend, ren, renL, renR, posOf, List.map_cons, List.map_nil]; done)
        | (simp only [keepSt, keepE, Al.look, envOf, lend, ren, renL, renR, posOf, List.map_cons, List.map_nil]; simp [I, S, B, U8, dI, dS, dB, dU8, dInts, dStrs, dNodes, ren, renL, renR, posOf, Al.look, envOf])
        | (simp [keepSt, keepE, lend, I, S, B, U8, dI, dS, dB, dU8, dInts, dStrs, dNodes, ren, renL, renR, posOf, Al.look, envOf])
    intro i hJ
    obtain ⟨h1, hi⟩ := hJ
    conv => whnf
    repeat' first
      | (intro _; conv => whnf)
      | (apply And.intro <;> (conv => whnf))
      | (refine AllRow.of rfl ?_; conv => whnf)
      | (apply AllRow.map; intro _ _; conv => whnf)
      | exact ⟨rfl⟩
      | fail
    all_goals try simp only [Int.toNat_natCast, List.length_map] at *
    · exact ⟨by simp; omega⟩
    · exact ⟨by omega⟩
    · rename_i y hy hlt
      refine RoundG.mk' (i + 1) (by simp) ?_ (by omega) ⟨by omega, by omega⟩
      simp only [maxS_step h1 hy]
      first
        | (simp only [keepSt, keepE, Al.look, envOf, lend, ren, renL, renR, posOf, List.map_cons, List.map_nil]; done)
        | (simp only [keepSt, keepE, Al.look, envOf, lend, ren, renL, renR, posOf, List.map_cons, List.map_nil]; simp [I, S, B, U8, dI, dS, dB, dU8, dInts, dStrs, dNodes, ren, renL, renR, posOf, Al.look, envOf])
        | (simp [keepSt, keepE, lend, I, S, B, U8, dI, dS, dB, dU8, dInts, dStrs, dNodes, ren, renL, renR, posOf, Al.look, envOf])
    · rename_i hge
      rw [List.take_of_length_le (by omega)]
      exact ⟨rfl⟩
end Go.Proofs.Tryd

namespace Go.Proofs.Tryd
open Go Go.Al
set_option maxRecDepth 20000
/-- The first m of a node's kids are marked as its own; nothing: one was marked. -/
def fkTo (i : Nat) (ks : List Int) (out : List Int) : Nat → Option (List Int)
  | 0 => some out
  | j + 1 => (fkTo i ks out j).bind fun o => match ks[j]? with
    | some k => if 0 ≤ o.getD k.toNat 0 then none else some (o.set k.toNat i)
    | none => some o
def fillTo (t : List Al.Node) : Nat → Option (List Int)
  | 0 => some (List.replicate t.length (-1))
  | i + 1 => (fillTo t i).bind fun o => match t[i]? with
    | some x => fkTo i x.kids o x.kids.length
    | none => some o
def fill1 (n i : Nat) : List Int := List.replicate i (-1) ++ List.replicate (n - i) 0
theorem fill1_set {n i : Nat} (h : i < n) : (fill1 n i).set i (-1) = fill1 n (i + 1) := by
  unfold fill1
  rw [List.set_append_right _ _ (by simp), List.replicate_succ', List.append_assoc]
  congr 1
  obtain ⟨m, hm⟩ : ∃ m, n - i = m + 1 := ⟨n - i - 1, by omega⟩
  rw [hm, show n - (i + 1) = m from by omega]
  simp [List.replicate_succ]
theorem fkTo_none {i : Nat} {ks out : List Int} {j m : Nat} (h : fkTo i ks out j = none) (hm : j ≤ m) : fkTo i ks out m = none := by
  induction m with
  | zero => rwa [show j = 0 from by omega] at h
  | succ m ih =>
    by_cases e : j = m + 1
    · rwa [e] at h
    · simp [fkTo, ih (by omega)]
theorem fillTo_none {t : List Al.Node} {j m : Nat} (h : fillTo t j = none) (hm : j ≤ m) : fillTo t m = none := by
  induction m with
  | zero => rwa [show j = 0 from by omega] at h
  | succ m ih =>
    by_cases e : j = m + 1
    · rwa [e] at h
    · simp [fillTo, ih (by omega)]
theorem fkTo_length {i : Nat} {ks : List Int} : ∀ {j : Nat} {out o : List Int}, fkTo i ks out j = some o → o.length = out.length
  | 0, out, o, h => by simp [fkTo] at h; rw [h]
  | j + 1, out, o, h => by
    simp only [fkTo] at h
    obtain ⟨o1, h1, h⟩ := Option.bind_eq_some_iff.1 h
    have := fkTo_length h1
    split at h
    · split at h
      · cases h
      · cases h; simpa using this
    · cases h; exact this
theorem fillTo_length {t : List Al.Node} : ∀ {i : Nat} {o : List Int}, fillTo t i = some o → o.length = t.length
  | 0, o, h => by simp [fillTo] at h; rw [← h]; simp
  | i + 1, o, h => by
    simp only [fillTo] at h
    obtain ⟨o1, h1, h⟩ := Option.bind_eq_some_iff.1 h
    have := fillTo_length h1
    split at h
    · rw [fkTo_length h, this]
    · cases h; exact this
theorem rows_set (l : List Int) (i j : Nat) (v w : Int) (e : j = i) : List.set (List.map rI l) j (splice (rI w) 0 [D.con (.int .i64 v)]) = List.map rI (l.set i v) := by
  subst e
  rw [List.map_set]
  rfl
def parentsX (t : List Al.Node) : AV := match fillTo t t.length with
  | some out => .tup [.d (dInts out), B (decide (out.length = 0) || !(out.take (out.length - 1)).contains (-1))]
  | none => .tup [.d (.con (.slice none 0 0)), B false]
theorem fkTo_step {i : Nat} {ks out o : List Int} {j : Nat} {k v : Int} (h : fkTo i ks out j = some o) (hk : ks[j]? = some k) (hv : o[k.toNat]? = some v) :
    fkTo i ks out (j + 1) = if 0 ≤ v then none else some (o.set k.toNat i) := by
  simp only [fkTo, h, Option.bind_some, hk]
  rw [List.getD_eq_getElem?_getD, hv]
  rfl
theorem fillTo_step {t : List Al.Node} {i : Nat} {out : List Int} {x : Al.Node} (h : fillTo t i = some out) (hx : t[i]? = some x) : fillTo t (i + 1) = fkTo i x.kids out x.kids.length := by
  simp only [fillTo, h, Option.bind_some, hx]
theorem parents_ok (t : List Al.Node) (ht : okTree t) (hk : ∀ (i : Nat) x, t[i]? = some x → ∀ k, k ∈ x.kids → 0 ≤ k ∧ k < t.length) : SPure prog 22 [aTree t] (parentsX t) := by
  have hl := ht.len
  refine .run ttab_ok func22 rfl (by kernel_rfl) (by simp [f22]) rfl ?_
  conv => whnf
  repeat' first
    | (intro _; conv => whnf)
    | (apply And.intro <;> (conv => whnf))
    | (refine AllRow.of rfl ?_; conv => whnf)
    | (apply AllRow.map; intro _ _; conv => whnf)
    | exact ⟨rfl⟩
    | fail
  all_goals try (exact ⟨by simp; omega⟩)
  refine LoopG.of ttab_ok [1, 4, 15, 16] [0, 1] (fun (i : Nat) => ⟨[(1, .ptr 0 0 0), (4, .vs 1 0 t.length), (15, I t.length), (16, I i)], [.box [.d (dNodes t)], .arr 1 ((fill1 t.length i).map rI) 0]⟩) (fun i => i ≤ t.length) (fun i => t.length - i) 0 (by kernel_rfl) (by simp) (by simp) (by simp) ?hs (by omega) ?_
  case hs =>
    first
      | (simp only [keepSt, keepE, Al.look, envOf, lend, ren, renL, renR, posOf, List.map_cons, List.map_nil]; done)
      | (simp only [keepSt, keepE, Al.look, envOf, lend, ren, renL, renR, posOf, List.map_cons, List.map_nil]; simp [I, S, B, U8, dI, dS, dB, dU8, dInts, dStrs, dNodes, ren, renL, renR, posOf, Al.look, envOf, fill1, rI])
      | (simp [keepSt, keepE, lend, I, S, B, U8, dI, dS, dB, dU8, dInts, dStrs, dNodes, ren, renL, renR, posOf, Al.look, envOf, fill1, rI])
  intro i hi
  conv => whnf
  repeat' first
    | (intro _; conv => whnf)
    | (apply And.intro <;> (conv => whnf))
    | (refine AllRow.of rfl ?_; conv => whnf)
    | (apply AllRow.map; intro _ _; conv => whnf)
    | exact ⟨rfl⟩
    | fail
  all_goals try simp only [Int.toNat_natCast] at *
  · exact ⟨by omega⟩
  · exact ⟨by simp [fill1]; omega⟩
  · exact ⟨by simp [rI]⟩
  · exact ⟨by omega⟩
  · refine RoundG.mk' (i + 1) (by simp) ?_ (by omega) (by omega)
    rw [rows_set _ i _ _ _ (by omega), fill1_set (by omega)]
    first
      | (simp only [keepSt, keepE, Al.look, envOf, lend, ren, renL, renR, posOf, List.map_cons, List.map_nil]; done)
      | (simp only [keepSt, keepE, Al.look, envOf, lend, ren, renL, renR, posOf, List.map_cons, List.map_nil]; simp [I, S, B, U8, dI, dS, dB, dU8, dInts, dStrs, dNodes, ren, renL, renR, posOf, Al.look, envOf])
      | (simp [keepSt, keepE, lend, I, S, B, U8, dI, dS, dB, dU8, dInts, dStrs, dNodes, ren, renL, renR, posOf, Al.look, envOf])
  · rename_i hge
    have hit : i = t.length := by omega
    subst hit
    have e0 : fill1 t.length t.length = List.replicate t.length (-1) := by simp [fill1]
    rw [e0]
    refine LoopG.of ttab_ok [4, 24, 25, 26] [0, 1] (fun (a : Nat × List Int) => ⟨[(4, .vs 1 0 t.length), (24, .d (dNodes t)), (25, I t.length), (26, I a.1)], [.box [.d (dNodes t)], .arr 1 (a.2.map rI) 0]⟩)
      (fun a => a.1 ≤ t.length ∧ fillTo t a.1 = some a.2) (fun a => t.length - a.1) (0, List.replicate t.length (-1)) (by kernel_rfl) (by simp) (by simp) (by simp) ?hs2 ⟨by omega, rfl⟩ ?_
    case hs2 =>
      first
        | (simp only [keepSt, keepE, Al.look, envOf, lend, ren, renL, renR, posOf, List.map_cons, List.map_nil]; done)
        | (simp only [keepSt, keepE, Al.look, envOf, lend, ren, renL, renR, posOf, List.map_cons, List.map_nil]; simp [I, S, B, U8, dI, dS, dB, dU8, dInts, dStrs, dNodes, ren, renL, renR, posOf, Al.look, envOf])
        | (simp [keepSt, keepE, lend, I, S, B, U8, dI, dS, dB, dU8, dInts, dStrs, dNodes, ren, renL, renR, posOf, Al.look, envOf])
    rintro ⟨i, out⟩ ⟨hi, ho⟩
    dsimp only at hi ho
    have hol := fillTo_length ho
    conv => whnf
    repeat' first
      | (intro _; conv => whnf)
      | (apply And.intro <;> (conv => whnf))
      | (refine AllRow.of rfl ?_; conv => whnf)
      | (apply AllRow.map; intro _ _; conv => whnf)
      | exact ⟨rfl⟩
      | fail
    all_goals try simp only [Int.toNat_natCast, List.length_map] at *
    · exact ⟨by omega⟩
    · rename_i hlt x hx
      have hkx := hk i x hx
      have hkl := (ht.node x (List.mem_of_getElem? hx)).len
      refine LoopG.of ttab_ok [4, 24, 25, 26, 6, 32, 33, 34] [0, 1, 2] (fun (a : Nat × List Int) => ⟨[(4, .vs 1 0 t.length), (24, .d (dNodes t)), (25, I t.length), (26, I i), (6, I i), (32, .d (dInts x.kids)), (33, I x.kids.length), (34, I a.1)],
        [.box [.d (dNodes t)], .arr 1 (a.2.map rI) 0, .box (cNode x)]⟩)
        (fun a => a.1 ≤ x.kids.length ∧ fkTo i x.kids out a.1 = some a.2) (fun a => x.kids.length - a.1) (0, out) (by kernel_rfl) (by simp) (by simp) (by simp) ?hs3 ⟨by omega, rfl⟩ ?_
      case hs3 =>
        first
          | (simp only [keepSt, keepE, Al.look, envOf, lend, ren, renL, renR, posOf, List.map_cons, List.map_nil]; done)
          | (simp only [keepSt, keepE, Al.look, envOf, lend, ren, renL, renR, posOf, List.map_cons, List.map_nil]; simp [I, S, B, U8, dI, dS, dB, dU8, dInts, dStrs, dNodes, ren, renL, renR, posOf, Al.look, envOf, cNode])
          | (simp [keepSt, keepE, lend, I, S, B, U8, dI, dS, dB, dU8, dInts, dStrs, dNodes, ren, renL, renR, posOf, Al.look, envOf, cNode])
      rintro ⟨j, o⟩ ⟨hj, hf⟩
      dsimp only at hj hf
      have hlo := fkTo_length hf
      conv => whnf
      repeat' first
        | (intro _; conv => whnf)
        | (apply And.intro <;> (conv => whnf))
        | (refine AllRow.of rfl ?_; conv => whnf)
        | (apply AllRow.map; intro _ _; conv => whnf)
        | exact ⟨rfl⟩
        | fail
      all_goals try simp only [Int.toNat_natCast, List.length_map, Nat.zero_add] at *
      · exact ⟨by omega⟩
      · rename_i hlt2 k hkj
        exact ⟨hkx k (List.mem_of_getElem? hkj)⟩
      · rename_i hlt2 k hkj
        have := hkx k (List.mem_of_getElem? hkj)
        exact ⟨by omega⟩
      · rename_i hlt2 k hkj v hge0 hv
        have h1 := fkTo_step hf hkj hv
        rw [if_pos hge0] at h1
        have h2 := fillTo_step ho hx
        rw [fkTo_none h1 (by omega)] at h2
        have h3 := fillTo_none (m := t.length) h2 (by omega)
        exact ⟨by simp [parentsX, h3, B, dB]⟩
      · rename_i hlt2 k hkj v hv hge0
        exact ⟨hkx k (List.mem_of_getElem? hkj)⟩
      · rename_i hlt2 k hkj v hv hge0
        have := hkx k (List.mem_of_getElem? hkj)
        exact ⟨by omega⟩
      · exact ⟨by simp [rI]⟩
      · exact ⟨by omega⟩
      · rename_i hlt2 k hkj v hge0 w hv hw
        have h1 := fkTo_step hf hkj hv
        rw [if_neg hge0] at h1
        refine RoundG.mk' (j + 1, o.set k.toNat i) (by simp) ?_ (by dsimp only; omega) ⟨by dsimp only; omega, h1⟩
        rw [rows_set _ k.toNat _ _ _ (by omega)]
        first
          | (simp only [keepSt, keepE, Al.look, envOf, lend, ren, renL, renR, posOf, List.map_cons, List.map_nil]; done)
          | (simp only [keepSt, keepE, Al.look, envOf, lend, ren, renL, renR, posOf, List.map_cons, List.map_nil]; simp [I, S, B, U8, dI, dS, dB, dU8, dInts, dStrs, dNodes, ren, renL, renR, posOf, Al.look, envOf, cNode])
          | (simp [keepSt, keepE, lend, I, S, B, U8, dI, dS, dB, dU8, dInts, dStrs, dNodes, ren, renL, renR, posOf, Al.look, envOf, cNode])
      · exact ⟨by omega⟩
      · rename_i hge2
        have hjl : j = x.kids.length := by omega
        subst hjl
        refine RoundG.mk' (i + 1, o) (by simp) ?_ (by dsimp only; omega) ⟨by dsimp only; omega, by dsimp only; rw [fillTo_step ho hx]; exact hf⟩
        first
          | (simp only [keepSt, keepE, Al.look, envOf, lend, ren, renL, renR, posOf, List.map_cons, List.map_nil]; done)
          | (simp only [keepSt, keepE, Al.look, envOf, lend, ren, renL, renR, posOf, List.map_cons, List.map_nil]; simp [I, S, B, U8, dI, dS, dB, dU8, dInts, dStrs, dNodes, ren, renL, renR, posOf, Al.look, envOf])
          | (simp [keepSt, keepE, lend, I, S, B, U8, dI, dS, dB, dU8, dInts, dStrs, dNodes, ren, renL, renR, posOf, Al.look, envOf])
    · exact ⟨by omega⟩
    · rename_i hge2 h0
      have hit : i = t.length := by omega
      subst hit
      refine ⟨?_⟩
      have hp : parentsX t = .tup [.d (dInts out), B (decide (out.length = 0) || !(out.take (out.length - 1)).contains (-1))] := by
        unfold parentsX; rw [ho]
      have h00 : out = [] := List.length_eq_zero_iff.1 (by omega)
      rw [hp, h00]
      simp [B, dB, dInts]
    · exact ⟨by omega⟩
    · exact ⟨by omega⟩
    · rename_i hge2 h0
      have hit : i = t.length := by omega
      subst hit
      refine CallG.con (args' := [.d (dInts (out.take (out.length - 1))), I (-1)]) (R' := [.box [.d (dNodes t)], .arr 1 (out.map rI) (max 0 (0 + (out.length - 1)))]) call39 ?hfz (contains_ok _ _ (by simp; omega)) ?_
      case hfz =>
        simp [fzL, fz, asD, dInts, dI, I, dNodes]
        rw [hol, if_pos (by omega)]
        simp
      conv => whnf
      repeat' first
        | (intro _; conv => whnf)
        | (apply And.intro <;> (conv => whnf))
        | (refine AllRow.of rfl ?_; conv => whnf)
        | (apply AllRow.map; intro _ _; conv => whnf)
        | exact ⟨rfl⟩
        | fail
      all_goals try (exact ⟨by simp; omega⟩)
      all_goals refine ⟨?_⟩
      all_goals rename_i hc
      all_goals rw [show parentsX t = .tup [.d (dInts out), B (decide (out.length = 0) || !(out.take (out.length - 1)).contains (-1))] by unfold parentsX; rw [ho]]
      all_goals rw [hc, List.drop_zero, List.take_of_length_le (by simp; omega)]
      all_goals simp [B, dB, dInts]
      all_goals first | omega | (intro e; rw [e] at hol; simp at hol; omega)
end Go.Proofs.Tryd

namespace Go.Proofs.Tryd
open Go Go.Al
set_option maxRecDepth 20000
def depTo (up : List Int) : Nat → List Int
  | 0 => List.replicate up.length 0
  | c + 1 => match up[up.length - 1 - c]? with
    | some u => if 0 ≤ u then (depTo up c).set (up.length - 1 - c) ((depTo up c).getD u.toNat 0 + 1) else depTo up c
    | none => depTo up c
theorem depTo_length (up : List Int) : ∀ c, (depTo up c).length = up.length
  | 0 => by simp [depTo]
  | c + 1 => by
    simp only [depTo]
    split
    · split
      · simp [depTo_length up c]
      · exact depTo_length up c
    · exact depTo_length up c
theorem depTo_bound (up : List Int) : ∀ c v, v ∈ depTo up c → 0 ≤ v ∧ v ≤ c
  | 0, v, h => by simp [depTo] at h; omega
  | c + 1, v, h => by
    have ih := depTo_bound up c
    have ih' : ∀ v, v ∈ depTo up c → 0 ≤ v ∧ v ≤ ((c + 1 : Nat) : Int) := fun v h => by have := ih v h; omega
    simp only [depTo] at h
    split at h
    · split at h
      · rcases List.mem_or_eq_of_mem_set h with h | h
        · exact ih' v h
        · subst h
          rw [List.getD_eq_getElem?_getD]
          rename_i u _ _
          cases hg : (depTo up c)[u.toNat]? with
          | none => simp; omega
          | some w =>
            have := ih w (List.mem_of_getElem? hg)
            simp; omega
      · exact ih' v h
    · exact ih' v h
theorem depTo_step {up : List Int} {c : Nat} {u : Int} (h : up[up.length - 1 - c]? = some u) (hu : 0 ≤ u) {v : Int} (hv : (depTo up c)[u.toNat]? = some v) : depTo up (c + 1) = (depTo up c).set (up.length - 1 - c) (v + 1) := by
  simp only [depTo, h, if_pos hu]
  rw [List.getD_eq_getElem?_getD, hv]
  rfl
theorem depTo_stay {up : List Int} {c : Nat} {u : Int} (h : up[up.length - 1 - c]? = some u) (hu : ¬ 0 ≤ u) : depTo up (c + 1) = depTo up c := by
  simp only [depTo, h, if_neg hu]
theorem depths_ok (up : List Int) (hl : up.length ≤ 1954687338211) (hup : ∀ (i : Nat) u, up[i]? = some u → u < up.length) : SPure prog 25 [.d (dInts up)] (.d (dInts (depTo up up.length))) := by
  refine .run ttab_ok func25 rfl (by kernel_rfl) (by simp [f25]) rfl ?_
  conv => whnf
  repeat' first
    | (intro _; conv => whnf)
    | (apply And.intro <;> (conv => whnf))
    | (refine AllRow.of rfl ?_; conv => whnf)
    | (apply AllRow.map; intro _ _; conv => whnf)
    | exact ⟨rfl⟩
    | fail
  all_goals try (exact ⟨by simp; omega⟩)
  refine LoopG.of ttab_ok [0, 3, 4] [0] (fun (c : Nat) => ⟨[(0, .d (dInts up)), (3, .vs 0 0 up.length), (4, I ((up.length : Int) - 1 - c))], [.arr 1 ((depTo up c).map rI) 0]⟩) (fun c => c ≤ up.length) (fun c => up.length - c) 0 (by kernel_rfl) (by simp) (by simp) (by simp) ?hs (by omega) ?_
  case hs =>
    first
      | (simp only [keepSt, keepE, Al.look, envOf, lend, ren, renL, renR, posOf, List.map_cons, List.map_nil]; done)
      | (simp only [keepSt, keepE, Al.look, envOf, lend, ren, renL, renR, posOf, List.map_cons, List.map_nil]; simp [I, S, B, U8, dI, dS, dB, dU8, dInts, dStrs, dNodes, ren, renL, renR, posOf, Al.look, envOf, depTo, rI])
      | (simp [keepSt, keepE, lend, I, S, B, U8, dI, dS, dB, dU8, dInts, dStrs, dNodes, ren, renL, renR, posOf, Al.look, envOf, depTo, rI])
  intro c hc
  have hlen := depTo_length up c
  conv => whnf
  repeat' first
    | (intro _; conv => whnf)
    | (apply And.intro <;> (conv => whnf))
    | (refine AllRow.of rfl ?_; conv => whnf)
    | (apply AllRow.map; intro _ _; conv => whnf)
    | exact ⟨rfl⟩
    | fail
  all_goals try simp only [Int.toNat_natCast, List.length_map, Nat.zero_add] at *
  all_goals try (exact ⟨by omega⟩)
  · rename_i h0 u hu hu0 u' hu'
    have := hup _ _ hu'
    rw [hu] at hu'
    cases hu'
    exact ⟨by omega⟩
  · rename_i h0 u hu hu0 u' hu'
    have := hup _ _ hu'
    rw [hu] at hu'
    cases hu'
    exact ⟨by omega⟩
  · rename_i h0 u hu hu0 u' hu' v hv
    have := depTo_bound up c v (List.mem_of_getElem? hv)
    exact ⟨by omega⟩
  · exact ⟨by simp [rI]⟩
  · rename_i h0 u hu hu0 u' hu' v w hv hw
    have e : ((up.length : Int) - 1 - c).toNat = up.length - 1 - c := by omega
    rw [hu] at hu'
    cases hu'
    rw [e] at hu
    refine RoundG.mk' (c + 1) (by simp) ?_ (by omega) (by omega)
    rw [rows_set _ (up.length - 1 - c) _ _ _ e, ← depTo_step hu hu0 hv, show (up.length : Int) - 1 - c - 1 = (up.length : Int) - 1 - ((c + 1 : Nat) : Int) from by omega]
    first
      | (simp only [keepSt, keepE, Al.look, envOf, lend, ren, renL, renR, posOf, List.map_cons, List.map_nil]; done)
      | (simp only [keepSt, keepE, Al.look, envOf, lend, ren, renL, renR, posOf, List.map_cons, List.map_nil]; simp [I, S, B, U8, dI, dS, dB, dU8, dInts, dStrs, dNodes, ren, renL, renR, posOf, Al.look, envOf])
      | (simp [keepSt, keepE, lend, I, S, B, U8, dI, dS, dB, dU8, dInts, dStrs, dNodes, ren, renL, renR, posOf, Al.look, envOf])
  · rename_i h0 u hu hu0
    have e : ((up.length : Int) - 1 - c).toNat = up.length - 1 - c := by omega
    rw [e] at hu
    refine RoundG.mk' (c + 1) (by simp) ?_ (by omega) (by omega)
    rw [depTo_stay hu hu0, show (up.length : Int) - 1 - c - 1 = (up.length : Int) - 1 - ((c + 1 : Nat) : Int) from by omega]
    first
      | (simp only [keepSt, keepE, Al.look, envOf, lend, ren, renL, renR, posOf, List.map_cons, List.map_nil]; done)
      | (simp only [keepSt, keepE, Al.look, envOf, lend, ren, renL, renR, posOf, List.map_cons, List.map_nil]; simp [I, S, B, U8, dI, dS, dB, dU8, dInts, dStrs, dNodes, ren, renL, renR, posOf, Al.look, envOf])
      | (simp [keepSt, keepE, lend, I, S, B, U8, dI, dS, dB, dU8, dInts, dStrs, dNodes, ren, renL, renR, posOf, Al.look, envOf])
  · have hcl : c = up.length := by omega
    subst hcl
    refine ⟨?_⟩
    rw [List.drop_zero, List.take_of_length_le (by simp; omega)]
    rfl
end Go.Proofs.Tryd

namespace Go.Proofs.Tryd
open Go Go.Al
set_option maxRecDepth 20000
def nodesS (t : List Al.Node) (m : Nat) : Bool := (List.range m).all fun i => match t[i]? with
  | some x => nodeS t i x
  | none => true
theorem nodesS_step {t : List Al.Node} {i : Nat} {x : Al.Node} (hx : t[i]? = some x) : nodesS t (i + 1) = (nodesS t i && nodeS t i x) := by
  simp only [nodesS, List.range_succ, List.all_append, List.all_cons, List.all_nil, hx, Bool.and_true]
theorem nodesS_mono {t : List Al.Node} {i m : Nat} (h : nodesS t i = false) (hm : i ≤ m) : nodesS t m = false := by
  simp only [nodesS, List.all_eq_false, List.mem_range] at h ⊢
  obtain ⟨j, hj, h⟩ := h
  exact ⟨j, by omega, h⟩
theorem nodesS_node {t : List Al.Node} {i m : Nat} {x : Al.Node} (h : nodesS t m = true) (hi : i < m) (hx : t[i]? = some x) : nodeS t i x = true := by
  simp only [nodesS, List.all_eq_true, List.mem_range] at h
  have := h i hi
  rwa [hx] at this
theorem nodeS_kids {t : List Al.Node} {i : Nat} {x : Al.Node} (h : nodeS t i x = true) : ∀ k, k ∈ x.kids → 0 ≤ k ∧ k < i := by
  simp only [nodeS, Bool.and_eq_true, List.all_eq_true, decide_eq_true_eq] at h
  exact h.1
theorem fkTo_bound {i n : Nat} {ks : List Int} (hi : i < n) : ∀ {j : Nat} {out o : List Int}, fkTo i ks out j = some o → (∀ v, v ∈ out → -1 ≤ v ∧ v < n) → ∀ v, v ∈ o → -1 ≤ v ∧ v < n
  | 0, out, o, h, hb => by simp [fkTo] at h; subst h; exact hb
  | j + 1, out, o, h, hb => by
    simp only [fkTo] at h
    obtain ⟨o1, h1, h⟩ := Option.bind_eq_some_iff.1 h
    have ih := fkTo_bound hi h1 hb
    split at h
    · split at h
      · cases h
      · cases h
        intro v hv
        rcases List.mem_or_eq_of_mem_set hv with hv | hv
        · exact ih v hv
        · subst hv; omega
    · cases h; exact ih
theorem fillTo_bound {t : List Al.Node} : ∀ {i : Nat} {o : List Int}, fillTo t i = some o → i ≤ t.length → ∀ v, v ∈ o → -1 ≤ v ∧ v < t.length
  | 0, o, h, _ => by
    simp [fillTo] at h
    subst h
    intro v hv
    have := List.eq_of_mem_replicate hv
    omega
  | i + 1, o, h, hi => by
    simp only [fillTo] at h
    obtain ⟨o1, h1, h⟩ := Option.bind_eq_some_iff.1 h
    have ih := fillTo_bound h1 (by omega)
    split at h
    · exact fkTo_bound (by omega) h ih
    · cases h; exact ih
def checkS (t : List Al.Node) : Bool := decide (1 ≤ t.length) && (decide (t.length ≤ 20000) && (decide (kindAt t (t.length - 1) = 1) && (nodesS t t.length && (match fillTo t t.length with
  | some out => !(out.take (out.length - 1)).contains (-1) && decide (maxS (depTo out out.length) ≤ 400)
  | none => false))))
theorem check_ok (t : List Al.Node) (ht : okTree t) : SPure prog 18 [aTree t] (I (if checkS t then 0 else 3)) := by
  have hl := ht.len
  refine .run ttab_ok func18 rfl (by kernel_rfl) (by simp [f18]) rfl ?_
  conv => whnf
  repeat' first
    | (intro _; conv => whnf)
    | (apply And.intro <;> (conv => whnf))
    | (refine AllRow.of rfl ?_; conv => whnf)
    | (apply AllRow.map; intro _ _; conv => whnf)
    | exact ⟨rfl⟩
    | fail
  all_goals try simp only [Int.toNat_natCast, List.length_map, Nat.zero_add] at *
  all_goals try (exact ⟨by omega⟩)
  · rename_i h
    have : decide (1 ≤ t.length) = false := decide_eq_false (by omega)
    refine ⟨?_⟩
    rw [show checkS t = false by unfold checkS; rw [this]; rfl]
    rfl
  · rename_i h h2
    have : decide (t.length ≤ 20000) = false := decide_eq_false (by omega)
    refine ⟨?_⟩
    rw [show checkS t = false by unfold checkS; rw [this]; simp]
    rfl
  · rename_i x hk1 h1 h2 hx
    have hlast : kindAt t (t.length - 1) = x.kind := kindAt_eq hx
    have : decide (kindAt t (t.length - 1) = 1) = false := by rw [hlast]; simpa using hk1
    refine ⟨?_⟩
    rw [show checkS t = false by unfold checkS; rw [this]; simp]
    rfl
  · rename_i x hk1 h1 h2 hx
    have hlast : kindAt t (t.length - 1) = x.kind := kindAt_eq hx
    have e1 : decide (1 ≤ t.length) = true := decide_eq_true (by omega)
    have e2 : decide (t.length ≤ 20000) = true := decide_eq_true (by omega)
    have e3 : decide (kindAt t (t.length - 1) = 1) = true := by rw [hlast]; simpa using hk1
    refine LoopG.of ttab_ok [1, 28, 29] [0] (fun (i : Nat) => ⟨[(1, .ptr 0 0 0), (28, I t.length), (29, I i)], [.box [.d (dNodes t)]]⟩) (fun i => i ≤ t.length ∧ nodesS t i = true) (fun i => t.length - i) 0 (by kernel_rfl) (by simp) (by simp) (by simp) ?hs ⟨by omega, by simp [nodesS]⟩ ?_
    case hs =>
      first
        | (simp only [keepSt, keepE, Al.look, envOf, lend, ren, renL, renR, posOf, List.map_cons, List.map_nil]; done)
        | (simp only [keepSt, keepE, Al.look, envOf, lend, ren, renL, renR, posOf, List.map_cons, List.map_nil]; simp [I, S, B, U8, dI, dS, dB, dU8, dInts, dStrs, dNodes, ren, renL, renR, posOf, Al.look, envOf])
        | (simp [keepSt, keepE, lend, I, S, B, U8, dI, dS, dB, dU8, dInts, dStrs, dNodes, ren, renL, renR, posOf, Al.look, envOf])
    rintro i ⟨hi, hn⟩
    conv => whnf
    repeat' first
      | (intro _; conv => whnf)
      | (apply And.intro <;> (conv => whnf))
      | (refine AllRow.of rfl ?_; conv => whnf)
      | (apply AllRow.map; intro _ _; conv => whnf)
      | exact ⟨rfl⟩
      | fail
    all_goals try simp only [Int.toNat_natCast, List.length_map, Nat.zero_add] at *
    · rename_i hlt
      obtain ⟨y, hy⟩ : ∃ y, t[i]? = some y := ⟨_, List.getElem?_eq_getElem (by omega)⟩
      refine CallG.con call26 rfl (node_ok t ht i y hy) ?_
      conv => whnf
      repeat' first
        | (intro _; conv => whnf)
        | (apply And.intro <;> (conv => whnf))
        | (refine AllRow.of rfl ?_; conv => whnf)
        | (apply AllRow.map; intro _ _; conv => whnf)
        | exact ⟨rfl⟩
        | fail
      · exact ⟨by omega⟩
      · rename_i hb
        refine RoundG.mk' (i + 1) (by simp) ?_ (by omega) ⟨by omega, by rw [nodesS_step hy, hn, hb]; rfl⟩
        first
          | (simp only [keepSt, keepE, Al.look, envOf, lend, ren, renL, renR, posOf, List.map_cons, List.map_nil]; done)
          | (simp only [keepSt, keepE, Al.look, envOf, lend, ren, renL, renR, posOf, List.map_cons, List.map_nil]; simp [I, S, B, U8, dI, dS, dB, dU8, dInts, dStrs, dNodes, ren, renL, renR, posOf, Al.look, envOf])
          | (simp [keepSt, keepE, lend, I, S, B, U8, dI, dS, dB, dU8, dInts, dStrs, dNodes, ren, renL, renR, posOf, Al.look, envOf])
      · rename_i hb
        have := nodesS_mono (m := t.length) (by rw [nodesS_step hy, hn, hb]; rfl) (show i + 1 ≤ t.length by omega)
        refine ⟨?_⟩
        rw [show checkS t = false by unfold checkS; rw [this]; simp]
        rfl
    · rename_i hge
      have hit : i = t.length := by omega
      subst hit
      have hkids : ∀ (i : Nat) x, t[i]? = some x → ∀ k, k ∈ x.kids → 0 ≤ k ∧ k < t.length := fun j z hz k hkz => by
        have hj := (List.getElem?_eq_some_iff.1 hz).1
        have := nodeS_kids (nodesS_node hn hj hz) k hkz
        omega
      have hpar := parents_ok t ht hkids
      have hspec : checkS t = (match fillTo t t.length with
        | some out => !(out.take (out.length - 1)).contains (-1) && decide (maxS (depTo out out.length) ≤ 400)
        | none => false) := by
        unfold checkS
        rw [e1, e2, e3, hn]
        simp only [Bool.true_and]
      unfold parentsX at hpar
      cases hf : fillTo t t.length with
      | none =>
        rw [hf] at hpar
        refine CallG.eq call22 rfl hpar ?_
        conv => whnf
        repeat' first
          | (intro h; exfalso; revert h; simp; done)
          | (intro _; conv => whnf)
          | (apply And.intro <;> (conv => whnf))
          | (refine AllRow.of rfl ?_; conv => whnf)
          | (apply AllRow.map; intro _ _; conv => whnf)
          | exact ⟨rfl⟩
          | fail
        all_goals refine ⟨?_⟩
        all_goals rw [show checkS t = false by rw [hspec, hf]]
        all_goals rfl
      | some out =>
        rw [hf] at hpar
        dsimp only at hpar
        have hol := fillTo_length hf
        have hob := fillTo_bound hf (Nat.le_refl _)
        have e0 : decide (out.length = 0) = false := decide_eq_false (by omega)
        rw [e0, Bool.false_or] at hpar
        refine CallG.eq call22 rfl hpar ?_
        conv => whnf
        have hne : depTo out out.length ≠ [] := fun e => by
          have := depTo_length out out.length
          rw [e] at this
          simp at this
          omega
        repeat' first
          | (intro _; conv => whnf)
          | (apply And.intro <;> (conv => whnf))
          | (refine AllRow.of rfl ?_; conv => whnf)
          | (apply AllRow.map; intro _ _; conv => whnf)
          | (refine CallG.eq call25 rfl (depths_ok out (by omega) (fun i u hu => by have := hob u (List.mem_of_getElem? hu); omega)) ?_; conv => whnf)
          | (refine CallG.con call24 rfl (max_ok _ (by rw [depTo_length]; omega) hne) ?_; conv => whnf)
          | (refine CallQG.con call24 rfl (max_ok _ (by rw [depTo_length]; omega) hne) ?_; conv => whnf)
          | exact ⟨rfl⟩
          | fail
        · rename_i hb h4
          refine ⟨?_⟩
          rw [show checkS t = false by rw [hspec, hf]; dsimp only; rw [hb, Bool.true_and, decide_eq_false (show ¬ maxS (depTo out out.length) ≤ 400 by omega)]]
          rfl
        · rename_i hb h4
          refine ⟨?_⟩
          rw [show checkS t = true by rw [hspec, hf]; dsimp only; rw [hb, Bool.true_and, decide_eq_true (show maxS (depTo out out.length) ≤ 400 by omega)]]
          rfl
        · rename_i hb
          refine ⟨?_⟩
          rw [show checkS t = false by rw [hspec, hf]; dsimp only; rw [hb, Bool.false_and]]
          rfl
end Go.Proofs.Tryd

namespace Go.Proofs.Tryd
open Go Go.Al
set_option maxRecDepth 20000
def moreS : Int → List Bytes → Int
  | n, [] => n
  | n, s :: l => if n > 2147483647 ∨ (s.length : Int) > 2147483647 then 2147483648 else moreS (n + (s.length + 16)) l
theorem moreS_bound : ∀ (l : List Bytes) (n : Int), 0 ≤ n → n ≤ 8589934592 → 0 ≤ moreS n l ∧ moreS n l ≤ 8589934592
  | [], n, h1, h2 => ⟨h1, h2⟩
  | s :: l, n, h1, h2 => by
    unfold moreS
    split
    · omega
    · exact moreS_bound l _ (by omega) (by omega)
theorem drop_at {α : Type} {l : List α} {i : Nat} {x : α} (h : l[i]? = some x) : l.drop i = x :: l.drop (i + 1) := by
  obtain ⟨hi, e⟩ := List.getElem?_eq_some_iff.1 h
  rw [List.drop_eq_getElem_cons hi, e]
theorem more_ok (n : Int) (l : List Bytes) (h1 : 0 ≤ n) (h2 : n ≤ 8589934592) (hl : l.length ≤ 140737488355328) : SPure prog 27 [I n, .d (dStrs l)] (I (moreS n l)) := by
  refine .run ttab_ok func27 rfl (by kernel_rfl) (by simp [f27]) rfl ?_
  conv => whnf
  repeat' first
    | (intro _; conv => whnf)
    | (apply And.intro <;> (conv => whnf))
    | (refine AllRow.of rfl ?_; conv => whnf)
    | (apply AllRow.map; intro _ _; conv => whnf)
    | exact ⟨rfl⟩
    | fail
  refine LoopG.of ttab_ok [0, 7, 8, 9] [] (fun (a : Nat × Int) => ⟨[(0, I a.2), (7, .d (dStrs l)), (8, I l.length), (9, I a.1)], []⟩) (fun a => a.1 ≤ l.length ∧ 0 ≤ a.2 ∧ a.2 ≤ 8589934592 ∧ moreS a.2 (l.drop a.1) = moreS n l) (fun a => l.length - a.1) (0, n) (by kernel_rfl) .nil (by simp) (by simp) ?hs ⟨by omega, h1, h2, by simp⟩ ?_
  case hs =>
    first
      | (simp only [keepSt, keepE, Al.look, envOf, lend, ren, renL, renR, posOf, List.map_cons, List.map_nil]; done)
      | (simp only [keepSt, keepE, Al.look, envOf, lend, ren, renL, renR, posOf, List.map_cons, List.map_nil]; simp [I, S, B, U8, dI, dS, dB, dU8, dInts, dStrs, dNodes, ren, renL, renR, posOf, Al.look, envOf])
      | (simp [keepSt, keepE, lend, I, S, B, U8, dI, dS, dB, dU8, dInts, dStrs, dNodes, ren, renL, renR, posOf, Al.look, envOf])
  rintro ⟨i, m⟩ ⟨hi, hm1, hm2, hs⟩
  dsimp only at hi hm1 hm2 hs
  conv => whnf
  repeat' first
    | (intro _; conv => whnf)
    | (apply And.intro <;> (conv => whnf))
    | (refine AllRow.of rfl ?_; conv => whnf)
    | (apply AllRow.map; intro _ _; conv => whnf)
    | exact ⟨rfl⟩
    | fail
  all_goals try simp only [Int.toNat_natCast, List.length_map, Nat.zero_add, size_ba] at *
  all_goals try (exact ⟨by omega⟩)
  · rename_i hlt s hx h
    refine ⟨?_⟩
    rw [← hs, drop_at hx, moreS, if_pos (.inl h)]
    rfl
  · rename_i hlt s hx h h'
    refine ⟨?_⟩
    rw [← hs, drop_at hx, moreS, if_pos (.inr h')]
    rfl
  · rename_i hlt s hx h h'
    have hstep : moreS m (l.drop i) = moreS (m + (s.length + 16)) (l.drop (i + 1)) := by
      rw [drop_at hx, moreS, if_neg (by intro e; rcases e with e | e <;> omega)]
    refine RoundG.mk' (i + 1, m + (s.length + 16)) (by simp) ?_ (by dsimp only; omega) ⟨by dsimp only; omega, by dsimp only; omega, by dsimp only; omega, by dsimp only; rw [← hstep]; exact hs⟩
    first
      | (simp only [keepSt, keepE, Al.look, envOf, lend, ren, renL, renR, posOf, List.map_cons, List.map_nil]; done)
      | (simp only [keepSt, keepE, Al.look, envOf, lend, ren, renL, renR, posOf, List.map_cons, List.map_nil]; simp [I, S, B, U8, dI, dS, dB, dU8, dInts, dStrs, dNodes, ren, renL, renR, posOf, Al.look, envOf])
      | (simp [keepSt, keepE, lend, I, S, B, U8, dI, dS, dB, dU8, dInts, dStrs, dNodes, ren, renL, renR, posOf, Al.look, envOf])
  · rename_i hge
    refine ⟨?_⟩
    rw [← hs, List.drop_eq_nil_of_le (by omega)]
    rfl
def moreN : Int → List Al.Node → Int
  | n, [] => n
  | n, x :: l => moreN (moreS n [x.name]) l
theorem moreNodes_ok (n : Int) (t : List Al.Node) (h1 : 0 ≤ n) (h2 : n ≤ 8589934592) (ht : okTree t) : SPure prog 19 [I n, aTree t] (I (moreN n t)) := by
  have hl := ht.len
  refine .run ttab_ok func19 rfl (by kernel_rfl) (by simp [f19]) rfl ?_
  conv => whnf
  repeat' first
    | (intro _; conv => whnf)
    | (apply And.intro <;> (conv => whnf))
    | (refine AllRow.of rfl ?_; conv => whnf)
    | (apply AllRow.map; intro _ _; conv => whnf)
    | exact ⟨rfl⟩
    | fail
  refine LoopG.of ttab_ok [0, 8, 9, 10] [] (fun (a : Nat × Int) => ⟨[(0, I a.2), (8, .d (dNodes t)), (9, I t.length), (10, I a.1)], []⟩) (fun a => a.1 ≤ t.length ∧ 0 ≤ a.2 ∧ a.2 ≤ 8589934592 ∧ moreN a.2 (t.drop a.1) = moreN n t) (fun a => t.length - a.1) (0, n) (by kernel_rfl) .nil (by simp) (by simp) ?hs ⟨by omega, h1, h2, by simp⟩ ?_
  case hs =>
    first
      | (simp only [keepSt, keepE, Al.look, envOf, lend, ren, renL, renR, posOf, List.map_cons, List.map_nil]; done)
      | (simp only [keepSt, keepE, Al.look, envOf, lend, ren, renL, renR, posOf, List.map_cons, List.map_nil]; simp [I, S, B, U8, dI, dS, dB, dU8, dInts, dStrs, dNodes, ren, renL, renR, posOf, Al.look, envOf])
      | (simp [keepSt, keepE, lend, I, S, B, U8, dI, dS, dB, dU8, dInts, dStrs, dNodes, ren, renL, renR, posOf, Al.look, envOf])
  rintro ⟨i, m⟩ ⟨hi, hm1, hm2, hs⟩
  dsimp only at hi hm1 hm2 hs
  conv => whnf
  repeat' first
    | (intro _; conv => whnf)
    | (apply And.intro <;> (conv => whnf))
    | (refine AllRow.of rfl ?_; conv => whnf)
    | (apply AllRow.map; intro _ _; conv => whnf)
    | (refine CallG.con call27 rfl (more_ok _ [_] hm1 hm2 (by simp)) ?_; conv => whnf)
    | (refine CallQG.con call27 rfl (more_ok _ [_] hm1 hm2 (by simp)) ?_; conv => whnf)
    | exact ⟨rfl⟩
    | fail
  all_goals try simp only [Int.toNat_natCast, List.length_map, Nat.zero_add] at *
  all_goals try (exact ⟨by omega⟩)
  · rename_i hlt x hx
    have hb := moreS_bound [x.name] m hm1 hm2
    refine RoundG.mk' (i + 1, moreS m [x.name]) (by simp) ?_ (by dsimp only; omega) ⟨by dsimp only; omega, hb.1, hb.2, by dsimp only; rw [← hs, drop_at hx]; rfl⟩
    first
      | (simp only [keepSt, keepE, Al.look, envOf, lend, ren, renL, renR, posOf, List.map_cons, List.map_nil]; done)
      | (simp only [keepSt, keepE, Al.look, envOf, lend, ren, renL, renR, posOf, List.map_cons, List.map_nil]; simp [I, S, B, U8, dI, dS, dB, dU8, dInts, dStrs, dNodes, ren, renL, renR, posOf, Al.look, envOf])
      | (simp [keepSt, keepE, lend, I, S, B, U8, dI, dS, dB, dU8, dInts, dStrs, dNodes, ren, renL, renR, posOf, Al.look, envOf])
  · rename_i hge
    refine ⟨?_⟩
    rw [← hs, List.drop_eq_nil_of_le (by omega)]
    rfl
def longS (t : List Al.Node) : Bool := decide (moreN 0 t > 2147483647)
theorem long_ok (t : List Al.Node) (ht : okTree t) : SPure prog 9 [aTree t] (B (longS t)) := by
  refine .run ttab_ok func9 rfl (by kernel_rfl) (by simp [f9]) rfl ?_
  conv => whnf
  repeat' first
    | (intro _; conv => whnf)
    | (apply And.intro <;> (conv => whnf))
    | (refine AllRow.of rfl ?_; conv => whnf)
    | (apply AllRow.map; intro _ _; conv => whnf)
    | (refine CallG.con call19 rfl (moreNodes_ok 0 t (by omega) (by omega) ht) ?_; conv => whnf)
    | (refine CallQG.con call19 rfl (moreNodes_ok 0 t (by omega) (by omega) ht) ?_; conv => whnf)
    | exact ⟨rfl⟩
    | fail
  all_goals (refine ⟨?_⟩; simp_all [B, dB, longS])
end Go.Proofs.Tryd

namespace Go.Proofs.Tryd
open Go Go.Al
set_option maxRecDepth 20000
def upS (t : List Al.Node) : List Int := (fillTo t t.length).getD []
structure Good (t : List Al.Node) : Prop where
  len : 1 ≤ t.length
  most : t.length ≤ 20000
  last : kindAt t (t.length - 1) = 1
  node : nodesS t t.length = true
  fill : fillTo t t.length = some (upS t)
  one : ((upS t).take ((upS t).length - 1)).contains (-1) = false
  deep : maxS (depTo (upS t) (upS t).length) ≤ 400
theorem good_of {t : List Al.Node} (h : checkS t = true) : Good t := by
  unfold checkS at h
  simp only [Bool.and_eq_true, decide_eq_true_eq] at h
  obtain ⟨h1, h2, h3, h4, h5⟩ := h
  cases hf : fillTo t t.length with
  | none => rw [hf] at h5; simp at h5
  | some out =>
    rw [hf] at h5
    simp only [Bool.and_eq_true, decide_eq_true_eq, Bool.not_eq_true'] at h5
    have e : upS t = out := by unfold upS; rw [hf]; rfl
    exact ⟨h1, h2, h3, h4, by rw [e]; exact hf, by rw [e]; exact h5.1, by rw [e]; exact h5.2⟩
theorem good_iff {t : List Al.Node} (h : Good t) : checkS t = true := by
  unfold checkS
  rw [h.fill]
  simp only [decide_eq_true h.len, decide_eq_true h.most, decide_eq_true h.last, h.node, h.one, decide_eq_true h.deep, Bool.and_self, Bool.not_false]
theorem Good.kids {t : List Al.Node} (h : Good t) {i : Nat} {x : Al.Node} (hx : t[i]? = some x) : ∀ k, k ∈ x.kids → 0 ≤ k ∧ k < i :=
  nodeS_kids (nodesS_node h.node (List.getElem?_eq_some_iff.1 hx).1 hx)
theorem Good.inside {t : List Al.Node} (h : Good t) : ∀ (i : Nat) x, t[i]? = some x → ∀ k, k ∈ x.kids → 0 ≤ k ∧ k < t.length := fun i x hx k hk => by
  have h1 := h.kids hx k hk
  have h2 := (List.getElem?_eq_some_iff.1 hx).1
  omega
theorem Good.up {t : List Al.Node} (h : Good t) : (upS t).length = t.length ∧ ∀ v, v ∈ upS t → -1 ≤ v ∧ v < t.length := ⟨fillTo_length h.fill, fillTo_bound h.fill (Nat.le_refl _)⟩
theorem Good.parents {t : List Al.Node} (h : Good t) : parentsX t = .tup [.d (dInts (upS t)), B true] := by
  unfold parentsX
  rw [h.fill]
  simp only [h.one, Bool.not_false, Bool.or_true]
theorem parentsGood_ok {t : List Al.Node} (ht : okTree t) (h : Good t) : SPure prog 22 [aTree t] (.tup [.d (dInts (upS t)), B true]) := h.parents ▸ parents_ok t ht h.inside
theorem checkGood_ok {t : List Al.Node} (ht : okTree t) (h : checkS t = true) : SPure prog 18 [aTree t] (I 0) := by
  have := check_ok t ht
  rwa [h] at this
theorem checkBad_ok {t : List Al.Node} (ht : okTree t) (h : checkS t = false) : SPure prog 18 [aTree t] (I 3) := by
  have := check_ok t ht
  rwa [h] at this
theorem Parents_ok (t : List Al.Node) (ht : okTree t) : SPure prog 11 [aTree t] (if checkS t then .tup [.d (dInts (upS t)), I 0] else .tup [.d (.con (.slice none 0 0)), I 3]) := by
  cases hc : checkS t with
  | false =>
    refine .run ttab_ok func11 rfl (by kernel_rfl) (by simp [f11]) rfl ?_
    conv => whnf
    repeat' first
      | (intro h; exfalso; revert h; simp; done)
      | (intro _; conv => whnf)
      | (apply And.intro <;> (conv => whnf))
      | (refine AllRow.of rfl ?_; conv => whnf)
      | (apply AllRow.map; intro _ _; conv => whnf)
      | (refine CallG.con call18 rfl (checkBad_ok ht hc) ?_; conv => whnf)
      | (refine CallQG.con call18 rfl (checkBad_ok ht hc) ?_; conv => whnf)
      | exact ⟨rfl⟩
      | fail
    all_goals exact ⟨rfl⟩
  | true =>
    have hg := good_of hc
    refine .run ttab_ok func11 rfl (by kernel_rfl) (by simp [f11]) rfl ?_
    conv => whnf
    repeat' first
      | (intro h; exfalso; revert h; simp; done)
      | (intro _; conv => whnf)
      | (apply And.intro <;> (conv => whnf))
      | (refine AllRow.of rfl ?_; conv => whnf)
      | (apply AllRow.map; intro _ _; conv => whnf)
      | (refine CallG.con call18 rfl (checkGood_ok ht hc) ?_; conv => whnf)
      | (refine CallQG.con call18 rfl (checkGood_ok ht hc) ?_; conv => whnf)
      | (refine CallG.eq call22 rfl (parentsGood_ok ht hg) ?_; conv => whnf)
      | exact ⟨rfl⟩
      | fail
    all_goals exact ⟨rfl⟩
theorem deepGood {t : List Al.Node} (ht : okTree t) (h : Good t) : SPure prog 25 [.d (dInts (upS t))] (.d (dInts (depTo (upS t) (upS t).length))) ∧ SPure prog 24 [.d (dInts (depTo (upS t) (upS t).length))] (I (maxS (depTo (upS t) (upS t).length))) := by
  have hl := ht.len
  obtain ⟨h1, h2⟩ := h.up
  have h3 := depTo_length (upS t) (upS t).length
  have h4 := h.len
  refine ⟨depths_ok _ (by omega) fun i u hu => ?_, max_ok _ (by omega) fun e => ?_⟩
  · have := h2 u (List.mem_of_getElem? hu)
    omega
  · rw [e] at h3
    simp at h3
    omega
theorem Depth_ok (t : List Al.Node) (ht : okTree t) : SPure prog 17 [aTree t] (if checkS t then .tup [I (maxS (depTo (upS t) (upS t).length)), I 0] else .tup [I 0, I 3]) := by
  cases hc : checkS t with
  | false =>
    refine .run ttab_ok func17 rfl (by kernel_rfl) (by simp [f17]) rfl ?_
    conv => whnf
    repeat' first
      | (intro h; exfalso; revert h; simp; done)
      | (intro _; conv => whnf)
      | (apply And.intro <;> (conv => whnf))
      | (refine AllRow.of rfl ?_; conv => whnf)
      | (apply AllRow.map; intro _ _; conv => whnf)
      | (refine CallG.con call18 rfl (checkBad_ok ht hc) ?_; conv => whnf)
      | (refine CallQG.con call18 rfl (checkBad_ok ht hc) ?_; conv => whnf)
      | exact ⟨rfl⟩
      | fail
    all_goals exact ⟨rfl⟩
  | true =>
    have hg := good_of hc
    have hd := deepGood ht hg
    refine .run ttab_ok func17 rfl (by kernel_rfl) (by simp [f17]) rfl ?_
    conv => whnf
    repeat' first
      | (intro h; exfalso; revert h; simp; done)
      | (intro _; conv => whnf)
      | (apply And.intro <;> (conv => whnf))
      | (refine AllRow.of rfl ?_; conv => whnf)
      | (apply AllRow.map; intro _ _; conv => whnf)
      | (refine CallG.con call18 rfl (checkGood_ok ht hc) ?_; conv => whnf)
      | (refine CallQG.con call18 rfl (checkGood_ok ht hc) ?_; conv => whnf)
      | (refine CallG.eq call22 rfl (parentsGood_ok ht hg) ?_; conv => whnf)
      | (refine CallG.eq call25 rfl (hd.1) ?_; conv => whnf)
      | (refine CallG.con call24 rfl (hd.2) ?_; conv => whnf)
      | (refine CallQG.con call24 rfl (hd.2) ?_; conv => whnf)
      | exact ⟨rfl⟩
      | fail
    all_goals exact ⟨rfl⟩
theorem ints_ok (a b : List Int) (ha : a.length ≤ 140737488355328) : SPure prog 23 [.d (dInts a), .d (dInts b)] (B (decide (a = b))) := by
  refine .run ttab_ok func23 rfl (by kernel_rfl) (by simp [f23]) rfl ?_
  conv => whnf
  repeat' first
    | (intro _; conv => whnf)
    | (apply And.intro <;> (conv => whnf))
    | (refine AllRow.of rfl ?_; conv => whnf)
    | (apply AllRow.map; intro _ _; conv => whnf)
    | exact ⟨rfl⟩
    | fail
  · rename_i h
    refine Side.mk ?_
    have hne : ¬ a = b := by
      rintro rfl
      simp at h
    simp [B, dB, hne]
  · rename_i h
    have hlen : a.length = b.length := by simp at h; omega
    refine LoopG.of ttab_ok [0, 1, 12, 13] [] (fun (i : Nat) => ⟨[(0, .d (dInts a)), (1, .d (dInts b)), (12, I a.length), (13, I i)], []⟩) (fun i => i ≤ a.length ∧ a.take i = b.take i) (fun i => a.length - i) 0 (by kernel_rfl) .nil (by simp) (by simp) ?hs ⟨by omega, by simp⟩ ?_
    case hs =>
      first
        | (simp only [keepSt, keepE, Al.look, envOf, lend, ren, renL, renR, posOf, List.map_cons, List.map_nil]; done)
        | (simp only [keepSt, keepE, Al.look, envOf, lend, ren, renL, renR, posOf, List.map_cons, List.map_nil]; simp [I, S, B, U8, dI, dS, dB, dU8, dInts, dStrs, dNodes, ren, renL, renR, posOf, Al.look, envOf])
        | (simp [keepSt, keepE, lend, I, S, B, U8, dI, dS, dB, dU8, dInts, dStrs, dNodes, ren, renL, renR, posOf, Al.look, envOf])
    intro i hJ
    obtain ⟨hi, ht⟩ := hJ
    conv => whnf
    repeat' first
      | (intro _; conv => whnf)
      | (apply And.intro <;> (conv => whnf))
      | (refine AllRow.of rfl ?_; conv => whnf)
      | (apply AllRow.map; intro _ _; conv => whnf)
      | exact ⟨rfl⟩
      | fail
    all_goals try simp only [Int.toNat_natCast] at *
    · exact ⟨by simp; omega⟩
    · exact ⟨by simp; omega⟩
    · rename_i x hx y hy hne
      refine ⟨?_⟩
      have : ¬ a = b := by
        rintro rfl
        rw [hx] at hy
        cases hy
        exact hne rfl
      simp [B, dB, this]
    · exact ⟨by omega⟩
    · rename_i x hx y hy hne
      have hxy : x = y := by simpa using hne
      refine RoundG.mk' (i + 1) (by simp) ?_ (by omega) ⟨by omega, ?_⟩
      ·
        first
          | (simp only [keepSt, keepE, Al.look, envOf, lend, ren, renL, renR, posOf, List.map_cons, List.map_nil]; done)
          | (simp only [keepSt, keepE, Al.look, envOf, lend, ren, renL, renR, posOf, List.map_cons, List.map_nil]; simp [I, S, B, U8, dI, dS, dB, dU8, dInts, dStrs, dNodes, ren, renL, renR, posOf, Al.look, envOf])
          | (simp [keepSt, keepE, lend, I, S, B, U8, dI, dS, dB, dU8, dInts, dStrs, dNodes, ren, renL, renR, posOf, Al.look, envOf])
      · rw [List.take_add_one, List.take_add_one, ht, hx, hy, hxy]
    · rename_i hge
      refine ⟨?_⟩
      have : a = b := by
        rw [List.take_of_length_le (by omega), List.take_of_length_le (by omega)] at ht
        exact ht
      simp [B, dB, this]
end Go.Proofs.Tryd

