/- Al: structs built, rows built, slices made, function values. -/
import Derived.Test.YtobcdpmjaeflmaaGreatDoorAlMake
import Derived.Laws.Tables
import Derived.Laws.MakeOwn
set_option linter.unusedVariables false
set_option linter.unusedSimpArgs false
namespace Go.Al
variable {P : Program} {n : Nat} {p : Nat → Prop} {st : St} {dst : Option Tmp} {ty : TypeId} {pos : String} {after : Array Edge} {gu : Option (Nat × Bool)}

/-- Cells laid over others. -/
def splice {α : Type} (cs : List α) (off : Nat) (new : List α) : List α := cs.take off ++ new ++ cs.drop (off + new.length)

theorem splice_get {α : Type} (cs : List α) (off : Nat) (new : List α) (h : off + new.length ≤ cs.length) (k : Nat) :
    (splice cs off new)[k]? = if off ≤ k ∧ k < off + new.length then new[k - off]? else cs[k]? := by
  have h1 : (cs.take off).length = off := by simp; omega
  unfold splice
  rw [List.append_assoc]
  by_cases ha : k < off
  · rw [List.getElem?_append_left (by omega), if_neg (by omega)]
    simp [ha]
  · rw [List.getElem?_append_right (by omega), h1]
    by_cases hb : k < off + new.length
    · rw [List.getElem?_append_left (by omega), if_pos (by omega)]
    · rw [List.getElem?_append_right (by omega), if_neg (by omega), List.getElem?_drop]
      congr 1; omega

theorem splice_length {α : Type} (cs : List α) (off : Nat) (new : List α) (h : off + new.length ≤ cs.length) : (splice cs off new).length = cs.length := by
  simp [splice]; omega

def fillA (place : Nat → Option (Nat × Nat)) (cells : List AV) : List (Nat × AV) → Option (List AV)
  | [] => some cells
  | (i, v) :: rest => (place i).bind fun pl => (cellsA v).bind fun cs =>
    if cs.length = pl.2 ∧ pl.1 + cs.length ≤ cells.length then fillA place (splice cells pl.1 cs) rest else none

/-- Cells that are told of by others. -/
def RelC (M : Mem) (β : Where) (cs : List AV) (vs : Array Value) : Prop := cs.length = vs.size ∧ ∀ (i : Nat) c x, cs[i]? = some c → vs[i]? = some x → RelV M β c x

theorem foldl_cells (new : List Value) (off : Nat) : ∀ (k : Nat) (cs : Array Value) (j : Nat),
    ((new.zipIdx k).foldl (fun cs (x : Value × Nat) => cs.setIfInBounds (off + x.2) x.1) cs)[j]? =
      if off + k ≤ j ∧ j < off + k + new.length ∧ j < cs.size then new[j - (off + k)]? else cs[j]? := by
  induction new with
  | nil => intro k cs j; simp; omega
  | cons v new ih =>
    intro k cs j
    simp only [List.zipIdx_cons, List.foldl_cons, List.length_cons]
    rw [ih (k + 1)]
    simp only [Array.size_setIfInBounds, Array.getElem?_setIfInBounds]
    by_cases h0 : j = off + k
    · subst h0
      rw [if_neg (by omega), if_pos rfl]
      by_cases hs : off + k < cs.size
      · rw [if_pos hs, if_pos (by omega)]; simp
      · rw [if_neg hs, if_neg (by omega)]
        simp; omega
    · by_cases h1 : off + (k + 1) ≤ j ∧ j < off + (k + 1) + new.length ∧ j < cs.size
      · rw [if_pos h1, if_pos (by omega)]
        rw [show j - (off + k) = (j - (off + (k + 1))) + 1 from by omega, List.getElem?_cons_succ]
      · rw [if_neg h1, if_neg (Ne.symm h0), if_neg (by omega)]

theorem size_foldl (new : List Value) (off : Nat) : ∀ (k : Nat) (cs : Array Value),
    ((new.zipIdx k).foldl (fun cs (x : Value × Nat) => cs.setIfInBounds (off + x.2) x.1) cs).size = cs.size := by
  induction new with
  | nil => intro k cs; rfl
  | cons v new ih => intro k cs; simp only [List.zipIdx_cons, List.foldl_cons]; rw [ih]; simp

theorem fill_rel {M : Mem} {β : Where} (place : Nat → Option (Nat × Nat)) : ∀ (parts : List (Nat × AV)) (vals : List (Nat × Value)) (cells : List AV) (vs : Array Value) (out : List AV),
    RelC M β cells vs → parts.length = vals.length → (∀ (k : Nat) x y, parts[k]? = some x → vals[k]? = some y → x.1 = y.1 ∧ RelV M β x.2 y.2) →
    fillA place cells parts = some out → ∃ us, Instr.fill place vs vals = some us ∧ RelC M β out us
  | [], [], cells, vs, out, hc, _, _, h => by
    simp only [fillA, Option.some.injEq] at h
    subst h
    exact ⟨vs, rfl, hc⟩
  | [], _ :: _, _, _, _, _, hl, _, _ => by simp at hl
  | _ :: _, [], _, _, _, _, hl, _, _ => by simp at hl
  | (i, a) :: parts, (j, v) :: vals, cells, vs, out, hc, hl, hr, h => by
    have h0 := hr 0 _ _ rfl rfl
    simp only at h0
    obtain ⟨rfl, ha⟩ := h0
    simp only [fillA, Option.bind_eq_some_iff] at h
    obtain ⟨⟨off, size⟩, hpl, cs, hcs, h⟩ := h
    split at h
    case isFalse => simp at h
    rename_i hcond
    simp only at hcond
    obtain ⟨hsz, hle⟩ := hcond
    obtain ⟨hlen, hR⟩ := cellsA_rel ha hcs
    have hfold : ∀ k : Nat, (v.cells.zipIdx.foldl (fun cs (x : Value × Nat) => cs.setIfInBounds (off + x.2) x.1) vs)[k]? = if off ≤ k ∧ k < off + v.cells.size ∧ k < vs.size then v.cells[k - off]? else vs[k]? := by
      intro k
      have := foldl_cells v.cells.toList off 0 vs k
      simp only [Nat.add_zero, Array.length_toList, Array.getElem?_toList] at this
      rw [← this, ← Array.foldl_toList]
      simp
    have hsize : (v.cells.zipIdx.foldl (fun cs (x : Value × Nat) => cs.setIfInBounds (off + x.2) x.1) vs).size = vs.size := by
      have := size_foldl v.cells.toList off 0 vs
      rw [← this, ← Array.foldl_toList]
      simp
    have hc' : RelC M β (splice cells off cs) (v.cells.zipIdx.foldl (fun cs (x : Value × Nat) => cs.setIfInBounds (off + x.2) x.1) vs) := by
      refine ⟨by rw [splice_length _ _ _ (by simpa using hle), hsize]; exact hc.1, ?_⟩
      intro k c x h1 h2
      rw [splice_get _ _ _ (by simpa using hle)] at h1
      rw [hfold] at h2
      have e0 := hc.1
      by_cases hk : off ≤ k ∧ k < off + cs.length
      · rw [if_pos hk] at h1
        rw [if_pos (by omega)] at h2
        exact hR _ c x h1 h2
      · rw [if_neg hk] at h1
        rw [if_neg (by omega)] at h2
        exact hc.2 k c x h1 h2
    obtain ⟨us, hus, hou⟩ := fill_rel place parts vals _ _ out hc' (by simpa using hl) (fun k x y hx hy => hr (k + 1) x y hx hy) h
    refine ⟨us, ?_, hou⟩
    simp only [Instr.fill, hpl]
    rw [if_neg]
    · exact hus
    · have e0 := hc.1
      simp only [bne_iff_ne, ne_eq, gt_iff_lt, Bool.or_eq_true, decide_eq_true_eq, not_or, Decidable.not_not, Nat.not_lt]
      omega

/-- A struct out of its parts, the others zero. -/
def buildA (P : Program) (T : TypeId) (parts : List (Nat × AV)) : Option (List AV) :=
  match P.underlying T with
  | some (.struct fs) => (fs.toList.mapM fun f => (P.info? f.type).map fun i => (f.offset, i.size)).bind fun places =>
    (zeroOf P T).bind fun z => (cellsA (.d (.con z))).bind fun cs => fillA (places.toArray[·]?) cs parts
  | _ => none

theorem OpP.build {T : TypeId} {parts : Array (Nat × Operand)} {K : AV → Prop} (cs : List AV) (hb : buildA P T (parts.toList.map fun x => (x.1, ev st x.2)) = some cs) (h : K (.agg cs)) :
    OpP P n ⟨dst, .build T parts, ty, pos, after, gu⟩ st K := by
  intro M β a w hrel
  unfold buildA at hb
  split at hb
  case h_2 => simp at hb
  rename_i fs hfs
  simp only [Option.bind_eq_some_iff] at hb
  obtain ⟨places, hpl, z, hz, zc, hzc, hfill⟩ := hb
  have hzr := cellsA_rel (M := M) (β := β) (.d _ _ (.con z)) hzc
  obtain ⟨us, hus, hrel'⟩ := fill_rel (M := M) (β := β) (places.toArray[·]?) _ (parts.toList.map fun x => (x.1, a.eval x.2)) zc z.cells cs ⟨hzr.1, hzr.2⟩ (by simp) (by
    intro k x y hx hy
    simp only [List.getElem?_map, Option.map_eq_some_iff] at hx hy
    obtain ⟨q, hq, rfl⟩ := hx
    obtain ⟨q', hq', rfl⟩ := hy
    rw [hq] at hq'
    cases hq'
    exact ⟨rfl, ev_rel hrel q.2⟩) hfill
  refine ⟨.agg us, _, h, .agg cs us hrel'.1 hrel'.2, .of fun w' _ => ?_⟩
  have hbuilt : P.built T (parts.map fun (x : Nat × Operand) => (x.1, a.eval x.2)).toList = some us := by
    unfold zeroOf at hz
    simp only [Option.bind_eq_some_iff] at hz
    obtain ⟨i, hi, hz⟩ := hz
    unfold Program.built
    simp only [hi, hfs, hz, hpl]
    simpa using hus
  have hrun := run_build (P := P) w' T (parts.map fun (x : Nat × Operand) => (x.1, a.eval x.2)) us hbuilt
  simp only [execOp, Sem.run_bind]
  rw [hrun]
  rfl

theorem OpP.makeFunc {f : FuncId} {captured : Array Operand} {K : AV → Prop} (h : K (.fn f (captured.toList.map (ev st)))) :
    OpP P n ⟨dst, .makeFunc (.func f) #[] captured, ty, pos, after, gu⟩ st K := by
  intro M β a w hrel
  refine ⟨.func (.func f) #[] (captured.map a.eval), _, h, .fn f _ _ (by simp) ?_, .of fun w' _ => by simp [execOp, Instr.makeFunc]⟩
  intro i c x h1 h2
  simp only [List.getElem?_map, Option.map_eq_some_iff, Array.getElem?_toList, Array.getElem?_map] at h1 h2
  obtain ⟨q, hq, rfl⟩ := h1
  obtain ⟨q', hq', rfl⟩ := h2
  rw [hq] at hq'
  cases hq'
  exact ev_rel hrel q

end Go.Al
