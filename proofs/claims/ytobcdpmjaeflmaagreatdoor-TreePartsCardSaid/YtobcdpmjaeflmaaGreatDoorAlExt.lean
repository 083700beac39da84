/- Al: contracts of the library as contracts of this logic. -/
import Derived.Test.YtobcdpmjaeflmaaGreatDoorAlEval2
import Derived.Below
import Derived.Lib.Join
import Derived.Lib.Bytealg
import Derived.Lib.IndexMore
set_option linter.unusedVariables false
set_option linter.unusedSimpArgs false
namespace Go.Al
open Go.RowKit
variable {P : Program}

/-- A contract over worlds as one of this logic. -/
theorem SPure.of_calls {f : FuncId} {args : List AV} {X : AV} (h : ∀ M β vs w, RelC M β args vs → Holds M β [] w → Calls P f vs w fun e w' => ∃ v, e = .returned v ∧ RelV M β X v ∧ Ext w w') : SPure P f args X := by
  intro M β vs w hv hh
  refine (h M β vs w hv hh).mono ?_
  rintro e w' ⟨v, rfl, hx, he⟩
  exact ⟨v, X, [], M, β, rfl, ⟨rfl, rfl⟩, hx, hh.ext he, Later.ext he⟩
theorem Ext.of_below {w w' : World} (h : Below w.heap.size w w') : Ext w w' := ⟨h.size, h.block, h.os, h.tape, h.output⟩

def textsOf : List (List D) → Option (List ByteArray)
  | [] => some []
  | [.con (.string s)] :: r => (textsOf r).map (s :: ·)
  | _ => none
theorem textsOf_eq : ∀ {rows : List (List D)} {xs : List ByteArray}, textsOf rows = some xs → rows = xs.map fun s => [.con (.string s)]
  | [], xs, h => by simp [textsOf] at h; subst h; rfl
  | row :: r, xs, h => by
    unfold textsOf at h
    split at h <;> try (cases h; done)
    · rename_i hh; cases hh
    · rename_i s r' hh
      cases hh
      obtain ⟨ys, hys, rfl⟩ := Option.map_eq_some_iff.1 h
      rw [textsOf_eq hys]
      rfl

/-- strings.Join. -/
theorem join_pure {f : FuncId} (hnone : ∀ (a : Option Addr) (c : Nat) (sep : ByteArray) (w : World), Calls P f #[.slice a 0 c, .string sep] w fun e w' => e = .returned (.string ⟨#[]⟩) ∧ w' = w)
    (hjoin : ∀ (bk o c : Nat) (xs : List ByteArray) (sep : ByteArray) (w : World), (∀ (j : Nat) x, xs[j]? = some x → w.cell? ⟨bk, o + j, none⟩ = some (.string x)) → bk < w.heap.size → xs.length ≤ 140737488355328 → xs.length ≤ c →
      (Lib.join (xs.map (·.data.toList)) sep.data.toList).length ≤ 140737488355328 →
      Calls P f #[.slice (some ⟨bk, o, none⟩) xs.length c, .string sep] w fun e w' => e = .returned (.string ⟨(Lib.join (xs.map (·.data.toList)) sep.data.toList).toArray⟩) ∧ Below w.heap.size w w')
    (xs : List ByteArray) (sep : ByteArray) (hN : xs.length ≤ 140737488355328) (hlen : (Lib.join (xs.map (·.data.toList)) sep.data.toList).length ≤ 140737488355328) :
    SPure P f [.d (.sl (xs.map fun s => [.con (.string s)])), .d (.con (.string sep))] (.d (.con (.string ⟨(Lib.join (xs.map (·.data.toList)) sep.data.toList).toArray⟩))) := by
  refine .of_calls fun M β vs w hv hh => ?_
  obtain ⟨hl, hR⟩ := hv
  match vs, hl with
  | ⟨[v0, v1]⟩, _ =>
    have h0 := hR 0 _ v0 rfl rfl
    have h1 := hR 1 _ v1 rfl rfl
    cases h1 with
    | d _ _ h1 =>
    cases h1
    cases h0 with
    | d _ _ h0 =>
    generalize hrows : xs.map (fun s => [D.con (.string s)]) = rows at h0
    cases h0 with
    | sl _ a len cap b o g hlen2 hcap ha hM hR' =>
    have hlx : rows.length = xs.length := by rw [← hrows]; simp
    match xs, hrows, hlx, hN, hlen with
    | [], _, hlx, _, _ =>
      have : len = 0 := by rw [hlen2, hlx]; rfl
      subst this
      refine (hnone a cap sep w).mono ?_
      rintro e w' ⟨rfl, rfl⟩
      exact ⟨_, rfl, .d _ _ (.con _), Ext.refl w'⟩
    | y :: ys, hrows, hlx, hN, hlen' =>
      have hne : rows ≠ [] := by rw [← hrows]; simp
      have hcell : ∀ (j : Nat) x, (y :: ys)[j]? = some x → w.cell? ⟨b, o + j, none⟩ = some (.string x) := by
        intro j x hx
        have hrow : rows[j]? = some [.con (.string x)] := by
          rw [← hrows, List.getElem?_map, hx]; rfl
        have e1 := hM j _ 0 _ hrow rfl
        have e2 := hR' j _ 0 _ hrow rfl
        have e3 := hh.frozen _ _ _ e1
        have e4 : g j 0 = .string x := by
          generalize g j 0 = u at e2
          cases e2; rfl
        rw [e4] at e3
        simpa using e3
      have hb : b < w.heap.size := World.block_lt_of_cell? w _ (hcell 0 y rfl)
      have e1 := ha hne
      subst e1
      have e2 : len = (y :: ys).length := by rw [hlen2, hlx]
      subst e2
      refine (hjoin b o cap (y :: ys) sep w hcell hb hN hcap hlen').mono ?_
      rintro e w' ⟨rfl, hbl⟩
      exact ⟨_, rfl, .d _ _ (.con _), Ext.of_below hbl⟩
def extJoin (args : List AV) : Option Value := match args with
  | [.d (.sl rows), .d (.con (.string sep))] => (textsOf rows).bind fun xs => match Lib.join (xs.map (·.data.toList)) sep.data.toList with
    | l => if xs.length ≤ 140737488355328 ∧ l.length ≤ 140737488355328 then some (.string ⟨l.toArray⟩) else none
  | _ => none
theorem extJoin_ok {f : FuncId} (hnone : ∀ (a : Option Addr) (c : Nat) (sep : ByteArray) (w : World), Calls P f #[.slice a 0 c, .string sep] w fun e w' => e = .returned (.string ⟨#[]⟩) ∧ w' = w)
    (hjoin : ∀ (bk o c : Nat) (xs : List ByteArray) (sep : ByteArray) (w : World), (∀ (j : Nat) x, xs[j]? = some x → w.cell? ⟨bk, o + j, none⟩ = some (.string x)) → bk < w.heap.size → xs.length ≤ 140737488355328 → xs.length ≤ c →
      (Lib.join (xs.map (·.data.toList)) sep.data.toList).length ≤ 140737488355328 →
      Calls P f #[.slice (some ⟨bk, o, none⟩) xs.length c, .string sep] w fun e w' => e = .returned (.string ⟨(Lib.join (xs.map (·.data.toList)) sep.data.toList).toArray⟩) ∧ Below w.heap.size w w')
    {args : List AV} {c : Value} (h : extJoin args = some c) : SPure P f args (.d (.con c)) := by
  unfold extJoin at h
  split at h <;> try (cases h; done)
  obtain ⟨xs, hxs, h⟩ := Option.bind_eq_some_iff.1 h
  dsimp only at h
  split at h <;> try (cases h; done)
  rename_i hc
  cases h
  rw [textsOf_eq hxs]
  exact join_pure hnone hjoin xs _ hc.1 hc.2
/-- strings.IndexByte. -/
theorem indexByte_pure {f : FuncId} (h : ∀ (s : ByteArray) (c : Int) (w : World), Calls P f #[.string s, .int .u8 c] w fun e w' => e = .returned (.int .i64 (Lib.indexByte s.data.toList c.toNat.toUInt8)) ∧ w' = w) (s : ByteArray) (c : Int) :
    SPure P f [.d (.con (.string s)), .d (.con (.int .u8 c))] (.d (.con (.int .i64 (Lib.indexByte s.data.toList c.toNat.toUInt8)))) := by
  refine .of_calls fun M β vs w hv hh => ?_
  obtain ⟨hl, hR⟩ := hv
  match vs, hl with
  | ⟨[v0, v1]⟩, _ =>
    have h0 := hR 0 _ v0 rfl rfl
    have h1 := hR 1 _ v1 rfl rfl
    rw [h0.con_eq, h1.con_eq]
    refine (h s c w).mono ?_
    rintro e w' ⟨rfl, rfl⟩
    exact ⟨_, rfl, .d _ _ (.con _), Ext.refl w'⟩
def extIndexByte (args : List AV) : Option Value := match args with
  | [.d (.con (.string s)), .d (.con (.int .u8 c))] => some (.int .i64 (Lib.indexByte s.data.toList c.toNat.toUInt8))
  | _ => none
theorem extIndexByte_ok {f : FuncId} (h : ∀ (s : ByteArray) (c : Int) (w : World), Calls P f #[.string s, .int .u8 c] w fun e w' => e = .returned (.int .i64 (Lib.indexByte s.data.toList c.toNat.toUInt8)) ∧ w' = w)
    {args : List AV} {c : Value} (he : extIndexByte args = some c) : SPure P f args (.d (.con c)) := by
  unfold extIndexByte at he
  split at he <;> try (cases he; done)
  cases he
  exact indexByte_pure h _ _
theorem Ext.of_drew {w : World} (n : Nat) : Ext w (w.drewN n) := ⟨Nat.le_refl _, fun _ _ => rfl, rfl, rfl, rfl⟩
/-- strings.Cut. -/
theorem cut_pure {f : FuncId} (h : ∀ (s sep : ByteArray) (m : Int) (w : World), s.size < 4294967281 → w.cell? ⟨0, 0, none⟩ = some (.int .i64 m) →
      Calls P f #[.string s, .string sep] w fun e w' => e = .returned (.tuple #[.string ⟨(Lib.cut s.data.toList sep.data.toList).1.toArray⟩, .string ⟨(Lib.cut s.data.toList sep.data.toList).2.1.toArray⟩, .bool (Lib.cut s.data.toList sep.data.toList).2.2]) ∧ ∃ n, w' = w.drewN n)
    (s sep : Bytes) (hs : s.length < 4294967281) : SPure P f [S s, S sep] (.tup [S (Lib.cut s sep).1, S (Lib.cut s sep).2.1, B (Lib.cut s sep).2.2]) := by
  refine .of_calls fun M β vs w hv hh => ?_
  obtain ⟨hl, hR⟩ := hv
  match vs, hl with
  | ⟨[v0, v1]⟩, _ =>
    have h0 := hR 0 _ v0 rfl rfl
    have h1 := hR 1 _ v1 rfl rfl
    rw [RelV.con_eq (show RelV M β (.d (.con (.string (ba s)))) v0 from h0), RelV.con_eq (show RelV M β (.d (.con (.string (ba sep)))) v1 from h1)]
    obtain ⟨m, hm⟩ := hh.glob.ok.maxLen
    refine (h (ba s) (ba sep) m w hs hm).mono ?_
    rintro e w' ⟨rfl, n, rfl⟩
    refine ⟨_, rfl, .tup _ _ rfl ?_, Ext.of_drew n⟩
    intro i c x h1 h2
    match i with
    | 0 => simp at h1 h2; subst h1; subst h2; exact .d _ _ (.con _)
    | 1 => simp at h1 h2; subst h1; subst h2; exact .d _ _ (.con _)
    | 2 => simp at h1 h2; subst h1; subst h2; exact .d _ _ (.con _)
    | i + 3 => simp at h1
theorem FunsOk.of {l : List Func} (hl : P.funcs.toList = l) (h : l.all (fun fn => match fn.body with
  | some c => codeOk fn.ntmps c && not (fn.name == "runtime.NumGoroutine")
  | none => true) = true) : FunsOk P l where
  get := fun f fn hf => by
    rw [lat_eq, ← hl, Array.getElem?_toList] at hf
    exact hf
  code := fun fn hm c hc => by
    have := List.all_eq_true.1 h fn hm
    rw [hc] at this
    simp only [Bool.and_eq_true] at this
    exact this.1
  name := fun fn hm hb => by
    obtain ⟨c, hc⟩ := Option.isSome_iff_exists.1 hb
    have := List.all_eq_true.1 h fn hm
    rw [hc] at this
    simp only [Bool.and_eq_true, Bool.not_eq_true'] at this
    exact this.2
end Go.Al
