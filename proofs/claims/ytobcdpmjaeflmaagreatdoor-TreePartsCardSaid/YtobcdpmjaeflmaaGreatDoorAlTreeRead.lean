/- The trees' data: how arguments of these types read. -/
import Derived.Test.YtobcdpmjaeflmaaGreatDoorAlTree
import Derived.Test.YtobcdpmjaeflmaaGreatDoorAlRow
set_option linter.unusedVariables false
set_option linter.unusedSimpArgs false
namespace Go.Al

def tNode : Ty := .struct [.int .i64, .str, .int .i64, .slice (.int .i64) 8, .int .i64, .int .i64]
def tTree : Ty := .struct [.slice tNode 72]
/-- A number that fits. -/
def okI (n : Int) : Prop := -9223372036854775808 ≤ n ∧ n ≤ 9223372036854775807
structure okNode (x : Node) : Prop where
  kind : okI x.kind
  name : x.name.length ≤ 140737488351232
  num : okI x.num
  len : x.kids.length ≤ 17592186043904
  kids : ∀ k, k ∈ x.kids → okI k
  frm : okI x.frm
  to : okI x.to
structure okTree (l : List Node) : Prop where
  len : l.length ≤ 1954687338211
  node : ∀ x, x ∈ l → okNode x

theorem int_read {x : Dat} (h : okD (.int .i64) x) : ∃ n, x = .int .i64 n ∧ okI n := by
  cases x with
  | int k n =>
    obtain ⟨rfl, h1, h2⟩ := h
    exact ⟨n, rfl, h1, h2⟩
  | _ => exact h.elim
theorem str_read {x : Dat} (h : okD .str x) : ∃ s, x = .str (ba s) ∧ s.length ≤ 140737488351232 := by
  cases x with
  | str s => exact ⟨s.data.toList, rfl, h⟩
  | _ => exact h.elim
theorem ints_read : ∀ {l : List Dat}, okAll (.int .i64) l → ∃ r : List Int, Dat.rows l = r.map rI ∧ l.length = r.length ∧ ∀ k, k ∈ r → okI k
  | [], _ => ⟨[], rfl, rfl, by simp⟩
  | x :: l, h => by
    obtain ⟨n, rfl, hn⟩ := int_read h.1
    obtain ⟨r, h1, h2, h3⟩ := ints_read h.2
    refine ⟨n :: r, by simp [Dat.rows, Dat.row, h1, rI, dI], by simp [h2], ?_⟩
    intro k hk
    rcases List.mem_cons.1 hk with rfl | hk
    · exact hn
    · exact h3 k hk
theorem list_read {e : Ty} {b : Nat} {x : Dat} (h : okD (.slice e b) x) : ∃ l, x = .list l ∧ l.length * b ≤ 140737488351232 ∧ okAll e l := by
  cases x with
  | list l => exact ⟨l, rfl, h.1, h.2⟩
  | _ => exact h.elim
theorem struct_read {ts : List Ty} {x : Dat} (h : okD (.struct ts) x) : ∃ l, x = .agg l ∧ okEach ts l := by
  cases x with
  | agg l => exact ⟨l, rfl, h⟩
  | _ => exact h.elim
theorem each_read {t : Ty} {ts : List Ty} {l : List Dat} (h : okEach (t :: ts) l) : ∃ x r, l = x :: r ∧ okD t x ∧ okEach ts r := by
  match l, h with
  | x :: r, h => exact ⟨x, r, rfl, h.1, h.2⟩
theorem nil_read {l : List Dat} (h : okEach [] l) : l = [] := by
  match l, h with
  | [], _ => rfl
theorem kids_read {x : Dat} (h : okD (.slice (.int .i64) 8) x) : ∃ r : List Int, x.row = [dInts r] ∧ r.length ≤ 17592186043904 ∧ ∀ k, k ∈ r → okI k := by
  obtain ⟨l, rfl, h1, h2⟩ := list_read h
  obtain ⟨r, e1, e2, e3⟩ := ints_read h2
  exact ⟨r, by simp [Dat.row, e1, dInts], by omega, e3⟩
theorem node_read {x : Dat} (h : okD tNode x) : ∃ n : Node, x.row = rNode n ∧ okNode n := by
  obtain ⟨l, rfl, h⟩ := struct_read h
  obtain ⟨x1, l, rfl, h1, h⟩ := each_read h
  obtain ⟨x2, l, rfl, h2, h⟩ := each_read h
  obtain ⟨x3, l, rfl, h3, h⟩ := each_read h
  obtain ⟨x4, l, rfl, h4, h⟩ := each_read h
  obtain ⟨x5, l, rfl, h5, h⟩ := each_read h
  obtain ⟨x6, l, rfl, h6, h⟩ := each_read h
  obtain rfl := nil_read h
  obtain ⟨n1, rfl, o1⟩ := int_read h1
  obtain ⟨n2, rfl, o2⟩ := str_read h2
  obtain ⟨n3, rfl, o3⟩ := int_read h3
  obtain ⟨n4, e4, o4, o4'⟩ := kids_read h4
  obtain ⟨n5, rfl, o5⟩ := int_read h5
  obtain ⟨n6, rfl, o6⟩ := int_read h6
  exact ⟨⟨n1, n2, n3, n4, n5, n6⟩, by simp [Dat.row, Dat.flat, e4, rNode, dI, dS], ⟨o1, o2, o3, o4, o4', o5, o6⟩⟩
theorem nodes_read : ∀ {l : List Dat}, okAll tNode l → ∃ r : List Node, Dat.rows l = r.map rNode ∧ l.length = r.length ∧ ∀ k, k ∈ r → okNode k
  | [], _ => ⟨[], rfl, rfl, by simp⟩
  | x :: l, h => by
    obtain ⟨n, e, hn⟩ := node_read h.1
    obtain ⟨r, h1, h2, h3⟩ := nodes_read h.2
    refine ⟨n :: r, by simp [Dat.rows, e, h1], by simp [h2], ?_⟩
    intro k hk
    rcases List.mem_cons.1 hk with rfl | hk
    · exact hn
    · exact h3 k hk
theorem tree_read {x : Dat} (h : okD tTree x) : ∃ l : List Node, avOf tTree x = aTree l ∧ okTree l := by
  obtain ⟨l, rfl, h⟩ := struct_read h
  obtain ⟨x1, l, rfl, h1, h⟩ := each_read h
  obtain rfl := nil_read h
  obtain ⟨l, rfl, o1, o2⟩ := list_read h1
  obtain ⟨r, e1, e2, e3⟩ := nodes_read o2
  exact ⟨r, by simp [tTree, avOf, Dat.row, Dat.flat, e1, aTree, dNodes], ⟨by omega, e3⟩⟩
end Go.Al
