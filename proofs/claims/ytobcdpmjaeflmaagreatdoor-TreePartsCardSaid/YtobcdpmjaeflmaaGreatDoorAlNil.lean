/- Al: a nil slice in a cell of a box, as an array of the call's own. -/
import Derived.Test.YtobcdpmjaeflmaaGreatDoorAlRun
set_option linter.unusedVariables false
set_option linter.unusedSimpArgs false
namespace Go.Al
variable {P : Program} {n : Nat} {p : Nat → Prop} {Q : Exit → St → Prop} {st : St}

theorem Side.mix {ops : Array Oper} {m n : Nat} (h : mixB ops m n = true) : Side (mixB ops m n = true) := ⟨h⟩
theorem RelR.boxSet {M : Mem} {β : Where} {w : World} {s : Slot} {cs : List AV} {c : Nat} {x y : AV} (h : RelR M β w s (.box cs)) (hc : cs[c]? = some x) (hxy : ∀ v, RelV M β x v → RelV M β y v) : RelR M β w s (.box (cs.set c y)) := by
  cases h with
  | box b _ vals T hw hlen hM hR =>
    have e : cs.length = (cs.set c y).length := by simp
    rw [e]
    refine .box b _ vals T hw (by simpa using hlen) hM ?_
    intro i z v h1 h2
    rw [List.getElem?_set] at h1
    split at h1
    · rename_i hi
      subst hi
      split at h1
      · cases h1
        exact hxy v (hR _ x v hc h2)
      · cases h1
    · exact hR i z v h1 h2

theorem Holds.setRoot {M : Mem} {β : Where} {roots : List Root} {w : World} {r : Nat} {x : Root} (h : Holds M β roots w) (hx : RelR M β w (β r) x) : Holds M β (roots.set r x) w := by
  refine ⟨h.frozen, ?_, h.inj, h.low, fun q hq => by simpa using h.scope q hq, h.glob⟩
  intro q y hy
  rw [List.getElem?_set] at hy
  split at hy
  · rename_i e
    subst e
    split at hy
    · cases hy; exact hx
    · cases hy
  · exact h.root q y hy

/-- A nil slice in a cell of a box, as an array without memory. -/
theorem Weak.openBox (r c sz : Nat) (cs : List AV) (hr : st.roots[r]? = some (.box cs)) (hc : cs[c]? = some (.d (.con (.slice none 0 0)))) :
    Weak p st ⟨st.env, st.roots.set r (.box (cs.set c (.vs st.roots.length 0 0))) ++ [.arr sz [] 0]⟩ := by
  intro n M β a w h
  have hlt : r < st.roots.length := (List.getElem?_eq_some_iff.1 hr).1
  have hsame := addW_same h.holds Slot.virt
  have hadd := h.holds.add (Ext.refl w) .virt (.arr sz [] 0) (by intro l hl; cases hl) (.virt sz 0)
  have hroot := hadd.root r (.box cs) (by rw [List.getElem?_append_left hlt]; exact hr)
  have hnew := hroot.boxSet (y := .vs st.roots.length 0 0) hc (fun v hv => by
    rw [hv.con_eq]
    exact .vsV _ none (by simp [addW]))
  have hset := hadd.setRoot hnew
  rw [List.set_append_left _ _ hlt] at hset
  refine ⟨M, _, ⟨h.size, h.defers, fun u => ?_, hset⟩, Later.add h.holds (Ext.refl w) .virt (by intro l hl; cases hl) (fun _ _ _ h => h) (fun _ _ _ => rfl)⟩
  exact (h.env u).mono (fun _ _ _ h => h) hsame
theorem Weak.openBox' {st' : St} (r c sz : Nat) (cs : List AV) (hr : st.roots[r]? = some (.box cs)) (hc : cs[c]? = some (.d (.con (.slice none 0 0))))
    (he : st' = ⟨st.env, st.roots.set r (.box (cs.set c (.vs st.roots.length 0 0))) ++ [.arr sz [] 0]⟩) : Weak p st st' := he ▸ Weak.openBox r c sz cs hr hc
end Go.Al
