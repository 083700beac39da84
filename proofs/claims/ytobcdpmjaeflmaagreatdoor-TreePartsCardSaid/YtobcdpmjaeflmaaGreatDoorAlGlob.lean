/- Al: what is known of the package-level variables that the walks come to (this seat's). -/
import Derived.Test.YtobcdpmjaeflmaaGreatDoorProg
import Derived.Lib.LaidTab
import Derived.Lib.ItoaNum
import Derived.KernelRfl
set_option linter.unusedVariables false
set_option linter.unusedSimpArgs false
namespace Go.Al
def globs : List Nat := [0, 1]
/-- The largest length of the fast search is a number; the powers of ten. -/
structure GlobW (w : World) : Prop where
  maxLen : ∃ m, w.cell? ⟨0, 0, none⟩ = some (.int .i64 m)
  pow10 : Lib.TabIs Go.Proofs.Tryz.prog w "internal/strconv.uint64pow10" .u64 Lib.pow10Tab
theorem GlobW.of_heap {w w' : World} (h : GlobW w) (he : ∀ g, g ∈ globs → w'.heap[g]? = w.heap[g]?) : GlobW w' where
  maxLen := by
    have := h.maxLen
    unfold World.cell? at *
    rwa [he 0 (by simp [globs])]
  pow10 := by
    have := h.pow10
    unfold Lib.TabIs World.var? at *
    rw [show Go.Proofs.Tryz.prog.globalNamed "internal/strconv.uint64pow10" = some 1 by kernel_rfl] at *
    simp only [Option.bind_some] at *
    rwa [he 1 (by simp [globs])]
end Go.Al
