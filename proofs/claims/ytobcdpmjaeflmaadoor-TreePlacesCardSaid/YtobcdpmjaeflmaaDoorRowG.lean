/- What every row of this seat's says first, as facts that the walks need. -/
import Derived.Test.YtobcdpmjaeflmaaDoorAl5
import Derived.Test.YtobcdpmjaeflmaaDoorRows
import Derived.Lib.LaidTab
import Derived.Lay
import Derived.LaidSub
import Derived.LaidLaws
import Derived.LaidHandle
import Derived.MakeChecks
import Derived.Shelf.Vars
set_option linter.unusedVariables false
set_option linter.unusedSimpArgs false
namespace Go.Proofs.YtobcdpmjaeflmaaDoor
open Go Go.Al Go.Lib

theorem own : ownKnob Tryd.prog.godebug = none := by kernel_rfl
def laid : List (String × DataW Unit) := [("math/bits.deBruijn32tab", Rows.laid_math_bits_deBruijn32tab), ("math/bits.deBruijn64tab", Rows.laid_math_bits_deBruijn64tab), ("internal/strconv.uint64pow10", Rows.laid_internal_strconv_uint64pow10)]

theorem globOK_of {W : World} (hs : W.ShapedOpen Tryd.prog) (h : laidMetH Tryd.prog laid W) : GlobOK (fun _ => .no) W := by
  have h1 : ∃ m, W.cell? ⟨0, 0, none⟩ = some (.int .i64 m) := cell_of_shapedOpen_int (t := 3) (zero := #[.int .i64 0]) hs (of_decide_eq_true (by kernel_rfl)) (by kernel_rfl) (by kernel_rfl) (by kernel_rfl) (by kernel_rfl) (by kernel_rfl)
  have h2 : laidMet Tryd.prog laid W := by rwa [MakeChecks.laidMetH_plain _ _ _ (by kernel_rfl)] at h
  have h3 : laidMet Tryd.prog [("internal/strconv.uint64pow10", tabData .u64 pow10Tab)] W := laidMet.filter (fun x => x.1 == "internal/strconv.uint64pow10") h2
  have h4 : TabIs Tryd.prog W "internal/strconv.uint64pow10" .u64 pow10Tab := tabIs_of_head (n := 20) (g := 1) (t := 107) (e := 97) (by kernel_rfl) (by kernel_rfl) (by kernel_rfl) (by kernel_rfl) (by kernel_rfl) (by kernel_rfl) h3
  obtain ⟨m, hm⟩ := h1
  refine ⟨⟨⟨m, hm⟩, h4⟩, ?_, fun _ _ h => by cases h⟩
  intro g hg
  have l0 := World.block_lt_of_cell? W _ hm
  have l1 : 1 < W.heap.size := by
    unfold TabIs World.var? at h4
    rw [show Tryd.prog.globalNamed "internal/strconv.uint64pow10" = some 1 by kernel_rfl] at h4
    simp only [Option.bind_some] at h4
    split at h4
    · rename_i h; exact lt_of_heap h
    · cases h4
  simp [globs] at hg
  rcases hg with rfl | rfl
  · exact l0
  · exact l1

end Go.Proofs.YtobcdpmjaeflmaaDoor
