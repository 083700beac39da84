/- What a law asks first of a little tree: run by reckoning. -/
import Derived.Test.YtobcdpmjaeflmaaDoorFT
set_option linter.unusedVariables false
set_option linter.unusedSimpArgs false
namespace Go.Proofs.Tryd
open Go Go.Al
set_option maxRecDepth 1000000 in
theorem small_ok : SPure prog 8 [] (B true) :=
  .reckon (tab := ttab) (ext := ext) (r := []) ttab_ok follows_mixed funs_ok ext_ok 10000 1000 (by kernel_rfl)
end Go.Proofs.Tryd
