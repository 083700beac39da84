/- The functions of this seat, as a list; what is known of those that are not run. -/
import Derived.Test.YtobcdpmjaeflmaaDoorTF
import Derived.Test.YtobcdpmjaeflmaaDoorShelf
import Derived.Test.YtobcdpmjaeflmaaDoorAl4
set_option linter.unusedVariables false
set_option linter.unusedSimpArgs false
namespace Go.Proofs.Tryd
open Go Go.Al

set_option maxRecDepth 100000 in
theorem funs_ok : FunsOk prog prog.funcs.toList := .of rfl (by kernel_rfl)
def ext : ExtF := fun f args => cond (Nat.beq f 21) (extJoin args) (cond (Nat.beq f 63) (extIndexByte args) none)
theorem ext_ok : ExtOk prog ext := by
  intro f args c h
  unfold ext at h
  rcases cond_some h with ⟨hb, h⟩ | ⟨_, h⟩
  · have := Nat.eq_of_beq_eq_true hb
    subst this
    exact ⟨extJoin_ok (fun a c sep w => strings_Join_none a c sep w) (fun bk o c xs sep w h1 h2 h3 h4 h5 => strings_Join bk o c xs sep w h1 h2 h3 h4 h5) h, funs_ok.call (f := 21) (fn := f21) rfl rfl⟩
  · obtain ⟨hb, h⟩ := cond_none h
    have := Nat.eq_of_beq_eq_true hb
    subst this
    exact ⟨extIndexByte_ok (fun s c w => strings_IndexByte s c w) h, funs_ok.call (f := 63) (fn := f63) rfl rfl⟩
theorem follows_mixed : prog.follows .mixedOrders = true := by kernel_rfl
end Go.Proofs.Tryd
