/-
  The closed facts of the row on the law 'ConfBack', one by one, each a text for the kernel of its own.
  Conditions: none.
-/
import Derived.Test.YtohodbfoeejbjaaDoorCards
import Derived.Test.YtohodbfoeejbjaaDoorTie
import Derived.WalkKit
import Derived.ProofKit
import Derived.OpenShut
import Derived.KernelRfl
namespace Go.Proofs.YtohodbfoeejbjaaDoor.confBack
open Go.ChangeShapes Go.WideShapes Go.ChangeAt Go.RowKit
theorem and_t {a b : Bool} (ha : a = true) (hb : b = true) : (a && b) = true := by rw [ha, hb]; rfl
set_option maxHeartbeats 8000000 in
theorem closed : joinedFacts Tryd.pinned.checked.prog 14 Tryd.f14 (Rows.OpenSpec.upto Rows.confBackSpec).bare Rows.confBackUptoRow = true := by
  iterate 31 (refine and_t ?_ ?_)
  all_goals as_aux_lemma => kernel_rfl
end Go.Proofs.YtohodbfoeejbjaaDoor.confBack
