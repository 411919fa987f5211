/-
  The closed facts of the row on the law 'ConfAll', one by one, each a text for the kernel of its own.
  Conditions: none.
-/
import Derived.Test.YtohodbfoeejbjaaDoorCards
import Derived.Test.YtohodbfoeejbjaaDoorTie
import Derived.WalkKit
import Derived.ProofKit
import Derived.OpenShut
import Derived.KernelRfl
namespace Go.Proofs.YtohodbfoeejbjaaDoor.confAll
open Go.ChangeShapes Go.WideShapes Go.ChangeAt Go.RowKit
theorem and_t {a b : Bool} (ha : a = true) (hb : b = true) : (a && b) = true := by rw [ha, hb]; rfl
set_option maxHeartbeats 8000000 in
theorem closed : joinedFacts Tryd.pinned.checked.prog 16 Tryd.f16 (Rows.OpenSpec.upto Rows.confAllSpec).bare Rows.confAllUptoRow = true := by
  iterate 31 (refine and_t ?_ ?_)
  all_goals as_aux_lemma => kernel_rfl
end Go.Proofs.YtohodbfoeejbjaaDoor.confAll
