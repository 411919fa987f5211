/-
  No cell of these rows narrows 'for every input' (looked for: loops, veiled, ifaces, maps, wideKeys, modest, calm, conditions, laid).
  DERIVED. THE GIVEN ROWS OF THIS SEAT. 10 by the template 'for every input the law returns true; each argument reads behind the call as it read before'; 0 by the template 'total and deterministic' (their statements: YtohodbfoeejbjaaTotals.lean).
  GIVEN WITH THE SEED: the statements are not yours to turn. If you find one false, say at which input.
  Laid BY PROGRAM, IN A SANDBOX (cutbox-rows.mjs): the forced cells as the released guide's own fill.sh prints them over the translation 0afc8ff1963f8333… (all of the seat's roots in one cut). By AI agents, Wed Nov 11 2026. No macro, syntax, notation, axiom, sorry.
-/
import Derived.Test.YtohodbfoeejbjaaChecked
import GoSem.Claim
import GoSem.ClaimJoined
import GoSem.ClaimMapViews
import Derived.JoinedTies
import Derived.KernelRfl
namespace Go.Proofs.Ytohodbfoeejbjaa
/- THE CELL 'sum', in the pinned program and in every row, IS THE sha256 OF THE DUMP (.gsa) THAT YtohodbfoeejbjaaProg.lean LOADS. Nothing in Lean hashes anything: it is a label: what it is worth is what the hold of that sum in a sandbox is worth. -/
noncomputable def Try.pinned : Pinned := { name := "ytohodbfoeejbjaa", sum := "0afc8ff1963f8333477ba8b9295bd8ea1c87a2c25ad49a0f44e8df34cc17217d", checked := Try.checked }
namespace Rows
def none {H : Type} : Left H := { results := [], args := [] }

/-- 'fingerpostlaw21.AliveSays': WHATEVER THE INPUT: true; the input reads as it did. -/
def aliveSaysSpec : ChangeSpec := { name := "aliveSays", fn := fun _ => fun
  | [d1, d2] => { results := [.lit (.bool true)], args := [d1, d2] }
  | _ => none }
def aliveSaysRow : OpenClaim := { program := "ytohodbfoeejbjaa", sum := "0afc8ff1963f8333477ba8b9295bd8ea1c87a2c25ad49a0f44e8df34cc17217d", func := "fingerpost/fingerpostlaw21.AliveSays", spec := "aliveSays", apart := false }
def AliveSaysSaid : Prop := aliveSaysRow.holds Try.pinned (OpenSpec.ofChange aliveSaysSpec)

/-- ITS FALSE NEIGHBOUR: 'it returns false'. Refute it at one input. -/
def aliveSaysWrong : ChangeSpec := { name := "aliveSays", fn := fun _ => fun
  | [d1, d2] => { results := [.lit (.bool false)], args := [d1, d2] }
  | _ => none }
def AliveSaysWrongFalsely : Prop := aliveSaysRow.holds Try.pinned (OpenSpec.ofChange aliveSaysWrong)

/-- 'fingerpostlaw21.AliveDies': WHATEVER THE INPUT: true; the input reads as it did. -/
def aliveDiesSpec : ChangeSpec := { name := "aliveDies", fn := fun _ => fun
  | [d] => { results := [.lit (.bool true)], args := [d] }
  | _ => none }
def aliveDiesRow : OpenClaim := { program := "ytohodbfoeejbjaa", sum := "0afc8ff1963f8333477ba8b9295bd8ea1c87a2c25ad49a0f44e8df34cc17217d", func := "fingerpost/fingerpostlaw21.AliveDies", spec := "aliveDies", apart := false }
def AliveDiesSaid : Prop := aliveDiesRow.holds Try.pinned (OpenSpec.ofChange aliveDiesSpec)

/-- ITS FALSE NEIGHBOUR: 'it returns false'. Refute it at one input. -/
def aliveDiesWrong : ChangeSpec := { name := "aliveDies", fn := fun _ => fun
  | [d] => { results := [.lit (.bool false)], args := [d] }
  | _ => none }
def AliveDiesWrongFalsely : Prop := aliveDiesRow.holds Try.pinned (OpenSpec.ofChange aliveDiesWrong)

/-- 'fingerpostlaw05.EpochOrder': WHATEVER THE INPUT: true; the input reads as it did. -/
def epochOrderSpec : ChangeSpec := { name := "epochOrder", fn := fun _ => fun
  | [d1, d2, d3] => { results := [.lit (.bool true)], args := [d1, d2, d3] }
  | _ => none }
def epochOrderRow : OpenClaim := { program := "ytohodbfoeejbjaa", sum := "0afc8ff1963f8333477ba8b9295bd8ea1c87a2c25ad49a0f44e8df34cc17217d", func := "fingerpost/fingerpostlaw05.EpochOrder", spec := "epochOrder", apart := false }
def EpochOrderSaid : Prop := epochOrderRow.holds Try.pinned (OpenSpec.ofChange epochOrderSpec)

/-- ITS FALSE NEIGHBOUR: 'it returns false'. Refute it at one input. -/
def epochOrderWrong : ChangeSpec := { name := "epochOrder", fn := fun _ => fun
  | [d1, d2, d3] => { results := [.lit (.bool false)], args := [d1, d2, d3] }
  | _ => none }
def EpochOrderWrongFalsely : Prop := epochOrderRow.holds Try.pinned (OpenSpec.ofChange epochOrderWrong)

/-- 'fingerpostlaw05.EpochBack': WHATEVER THE INPUT: true; the input reads as it did. -/
def epochBackSpec : ChangeSpec := { name := "epochBack", fn := fun _ => fun
  | [d1, d2] => { results := [.lit (.bool true)], args := [d1, d2] }
  | _ => none }
def epochBackRow : OpenClaim := { program := "ytohodbfoeejbjaa", sum := "0afc8ff1963f8333477ba8b9295bd8ea1c87a2c25ad49a0f44e8df34cc17217d", func := "fingerpost/fingerpostlaw05.EpochBack", spec := "epochBack", apart := false }
def EpochBackSaid : Prop := epochBackRow.holds Try.pinned (OpenSpec.ofChange epochBackSpec)

/-- ITS FALSE NEIGHBOUR: 'it returns false'. Refute it at one input. -/
def epochBackWrong : ChangeSpec := { name := "epochBack", fn := fun _ => fun
  | [d1, d2] => { results := [.lit (.bool false)], args := [d1, d2] }
  | _ => none }
def EpochBackWrongFalsely : Prop := epochBackRow.holds Try.pinned (OpenSpec.ofChange epochBackWrong)

/-- 'fingerpostlaw34.FwdKeeps': WHATEVER THE INPUT: true; the input reads as it did. -/
def fwdKeepsSpec : ChangeSpec := { name := "fwdKeeps", fn := fun _ => fun
  | [d1, d2] => { results := [.lit (.bool true)], args := [d1, d2] }
  | _ => none }
def fwdKeepsRow : OpenClaim := { program := "ytohodbfoeejbjaa", sum := "0afc8ff1963f8333477ba8b9295bd8ea1c87a2c25ad49a0f44e8df34cc17217d", func := "fingerpost/fingerpostlaw34.FwdKeeps", spec := "fwdKeeps", apart := false }
def FwdKeepsSaid : Prop := fwdKeepsRow.holds Try.pinned (OpenSpec.ofChange fwdKeepsSpec)

/-- ITS FALSE NEIGHBOUR: 'it returns false'. Refute it at one input. -/
def fwdKeepsWrong : ChangeSpec := { name := "fwdKeeps", fn := fun _ => fun
  | [d1, d2] => { results := [.lit (.bool false)], args := [d1, d2] }
  | _ => none }
def FwdKeepsWrongFalsely : Prop := fwdKeepsRow.holds Try.pinned (OpenSpec.ofChange fwdKeepsWrong)

/-- 'fingerpostlaw36.ValidSays': WHATEVER THE INPUT: true; the input reads as it did. -/
def validSaysSpec : ChangeSpec := { name := "validSays", fn := fun _ => fun
  | [d1, d2, d3] => { results := [.lit (.bool true)], args := [d1, d2, d3] }
  | _ => none }
def validSaysRow : OpenClaim := { program := "ytohodbfoeejbjaa", sum := "0afc8ff1963f8333477ba8b9295bd8ea1c87a2c25ad49a0f44e8df34cc17217d", func := "fingerpost/fingerpostlaw36.ValidSays", spec := "validSays", apart := false }
def ValidSaysSaid : Prop := validSaysRow.holds Try.pinned (OpenSpec.ofChange validSaysSpec)

/-- ITS FALSE NEIGHBOUR: 'it returns false'. Refute it at one input. -/
def validSaysWrong : ChangeSpec := { name := "validSays", fn := fun _ => fun
  | [d1, d2, d3] => { results := [.lit (.bool false)], args := [d1, d2, d3] }
  | _ => none }
def ValidSaysWrongFalsely : Prop := validSaysRow.holds Try.pinned (OpenSpec.ofChange validSaysWrong)

/-- 'fingerpostlaw11.FrameSays': WHATEVER THE INPUT: true; the input reads as it did. -/
def frameSaysSpec : ChangeSpec := { name := "frameSays", fn := fun _ => fun
  | [d1, d2, d3] => { results := [.lit (.bool true)], args := [d1, d2, d3] }
  | _ => none }
def frameSaysRow : OpenClaim := { program := "ytohodbfoeejbjaa", sum := "0afc8ff1963f8333477ba8b9295bd8ea1c87a2c25ad49a0f44e8df34cc17217d", func := "fingerpost/fingerpostlaw11.FrameSays", spec := "frameSays", inPlace := ["internal/abi.NoEscape", "internal/bytealg.MakeNoZero"], unfollowed := true, recurses := true, apart := false }
def FrameSaysSaid : Prop := frameSaysRow.holds Try.pinned (OpenSpec.ofChange frameSaysSpec)

/-- ITS FALSE NEIGHBOUR: 'it returns false'. Refute it at one input. -/
def frameSaysWrong : ChangeSpec := { name := "frameSays", fn := fun _ => fun
  | [d1, d2, d3] => { results := [.lit (.bool false)], args := [d1, d2, d3] }
  | _ => none }
def FrameSaysWrongFalsely : Prop := frameSaysRow.holds Try.pinned (OpenSpec.ofChange frameSaysWrong)

/-- 'fingerpostlaw11.FrameBack': WHATEVER THE INPUT: true; the input reads as it did. -/
def frameBackSpec : ChangeSpec := { name := "frameBack", fn := fun _ => fun
  | [d1, d2, d3] => { results := [.lit (.bool true)], args := [d1, d2, d3] }
  | _ => none }
def frameBackRow : OpenClaim := { program := "ytohodbfoeejbjaa", sum := "0afc8ff1963f8333477ba8b9295bd8ea1c87a2c25ad49a0f44e8df34cc17217d", func := "fingerpost/fingerpostlaw11.FrameBack", spec := "frameBack", inPlace := ["internal/abi.NoEscape", "internal/bytealg.MakeNoZero"], unfollowed := true, recurses := true, apart := false }
def FrameBackSaid : Prop := frameBackRow.holds Try.pinned (OpenSpec.ofChange frameBackSpec)

/-- ITS FALSE NEIGHBOUR: 'it returns false'. Refute it at one input. -/
def frameBackWrong : ChangeSpec := { name := "frameBack", fn := fun _ => fun
  | [d1, d2, d3] => { results := [.lit (.bool false)], args := [d1, d2, d3] }
  | _ => none }
def FrameBackWrongFalsely : Prop := frameBackRow.holds Try.pinned (OpenSpec.ofChange frameBackWrong)

/-- 'fingerpostlaw11.FrameKinds': WHATEVER THE INPUT: true; the input reads as it did. -/
def frameKindsSpec : ChangeSpec := { name := "frameKinds", fn := fun _ => fun
  | [d1, d2] => { results := [.lit (.bool true)], args := [d1, d2] }
  | _ => none }
def frameKindsRow : OpenClaim := { program := "ytohodbfoeejbjaa", sum := "0afc8ff1963f8333477ba8b9295bd8ea1c87a2c25ad49a0f44e8df34cc17217d", func := "fingerpost/fingerpostlaw11.FrameKinds", spec := "frameKinds", inPlace := ["internal/abi.NoEscape", "internal/bytealg.MakeNoZero"], unfollowed := true, recurses := true, apart := false }
def FrameKindsSaid : Prop := frameKindsRow.holds Try.pinned (OpenSpec.ofChange frameKindsSpec)

/-- ITS FALSE NEIGHBOUR: 'it returns false'. Refute it at one input. -/
def frameKindsWrong : ChangeSpec := { name := "frameKinds", fn := fun _ => fun
  | [d1, d2] => { results := [.lit (.bool false)], args := [d1, d2] }
  | _ => none }
def FrameKindsWrongFalsely : Prop := frameKindsRow.holds Try.pinned (OpenSpec.ofChange frameKindsWrong)

/-- 'fingerpostlaw19.MrlCarries': WHATEVER THE INPUT: true; the input reads as it did. -/
def mrlCarriesSpec : ChangeSpec := { name := "mrlCarries", fn := fun _ => fun
  | [d1, d2] => { results := [.lit (.bool true)], args := [d1, d2] }
  | _ => none }
def mrlCarriesRow : OpenClaim := { program := "ytohodbfoeejbjaa", sum := "0afc8ff1963f8333477ba8b9295bd8ea1c87a2c25ad49a0f44e8df34cc17217d", func := "fingerpost/fingerpostlaw19.MrlCarries", spec := "mrlCarries", inPlace := ["internal/abi.NoEscape", "internal/bytealg.MakeNoZero"], unfollowed := true, recurses := true, apart := false }
def MrlCarriesSaid : Prop := mrlCarriesRow.holds Try.pinned (OpenSpec.ofChange mrlCarriesSpec)

/-- ITS FALSE NEIGHBOUR: 'it returns false'. Refute it at one input. -/
def mrlCarriesWrong : ChangeSpec := { name := "mrlCarries", fn := fun _ => fun
  | [d1, d2] => { results := [.lit (.bool false)], args := [d1, d2] }
  | _ => none }
def MrlCarriesWrongFalsely : Prop := mrlCarriesRow.holds Try.pinned (OpenSpec.ofChange mrlCarriesWrong)

/- THE SECOND FORM. 'bulk': how many values and letters a reading holds, each counted each time it is reached (what is shared counts as often as it is met; a slice's spare places count too). A statement '..UptoSaid' is the law's where the arguments, and the package variables that the reading takes, are together of bulk at most 1048576: NARROWER than '..Said'. Prove '..Said' where nothing that the law and all that it calls make is longer than what came in: it says more and counts as full. Else prove '..UptoSaid'. A law counts once. -/
mutual
def uptoBulk {H : Type} : DataW H → Nat
  | .lit (.string bytes) => bytes.length + 1
  | .lit _ => 1
  | .nil => 1
  | .ptr d => uptoBulk d + 1
  | .slice elems spare => uptoBulkAll elems + uptoBulkAll spare + 1
  | .agg parts => uptoBulkAll parts + 1
  | .iface _ d => uptoBulk d + 1
  | .map entries => uptoBulkEntries entries + 1
  | .held _ => 1
def uptoBulkAll {H : Type} : List (DataW H) → Nat
  | [] => 0
  | d :: r => uptoBulk d + uptoBulkAll r
def uptoBulkEntries {H : Type} : List (Lit × DataW H) → Nat
  | [] => 0
  | x :: r => uptoBulkEntry x + uptoBulkEntries r
def uptoBulkEntry {H : Type} : Lit × DataW H → Nat
  | (.string bytes, d) => bytes.length + uptoBulk d + 1
  | (_, d) => uptoBulk d + 1
 end
def uptoSmall : (H : Type) → List (DataW H) → Bool := fun _ ds => decide (uptoBulkAll ds ≤ 1048576)
def OpenSpec.upto (s : _root_.Go.ChangeSpec) : _root_.Go.OpenSpec := { _root_.Go.OpenSpec.ofChange s with cond := some uptoSmall }

/-- 'fingerpostlaw21.AliveSays', WHERE WHAT IT READS IS OF BULK AT MOST 1048576: true; the input reads as it did. -/
def aliveSaysUptoRow : OpenClaim := { program := "ytohodbfoeejbjaa", sum := "0afc8ff1963f8333477ba8b9295bd8ea1c87a2c25ad49a0f44e8df34cc17217d", func := "fingerpost/fingerpostlaw21.AliveSays", spec := "aliveSays", apart := false, narrowed := true }
def AliveSaysUptoSaid : Prop := aliveSaysUptoRow.holds Try.pinned (OpenSpec.upto aliveSaysSpec)

/-- 'fingerpostlaw21.AliveDies', WHERE WHAT IT READS IS OF BULK AT MOST 1048576: true; the input reads as it did. -/
def aliveDiesUptoRow : OpenClaim := { program := "ytohodbfoeejbjaa", sum := "0afc8ff1963f8333477ba8b9295bd8ea1c87a2c25ad49a0f44e8df34cc17217d", func := "fingerpost/fingerpostlaw21.AliveDies", spec := "aliveDies", apart := false, narrowed := true }
def AliveDiesUptoSaid : Prop := aliveDiesUptoRow.holds Try.pinned (OpenSpec.upto aliveDiesSpec)

/-- 'fingerpostlaw05.EpochOrder', WHERE WHAT IT READS IS OF BULK AT MOST 1048576: true; the input reads as it did. -/
def epochOrderUptoRow : OpenClaim := { program := "ytohodbfoeejbjaa", sum := "0afc8ff1963f8333477ba8b9295bd8ea1c87a2c25ad49a0f44e8df34cc17217d", func := "fingerpost/fingerpostlaw05.EpochOrder", spec := "epochOrder", apart := false, narrowed := true }
def EpochOrderUptoSaid : Prop := epochOrderUptoRow.holds Try.pinned (OpenSpec.upto epochOrderSpec)

/-- 'fingerpostlaw05.EpochBack', WHERE WHAT IT READS IS OF BULK AT MOST 1048576: true; the input reads as it did. -/
def epochBackUptoRow : OpenClaim := { program := "ytohodbfoeejbjaa", sum := "0afc8ff1963f8333477ba8b9295bd8ea1c87a2c25ad49a0f44e8df34cc17217d", func := "fingerpost/fingerpostlaw05.EpochBack", spec := "epochBack", apart := false, narrowed := true }
def EpochBackUptoSaid : Prop := epochBackUptoRow.holds Try.pinned (OpenSpec.upto epochBackSpec)

/-- 'fingerpostlaw34.FwdKeeps', WHERE WHAT IT READS IS OF BULK AT MOST 1048576: true; the input reads as it did. -/
def fwdKeepsUptoRow : OpenClaim := { program := "ytohodbfoeejbjaa", sum := "0afc8ff1963f8333477ba8b9295bd8ea1c87a2c25ad49a0f44e8df34cc17217d", func := "fingerpost/fingerpostlaw34.FwdKeeps", spec := "fwdKeeps", apart := false, narrowed := true }
def FwdKeepsUptoSaid : Prop := fwdKeepsUptoRow.holds Try.pinned (OpenSpec.upto fwdKeepsSpec)

/-- 'fingerpostlaw36.ValidSays', WHERE WHAT IT READS IS OF BULK AT MOST 1048576: true; the input reads as it did. -/
def validSaysUptoRow : OpenClaim := { program := "ytohodbfoeejbjaa", sum := "0afc8ff1963f8333477ba8b9295bd8ea1c87a2c25ad49a0f44e8df34cc17217d", func := "fingerpost/fingerpostlaw36.ValidSays", spec := "validSays", apart := false, narrowed := true }
def ValidSaysUptoSaid : Prop := validSaysUptoRow.holds Try.pinned (OpenSpec.upto validSaysSpec)

/-- 'fingerpostlaw11.FrameSays', WHERE WHAT IT READS IS OF BULK AT MOST 1048576: true; the input reads as it did. -/
def frameSaysUptoRow : OpenClaim := { program := "ytohodbfoeejbjaa", sum := "0afc8ff1963f8333477ba8b9295bd8ea1c87a2c25ad49a0f44e8df34cc17217d", func := "fingerpost/fingerpostlaw11.FrameSays", spec := "frameSays", inPlace := ["internal/abi.NoEscape", "internal/bytealg.MakeNoZero"], unfollowed := true, recurses := true, apart := false, narrowed := true }
def FrameSaysUptoSaid : Prop := frameSaysUptoRow.holds Try.pinned (OpenSpec.upto frameSaysSpec)

/-- 'fingerpostlaw11.FrameBack', WHERE WHAT IT READS IS OF BULK AT MOST 1048576: true; the input reads as it did. -/
def frameBackUptoRow : OpenClaim := { program := "ytohodbfoeejbjaa", sum := "0afc8ff1963f8333477ba8b9295bd8ea1c87a2c25ad49a0f44e8df34cc17217d", func := "fingerpost/fingerpostlaw11.FrameBack", spec := "frameBack", inPlace := ["internal/abi.NoEscape", "internal/bytealg.MakeNoZero"], unfollowed := true, recurses := true, apart := false, narrowed := true }
def FrameBackUptoSaid : Prop := frameBackUptoRow.holds Try.pinned (OpenSpec.upto frameBackSpec)

/-- 'fingerpostlaw11.FrameKinds', WHERE WHAT IT READS IS OF BULK AT MOST 1048576: true; the input reads as it did. -/
def frameKindsUptoRow : OpenClaim := { program := "ytohodbfoeejbjaa", sum := "0afc8ff1963f8333477ba8b9295bd8ea1c87a2c25ad49a0f44e8df34cc17217d", func := "fingerpost/fingerpostlaw11.FrameKinds", spec := "frameKinds", inPlace := ["internal/abi.NoEscape", "internal/bytealg.MakeNoZero"], unfollowed := true, recurses := true, apart := false, narrowed := true }
def FrameKindsUptoSaid : Prop := frameKindsUptoRow.holds Try.pinned (OpenSpec.upto frameKindsSpec)

/-- 'fingerpostlaw19.MrlCarries', WHERE WHAT IT READS IS OF BULK AT MOST 1048576: true; the input reads as it did. -/
def mrlCarriesUptoRow : OpenClaim := { program := "ytohodbfoeejbjaa", sum := "0afc8ff1963f8333477ba8b9295bd8ea1c87a2c25ad49a0f44e8df34cc17217d", func := "fingerpost/fingerpostlaw19.MrlCarries", spec := "mrlCarries", inPlace := ["internal/abi.NoEscape", "internal/bytealg.MakeNoZero"], unfollowed := true, recurses := true, apart := false, narrowed := true }
def MrlCarriesUptoSaid : Prop := mrlCarriesUptoRow.holds Try.pinned (OpenSpec.upto mrlCarriesSpec)

end Rows
end Go.Proofs.Ytohodbfoeejbjaa
