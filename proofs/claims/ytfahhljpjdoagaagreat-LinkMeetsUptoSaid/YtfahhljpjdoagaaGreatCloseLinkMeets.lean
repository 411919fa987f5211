/-
  The law 'LinkMeets' answers true at every input whose values and letters are together at most 1048576 (each counted each time it is reached), and its arguments read afterwards as they read before.
  Conditions: those of the given statement, and no more.
-/
import Derived.Test.YtfahhljpjdoagaaGreatRows
import Derived.WalkKit
import Derived.ProofKit
import Derived.OpenShut
import Derived.JoinedCond
import Derived.Test.YtfahhljpjdoagaaGreatTextLinkMeets8
import Derived.Test.YtfahhljpjdoagaaGreatTextLinkMeets11
namespace Go.Proofs.YtfahhljpjdoagaaGreat.linkMeets
open Go.ChangeShapes Go.WideShapes Go.ChangeAt Go.RowKit
set_option linter.unusedVariables false

theorem own : ownKnob Tryz.prog.godebug = none := by kernel_rfl
theorem laid : laidOutB Tryz.prog = true := by kernel_rfl

mutual
theorem bulk_eq {H : Type} : ∀ d : DataW H, Ev.bulk d = Rows.uptoBulk d
  | .lit (.string _) | .lit .nil | .lit (.bool _) | .lit (.int _ _) | .lit (.float _ _) | .nil | .held _ => rfl
  | .ptr d => by simp only [Ev.bulk, Rows.uptoBulk, bulk_eq d]
  | .slice a b => by simp only [Ev.bulk, Rows.uptoBulk, bulkAll_eq a, bulkAll_eq b]
  | .agg a => by simp only [Ev.bulk, Rows.uptoBulk, bulkAll_eq a]
  | .iface _ d => by simp only [Ev.bulk, Rows.uptoBulk, bulk_eq d]
  | .map l => by simp only [Ev.bulk, Rows.uptoBulk, bulkEs_eq l]
theorem bulkAll_eq {H : Type} : ∀ l : List (DataW H), Ev.bulkAll l = Rows.uptoBulkAll l
  | [] => rfl
  | d :: l => by simp only [Ev.bulkAll, Rows.uptoBulkAll, bulk_eq d, bulkAll_eq l]
theorem bulkEs_eq {H : Type} : ∀ l : List (Lit × DataW H), Ev.bulkEntries l = Rows.uptoBulkEntries l
  | [] => rfl
  | x :: l => by simp only [Ev.bulkEntries, Rows.uptoBulkEntries, bulkE_eq x, bulkEs_eq l]
theorem bulkE_eq {H : Type} : ∀ x : Lit × DataW H, Ev.bulkEntry x = Rows.uptoBulkEntry x
  | (.string _, d) | (.nil, d) | (.bool _, d) | (.int _ _, d) | (.float _ _, d) => by simp only [Ev.bulkEntry, Rows.uptoBulkEntry, bulk_eq d]
end
theorem bulk_le {H : Type} {l : List (DataW H)} (hk : Rows.uptoSmall H l = true) : Ev.bulkAll l ≤ 1048576 := by
  rw [bulkAll_eq]
  exact of_decide_eq_true hk

set_option maxRecDepth 100000 in
theorem contract (H : Type) (enc : TypeId × Value → H) (W : World) (base : Nat) (args : Array Value) (ds gs : List (DataW H)) (before : List MemPlace)
    (hval : ∀ (j : Nat) t v, Tryz.f3.params[j]? = some t → args[j]? = some v → Value.okWide Tryz.prog W .any base t v)
    (hW : DataW.Whole enc Tryz.prog Tryz.f3.params.toList Rows.linkMeetsSpec.vars false W args.toList ds gs before) (hk : Rows.uptoSmall H (ds ++ gs) = true) :
    Calls Tryz.prog 3 args W fun e W' => ∃ v, e = .returned v ∧ Rows.linkMeetsSpec.post enc Tryz.prog Tryz.f3 false true false false W args v W' :=
  Ev.law_contract laid Ev.Z.tysOK (fn := Tryz.f3) (gs := [Go.Ev.gE, Go.Ev.gE, .sl Go.Ev.gItem]) (by kernel_rfl) (by kernel_rfl) (tb := 4) (by kernel_rfl) (by kernel_rfl) Ev.Z.lmeets_ok rfl
    (fun ds hl => by
      have hl' : ds.length = 3 := hl
      match ds, hl' with
      | [d0, d1, d2], _ => rfl) hval hW (bulk_le hk) Ev.Z.tab_any

set_option maxRecDepth 100000 in
theorem lifted (os : Os) (started : os.Started) (H : Type) (enc : TypeId × Value → H) (F : Stop.Interp) :
    ReturnsInHanded {} Tryz.checked os 3 .any ((Rows.OpenSpec.upto Rows.linkMeetsSpec).pre6 enc Tryz.prog Tryz.f3 Rows.linkMeetsUptoRow.domain false) (((Rows.OpenSpec.upto Rows.linkMeetsSpec).at F).post enc Tryz.prog Tryz.f3 false true false false) := by
  refine returnsInHanded_of_cond (C := Tryz.checked) (s := Rows.OpenSpec.upto Rows.linkMeetsSpec) (k := Rows.uptoSmall) rfl own started (by kernel_rfl) Tryz.func3
    (OpenSpec.witness (enc := enc) (C := Tryz.checked) (s := Rows.OpenSpec.upto Rows.linkMeetsSpec) (k := Rows.uptoSmall) rfl false ⟨#[], #[.agg #[.int .u32 0, .int .u32 0], .agg #[.int .u32 0, .int .u32 0], .slice none 0 0], []⟩ 8 (by kernel_rfl) (by kernel_rfl) (by kernel_rfl)
      (x := ([.agg [.lit (.int .u32 0), .lit (.int .u32 0)], .agg [.lit (.int .u32 0), .lit (.int .u32 0)], .nil], [], [])) (by kernel_rfl) rfl (by kernel_rfl)) ?_
  intro W base args ds gs before hval hW _ hk _
  exact contract H enc W base args ds gs before hval hW hk

theorem over : Rows.linkMeetsUptoRow.holds Tryz.pinned (Rows.OpenSpec.upto Rows.linkMeetsSpec) :=
  OpenClaim.holds_of_cond 3 Tryz.f3 rfl rfl rfl rfl rfl rfl rfl ⟨rfl, rfl, rfl, rfl, rfl⟩ rfl rfl rfl rfl rfl (by kernel_rfl) Tryz.func3 (by kernel_rfl)
    (of_decide_eq_true (by kernel_rfl)) (by unfold Func.isWrapper; first | (rw [if_pos (by decide +kernel)]; kernel_rfl) | (rw [if_neg (by decide +kernel)]; exact ⟨rfl, rfl⟩))
    (fun os started H enc _ F => lifted os started H enc F)

theorem proved : Rows.LinkMeetsUptoSaid :=
  over
end Go.Proofs.YtfahhljpjdoagaaGreat.linkMeets
