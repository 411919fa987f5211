/-
  The law 'ConfAll' answers true at every input whose values and letters are together at most 1048576 (each counted each time it is reached), and its arguments read afterwards as they read before; the package tables that it reads are tied to the program's own text.
  Conditions: those of the given statement, and no more.
-/
import Derived.Test.YtohodbfoeejbjaaDoorCards
import Derived.Test.YtohodbfoeejbjaaDoorTie
import Derived.Test.YtohodbfoeejbjaaDoorFactsConfAll
import Derived.WalkKit
import Derived.ProofKit
import Derived.OpenShut
import Derived.Deep.DeepHandedRow
import Derived.Lib.LaidTab
import Derived.Stop.LaidErr
import Derived.Shelf.Vars
import Derived.Test.YtohodbfoeejbjaaDoorTextConfAll9
import Derived.Test.YtohodbfoeejbjaaDoorTextConfAll12
namespace Go.Proofs.YtohodbfoeejbjaaDoor.confAll
open Go.ChangeShapes Go.WideShapes Go.ChangeAt Go.RowKit
set_option linter.unusedVariables false

theorem own : ownKnob Tryd.prog.godebug = none := by kernel_rfl
theorem laid : laidOutB Tryd.prog = true := by kernel_rfl

mutual
theorem bulk_eq {H : Type} : ∀ d : DataW H, Ev.bulk d = Rows.uptoBulk d
  | .lit (.string _) | .lit .nil | .lit (.bool _) | .lit (.int _ _) | .lit (.float _ _) | .nil | .held _ => rfl
  | .ptr d => by simp only [Ev.bulk, Rows.uptoBulk, bulk_eq d]
  | .slice a b => by simp only [Ev.bulk, Rows.uptoBulk, bulkAll_eq a, bulkAll_eq b]
  | .agg a => by simp only [Ev.bulk, Rows.uptoBulk, bulkAll_eq a]
  | .iface _ d => by simp only [Ev.bulk, Rows.uptoBulk, bulk_eq d]
  | .map l => by simp only [Ev.bulk, Rows.uptoBulk, bulkEs_eq l]
theorem bulkAll_eq {H : Type} : ∀ l : List (DataW H), Ev.bulkAll l = Rows.uptoBulkAll l
  | [] => rfl
  | d :: l => by simp only [Ev.bulkAll, Rows.uptoBulkAll, bulk_eq d, bulkAll_eq l]
theorem bulkEs_eq {H : Type} : ∀ l : List (Lit × DataW H), Ev.bulkEntries l = Rows.uptoBulkEntries l
  | [] => rfl
  | x :: l => by simp only [Ev.bulkEntries, Rows.uptoBulkEntries, bulkE_eq x, bulkEs_eq l]
theorem bulkE_eq {H : Type} : ∀ x : Lit × DataW H, Ev.bulkEntry x = Rows.uptoBulkEntry x
  | (.string _, d) | (.nil, d) | (.bool _, d) | (.int _ _, d) | (.float _ _, d) => by simp only [Ev.bulkEntry, Rows.uptoBulkEntry, bulk_eq d]
end
theorem bulk_le {H : Type} {l : List (DataW H)} (hk : Rows.uptoSmall H l = true) : Ev.bulkAll l ≤ 1048576 := by
  rw [bulkAll_eq]
  exact of_decide_eq_true hk

theorem gPow : Tryd.prog.globalNamed "internal/strconv.uint64pow10" = some 0 := by kernel_rfl
theorem tPow : (Tryd.prog.globals[0]?).map (·.type) = some 165 := by kernel_rfl
theorem cellsPow : Tryd.prog.cellsOf 165 = 20 := by kernel_rfl
theorem cellsU64 : Tryd.prog.cellsOf 44 = 1 := by kernel_rfl
theorem pow_same : (Rows.laid_internal_strconv_uint64pow10 : DataW Unit) = Lib.tabData .u64 Lib.pow10Tab := by kernel_rfl
/-- What the row's list gives: the table of the powers of ten. -/
theorem table {W : World} (h : laidMetH Tryd.prog Rows.confAllUptoRow.laid W) : Lib.TabIs Tryd.prog W "internal/strconv.uint64pow10" .u64 Lib.pow10Tab := by
  have h1 : laidMet Tryd.prog Rows.confAllUptoRow.laid W := h
  have h2 := laidMet.tail (laidMet.tail h1)
  unfold Rows.confAllUptoRow at h2
  simp only [pow_same] at h2
  exact Lib.tabIs_of_head gPow tPow Tryd.underlying165 Tryd.underlying44 cellsU64 cellsPow h2
theorem gLow : Tryd.prog.globalNamed "math/bits.deBruijn64tab" = some 2 := by kernel_rfl
theorem tLow : (Tryd.prog.globals[2]?).map (·.type) = some 168 := by kernel_rfl
theorem cellsLow : Tryd.prog.cellsOf 168 = 64 := by kernel_rfl
theorem cellsU8 : Tryd.prog.cellsOf 5 = 1 := by kernel_rfl
theorem low_same : (Rows.laid_math_bits_deBruijn64tab : DataW Unit) = Lib.tabData .u8 (Lib.deBruijn64tab.map fun (z : Nat) => (z : Int)) := by kernel_rfl
/-- What the row's list gives: the table of the places of a lone bit. -/
theorem table2 {W : World} (h : laidMetH Tryd.prog Rows.confAllUptoRow.laid W) : Lib.TabIs Tryd.prog W "math/bits.deBruijn64tab" .u8 (Lib.deBruijn64tab.map fun (z : Nat) => (z : Int)) := by
  have h1 : laidMet Tryd.prog Rows.confAllUptoRow.laid W := h
  have h2 := laidMet.tail h1
  unfold Rows.confAllUptoRow at h2
  simp only [low_same] at h2
  exact Lib.tabIs_of_head gLow tLow Tryd.underlying168 Tryd.underlying5 cellsU8 cellsLow h2
theorem var_cell {W : World} {name : String} {g : Nat} {cs : Array Value} (hg : Tryd.prog.globalNamed name = some g) (ht : W.var? Tryd.prog name = some cs) (o : Nat) : Ev.allS W g o ∧ W.cell? ⟨g, o, none⟩ = cs[o]? := by
  unfold World.var? at ht
  rw [hg] at ht
  simp only [Option.bind_some] at ht
  cases hb : W.heap[g]? with
  | none => rw [hb] at ht; cases ht
  | some ob =>
    rw [hb] at ht
    have hlt : g < W.heap.size := (Array.getElem?_eq_some_iff.1 hb).1
    cases ob with
    | cells cs t fr =>
      simp only [Option.some.injEq] at ht
      refine ⟨hlt, ?_⟩
      simp only [World.cell?, hb]
      rw [ht]
      simp
    | _ => cases ht
theorem tab_of {W : World} {name : String} {g : Nat} {k : IntKind} {zs : List Int} (hg : Tryd.prog.globalNamed name = some g) (ht : Lib.TabIs Tryd.prog W name k zs) (o : Nat) : Ev.allS W g o ∧ W.cell? ⟨g, o, none⟩ = (zs.map fun z => Value.int k z)[o]? := by
  obtain ⟨h1, h2⟩ := var_cell hg ht o
  refine ⟨h1, h2.trans ?_⟩
  simp
theorem tab_tables {W : World} (h : laidMetH Tryd.prog Rows.confAllUptoRow.laid W) : ∀ p ∈ Ev.tabC, ∀ (o : Nat), Ev.allS W p.1 o ∧ W.cell? ⟨p.1, o, none⟩ = p.2[o]? := by
  intro p hp o
  rcases List.mem_cons.1 hp with rfl | hp
  · exact tab_of gPow (table h) o
  · rcases List.mem_cons.1 hp with rfl | hp
    · have := tab_of gLow (table2 h) o
      rw [List.map_map] at this
      exact this
    · cases hp
theorem maxlen {W : World} (hsh : W.ShapedOpen Tryd.prog) : ∃ m, W.cell? ⟨3, 0, none⟩ = some (.int .i64 m) :=
  cell_of_shapedOpen_int (P := Tryd.prog) (g := 3) (t := 3) (zero := #[.int .i64 0]) hsh (of_decide_eq_true (by kernel_rfl)) (by kernel_rfl) rfl (by kernel_rfl) (by kernel_rfl) (by kernel_rfl)
theorem cell_lt {W : World} {g : Nat} {v : Value} (h : W.cell? ⟨g, 0, none⟩ = some v) : Ev.allS W g 0 := by
  show g < W.heap.size
  rcases Nat.lt_or_ge g W.heap.size with h' | h'
  · exact h'
  · simp [World.cell?, Array.getElem?_eq_none h'] at h
theorem tab {W : World} (h : laidMetH Tryd.prog Rows.confAllUptoRow.laid W) (hM : ∃ m, W.cell? ⟨3, 0, none⟩ = some (.int .i64 m)) : Ev.Tab (Ev.allS W) W := ⟨tab_tables h, by
  intro p hp
  rcases List.mem_cons.1 hp with rfl | hp
  · obtain ⟨m, hm⟩ := hM; exact ⟨cell_lt hm, _, ⟨m, rfl⟩, hm⟩
  cases hp⟩

set_option maxRecDepth 100000 in
theorem contract (H : Type) (enc : TypeId × Value → H) (W : World) (base : Nat) (args : Array Value) (ds gs : List (DataW H)) (before : List MemPlace)
    (hval : ∀ (j : Nat) t v, Tryd.f16.params[j]? = some t → args[j]? = some v → Value.okWide Tryd.prog W .any base t v)
    (hW : DataW.Whole enc Tryd.prog Tryd.f16.params.toList Rows.confAllSpec.vars false W args.toList ds gs before) (hk : Rows.uptoSmall H (ds ++ gs) = true) (hL : laidMetH Tryd.prog Rows.confAllUptoRow.laid W) (hM : ∃ m, W.cell? ⟨3, 0, none⟩ = some (.int .i64 m)) :
    Calls Tryd.prog 16 args W fun e W' => ∃ v, e = .returned v ∧ Rows.confAllSpec.post enc Tryd.prog Tryd.f16 false true false false W args v W' :=
  Ev.law_contract laid Ev.D.tysOK (fn := Tryd.f16) (gs := [.sl Ev.gConf, .str]) (by kernel_rfl) (by kernel_rfl) (tb := 4) (by kernel_rfl) (by kernel_rfl) Ev.D.call35_ok rfl
    (fun ds hl => by
      have hl' : ds.length = 2 := hl
      match ds, hl' with
      | [d0, d1], _ => rfl) hval hW (bulk_le hk) (tab hL hM)

def tab1 : List Value := ([0, 1, 28, 2, 29, 14, 24, 3, 30, 22, 20, 15, 25, 17, 4, 8, 31, 27, 13, 23, 21, 19, 16, 7, 26, 12, 18, 6, 11, 5, 10, 9] : List Int).map fun z => .int .u8 z
def tab2 : List Value := ([0, 1, 56, 2, 57, 49, 28, 3, 61, 58, 42, 50, 38, 29, 17, 4, 62, 47, 59, 36, 45, 43, 51, 22, 53, 39, 33, 30, 24, 18, 12, 5, 63, 55, 48, 27, 60, 41, 37, 16, 46, 35, 44, 21, 52, 32, 23, 11, 54, 26, 40, 15, 34, 20, 31, 10, 25, 14, 19, 9, 13, 8, 7, 6] : List Int).map fun z => .int .u8 z
def tab0 : List Value := ([1, 10, 100, 1000, 10000, 100000, 1000000, 10000000, 100000000, 1000000000, 10000000000, 100000000000, 1000000000000, 10000000000000, 100000000000000, 1000000000000000, 10000000000000000, 100000000000000000, 1000000000000000000, 10000000000000000000] : List Int).map fun z => .int .u64 z
/-- A table put into its block. -/
noncomputable def putTab (l : List Value) : Obj → Obj
  | .cells _ t frozen => .cells l.toArray t frozen
  | o => o
def tabAcc : List Value := ([128, 191, 160, 191, 128, 159, 144, 191, 128, 143, 0, 0, 0, 0, 0, 0, 0, 0, 0, 0, 0, 0, 0, 0, 0, 0, 0, 0, 0, 0, 0, 0] : List Int).map fun z => .int .u8 z
def tabFirst : List Value := Go.Pinned.utf8FirstZ.map fun (z : Nat) => .int .u8 (z : Int)
/-- A world for the witness: the settled one, what is laid holding what its initialisers lay. -/
noncomputable def laidWorld (os : Os) : World :=
  { World.holding Tryd.prog os ⟨#[], #[], []⟩ with heap := (((((World.holding Tryd.prog os ⟨#[], #[], []⟩).heap.modify 0 (putTab tab0)).modify 1 (putTab tab1)).modify 2 (putTab tab2)).modify 6 (putTab tabFirst)).modify 7 (putTab tabAcc) }
theorem laid_met (os : Os) : laidMet Tryd.prog Rows.confAllUptoRow.laid ((laidWorld os).forCall (fun _ _ => 0) ⟨#[], #[.slice none 0 0, .string ⟨#[]⟩], []⟩).memory :=
  laidMet_of_run' 8 (by kernel_rfl) (by kernel_rfl)
theorem reads (os : Os) {H : Type} (enc : TypeId × Value → H) : ∃ places, DataW.whole enc Tryd.prog ((laidWorld os).forCall (fun _ _ => 0) ⟨#[], #[.slice none 0 0, .string ⟨#[]⟩], []⟩).memory Tryd.f16.params.toList Rows.confAllSpec.vars false #[.slice none 0 0, .string ⟨#[]⟩].toList 8 = some ([.nil, .lit (.string [])], [], places) :=
  ⟨[], by kernel_rfl⟩

set_option maxRecDepth 100000 in
theorem lifted (os : Os) (started : os.Started) (H : Type) (enc : TypeId × Value → H) (F : Stop.Interp) :
    ReturnsInHanded {} Tryd.checked os 16 .any ((Rows.OpenSpec.upto Rows.confAllSpec).preRow enc Tryd.prog Tryd.f16 Rows.confAllUptoRow.domain false Rows.confAllUptoRow.laid) (((Rows.OpenSpec.upto Rows.confAllSpec).at F).post enc Tryd.prog Tryd.f16 false true false false) := by
  obtain ⟨places, hx⟩ := reads os enc
  refine returnsInHanded_of_row (C := Tryd.checked) (s := Rows.OpenSpec.upto Rows.confAllSpec) own started (by kernel_rfl) Tryd.func16
    (witness_row_at (enc := enc) (C := Tryd.checked) false (laidWorld os) #[.slice none 0 0, .string ⟨#[]⟩] rfl (by kernel_rfl) (by kernel_rfl) (by kernel_rfl)
      (OpenSpec.preRow_of_cond 8 hx (by kernel_rfl) (fun k hk => by cases hk; kernel_rfl) (by kernel_rfl) (laid_met os))) ?_
  intro W base args ds gs before hval hW _ hk _ hL hsh _
  exact contract H enc W base args ds gs before hval hW (hk _ rfl) hL (maxlen hsh)

theorem said : Rows.ConfAllUptoSaid :=
  OpenClaim.holds_of_cond 16 Tryd.f16 rfl rfl rfl rfl rfl rfl rfl ⟨rfl, rfl, rfl, rfl, rfl⟩ rfl rfl rfl rfl rfl (by kernel_rfl) Tryd.func16 closed
    (of_decide_eq_true (by kernel_rfl)) (by unfold Func.isWrapper; first | (rw [if_pos (by decide +kernel)]; kernel_rfl) | (rw [if_neg (by decide +kernel)]; exact ⟨rfl, rfl⟩))
    (fun os started H enc _ F => by rw [OpenClaim.pre_eq_preRow]; exact lifted os started H enc F)

theorem plain (f : FuncId) (fn : Func) (hf : Tryd.pinned.checked.prog.funcNamed "fingerpost/fingerpostlaw35.ConfAll" = some f) (hfn : Tryd.pinned.checked.prog.funcs[f]? = some fn) :
    true = Tryd.pinned.checked.prog.looks [] ∧ ∀ (j : Nat) t, fn.params[j]? = some t → Tryd.pinned.checked.prog.wantsStandIn t = false := by
  obtain rfl : f = 16 := Option.some.inj ((show Tryd.prog.funcNamed "fingerpost/fingerpostlaw35.ConfAll" = some 16 by kernel_rfl).symm.trans hf) |>.symm
  obtain rfl : fn = Tryd.f16 := (Option.some.inj (Tryd.func16.symm.trans hfn)).symm
  refine ⟨by kernel_rfl, fun j t ht => ?_⟩
  have hall : Tryd.f16.params.toList.all (fun t => !(Tryd.prog.wantsStandIn t)) = true := by kernel_rfl
  have := List.all_eq_true.1 hall t (by simpa using Array.mem_of_getElem? ht)
  show Tryd.prog.wantsStandIn t = false
  simpa using this

theorem proved : Rows.ConfAllUptoCardSaid :=
  Claim7.holds_tied_plain_at .later [] _ _ _ _ said (fun _ h => by cases h) (by kernel_rfl) (fun _ h => by cases h) confAllUpto_row_tie rfl ⟨rfl, rfl⟩ (by kernel_rfl) rfl plain (by kernel_rfl)
end Go.Proofs.YtohodbfoeejbjaaDoor.confAll
