/- Bytes made of a text, beside the evaluator: read, written, and a text again. -/
import Derived.Laws.IdiomStrings
import Derived.Test.YtohodbfoeejbjaaTextFrameBack6

set_option linter.unusedVariables false
set_option linter.unusedSimpArgs false
namespace Go.Ev
open Go.Conc
/-- A block that holds just these bytes, and room. -/
def ByR (e : TypeId) (H : Nat → Option Obj) (c : Nat) (s : List UInt8) : Prop :=
  ∃ cur : Array Value, H c = some (.cells cur e (cur.size, cur.size + 1)) ∧ s.length ≤ cur.size ∧ ∀ j (hj : j < s.length), cur[j]? = some (.int .u8 (s[j].toNat : Int))
section
variable {P : Program} {ts e : TypeId} {w : World} {c : Nat} {s : List UInt8}
theorem ByR.cell (h : ByR e (fun k => w.heap[k]?) c s) {j : Nat} (hj : j < s.length) : w.cell? ⟨c, j, none⟩ = some (.int .u8 (s[j].toNat : Int)) := by
  obtain ⟨cur, h1, h2, h3⟩ := h
  simp [World.cell?, h1, h3 j hj]
theorem ByR.free (h : ByR e (fun k => w.heap[k]?) c s) {j : Nat} (hj : j < s.length) : w.frozen? ⟨c, j, none⟩ = false := by
  obtain ⟨cur, h1, h2, h3⟩ := h
  simp [World.frozen?, h1]
  omega
theorem ByR.set (h : ByR e (fun k => w.heap[k]?) c s) {j : Nat} (hj : j < s.length) (b : UInt8) : ByR e (fun k => (w.setCell ⟨c, j, none⟩ (.int .u8 (b.toNat : Int))).heap[k]?) c (s.set j b) := by
  obtain ⟨cur, h1, h2, h3⟩ := h
  refine ⟨cur.setIfInBounds j (.int .u8 (b.toNat : Int)), ?_, by simpa using h2, fun k hk => ?_⟩
  · simp only at h1
    simp [World.setCell, Array.getElem?_modify, h1]
  · have hk' : k < s.length := by simpa using hk
    rw [Array.getElem?_setIfInBounds]
    by_cases hjk : j = k
    · subst hjk
      rw [if_pos rfl, if_pos (by omega)]
      simp
    · rw [if_neg hjk, h3 k hk']
      simp [List.getElem_set, hjk]
theorem by_conv (src : TypeId) (hs : P.underlying src = some .string) (hd : P.underlying ts = some (.slice e)) (he : P.underlying e = some (.int .u8)) (w : World) (s : List UInt8) : ∃ cap w', (convert src ts (.string ⟨⟨s⟩⟩)).run P w = .ok (.slice (some ⟨w.heap.size, 0, none⟩) s.length cap) w' ∧
    w'.os = w.os ∧ w'.tape = w.tape ∧ w'.output = w.output ∧ w.heap.size < w'.heap.size ∧ (∀ k, k < w.heap.size → w'.heap[k]? = w.heap[k]?) ∧ ByR e (fun k => w'.heap[k]?) w.heap.size s := by
  refine ⟨_, _, run_bytes_of_string w src ts e ⟨⟨s⟩⟩ hs hd he, rfl, rfl, rfl, by simp, fun k hk => heap_alloc_old w.drew _ k hk, _, heap_alloc_new w.drew _, ?_, fun j hj => ?_⟩
  · have := grownCap_ge w s.length 0 e
    simp [bytesRow]
  · exact bytesRow_at ⟨⟨s⟩⟩ _ j hj
theorem by_index (hd : P.underlying ts = some (.slice e)) (hz : ∀ w, (sizeOf e).run P w = .ok 1 w) (w : World) (n cap : Nat) {i : Int} (h0 : 0 ≤ i) (h1 : i < n) :
    (Instr.indexAt ts (.slice (some ⟨c, 0, none⟩) n cap) (.int .i64 i)).run P w = .ok (.pointer (some ⟨c, i.toNat, none⟩)) w := by
  simp only [Instr.indexAt, asIntOf, Sem.run_bind, Sem.run_pure, Result.andThen_ok, run_underlying hd, h0, h1, and_self, if_true, hz, Addr.add_lit, Nat.mul_one, Nat.zero_add]
theorem by_load (hz : ∀ w, (sizeOf e).run P w = .ok 1 w) (ha : ∀ w, (Go.isAgg e).run P w = .ok false w) {j : Nat} {v : Value} (h : w.cell? ⟨c, j, none⟩ = some v) : (Instr.loadAt e (.pointer (some ⟨c, j, none⟩))).run P w = .ok v w := by
  simp [Instr.loadAt, Instr.sureAddr, loadVar, ha, h]
theorem by_store (hz : ∀ w, (sizeOf e).run P w = .ok 1 w) {j : Nat} {v : Value} {b : UInt8} (h : w.cell? ⟨c, j, none⟩ = some v) (hf : w.frozen? ⟨c, j, none⟩ = false) :
    (Instr.storeAt e (.pointer (some ⟨c, j, none⟩)) (.int .u8 (b.toNat : Int))).run P w = .ok () (w.setCell ⟨c, j, none⟩ (.int .u8 (b.toNat : Int))) := by
  have hc : (Value.int .u8 (b.toNat : Int)).cells = #[.int .u8 (b.toNat : Int)] := rfl
  have hst := run_store P w ⟨c, j, none⟩ (.int .u8 (b.toNat : Int)) .plain rfl
  rw [h] at hst
  simp only [hf] at hst
  have e0 : (⟨c, j, none⟩ : Addr).add 0 = ⟨c, j, none⟩ := by simp [Addr.add_lit]
  have hst' : (store ⟨c, j, none⟩ (.int .u8 (b.toNat : Int))).run P w = .ok () (w.setCell ⟨c, j, none⟩ (.int .u8 (b.toNat : Int))) := by rw [hst]; simp
  simp [Instr.storeAt, Instr.sureAddr, storeVar, hz, hc, storeCells, e0, hst']
theorem by_back (dst : TypeId) (hd : P.underlying dst = some .string) (hs : P.underlying ts = some (.slice e)) (he : P.underlying e = some (.int .u8)) (h : ByR e (fun k => w.heap[k]?) c s) (cap : Nat) :
    (convert ts dst (.slice (some ⟨c, 0, none⟩) s.length cap)).run P w = .ok (.string ⟨⟨s⟩⟩) w :=
  run_convert_bytes_back w ts dst e ⟨c, 0, none⟩ cap s hs he hd fun j hj => by
    have := h.cell hj
    simpa [Addr.add_lit] using this
end
end Go.Ev

