/- Plain facts on integers of a kind. -/
import Derived.Test.YtohodbfoeejbjaaEvWt
set_option linter.unusedVariables false
set_option linter.unusedSimpArgs false
namespace Go.Ev

theorem has_u8 (n : Int) : IntKind.u8.has n ↔ 0 ≤ n ∧ n ≤ 255 := by simp [IntKind.has, IntKind.min, IntKind.max, IntKind.signed, IntKind.bits]
theorem has_u32 (n : Int) : IntKind.u32.has n ↔ 0 ≤ n ∧ n ≤ 4294967295 := by simp [IntKind.has, IntKind.min, IntKind.max, IntKind.signed, IntKind.bits]
theorem has_u64 (n : Int) : IntKind.u64.has n ↔ 0 ≤ n ∧ n ≤ 18446744073709551615 := by simp [IntKind.has, IntKind.min, IntKind.max, IntKind.signed, IntKind.bits]
theorem has_i64 (n : Int) : IntKind.i64.has n ↔ -9223372036854775808 ≤ n ∧ n ≤ 9223372036854775807 := by simp [IntKind.has, IntKind.min, IntKind.max, IntKind.signed, IntKind.bits]
theorem has_i32 (n : Int) : IntKind.i32.has n ↔ -2147483648 ≤ n ∧ n ≤ 2147483647 := by simp [IntKind.has, IntKind.min, IntKind.max, IntKind.signed, IntKind.bits]

theorem wrap_u8 (n : Int) : IntKind.u8.wrap n = n % 256 := by simp [IntKind.wrap, IntKind.signed, IntKind.bits]
theorem wrap_u32 (n : Int) : IntKind.u32.wrap n = n % 4294967296 := by simp [IntKind.wrap, IntKind.signed, IntKind.bits]
theorem wrap_u64 (n : Int) : IntKind.u64.wrap n = n % 18446744073709551616 := by simp [IntKind.wrap, IntKind.signed, IntKind.bits]
theorem wrap_i64 (n : Int) : IntKind.i64.wrap n = if n % 18446744073709551616 ≥ 9223372036854775808 then n % 18446744073709551616 - 18446744073709551616 else n % 18446744073709551616 := by simp [IntKind.wrap, IntKind.signed, IntKind.bits]

theorem wrap_id {k : IntKind} {n : Int} (h : k.has n) : k.wrap n = n := by
  cases k <;> simp [IntKind.has, IntKind.min, IntKind.max, IntKind.signed, IntKind.bits] at h <;> simp [IntKind.wrap, IntKind.signed, IntKind.bits] <;> (try split) <;> omega
theorem wrap_has (k : IntKind) (n : Int) : k.has (k.wrap n) := by
  cases k <;> simp [IntKind.has, IntKind.min, IntKind.max, IntKind.signed, IntKind.bits, IntKind.wrap] <;> (try split) <;> omega
theorem i64_id {n : Int} (h : -9223372036854775808 ≤ n) (h' : n ≤ 9223372036854775807) : IntKind.i64.wrap n = n := wrap_id ((has_i64 n).2 ⟨h, h'⟩)
theorem u64_id {n : Int} (h : 0 ≤ n) (h' : n ≤ 18446744073709551615) : IntKind.u64.wrap n = n := wrap_id ((has_u64 n).2 ⟨h, h'⟩)
theorem u32_id {n : Int} (h : 0 ≤ n) (h' : n ≤ 4294967295) : IntKind.u32.wrap n = n := wrap_id ((has_u32 n).2 ⟨h, h'⟩)
theorem u8_id {n : Int} (h : 0 ≤ n) (h' : n ≤ 255) : IntKind.u8.wrap n = n := wrap_id ((has_u8 n).2 ⟨h, h'⟩)

theorem bitsOp_has (op : BinOp) (k : IntKind) (a b : Int) : k.has (bitsOp op k a b) := by
  unfold bitsOp
  cases op <;> exact wrap_has _ _

theorem ofInt_toNat {w : Nat} {n : Int} (h0 : 0 ≤ n) (h1 : n < 2 ^ w) : (BitVec.ofInt w n).toNat = n.toNat := by
  rw [BitVec.toNat_ofInt]
  have : n % (2 ^ w : Nat) = n := Int.emod_eq_of_lt h0 (by exact_mod_cast h1)
  rw [this]

theorem and_nat {k : IntKind} {a b : Int} (ha : 0 ≤ a) (ha' : a < 2 ^ k.bits) (hb : 0 ≤ b) (hb' : b < 2 ^ k.bits) (h : k.has (a.toNat &&& b.toNat : Nat)) : bitsOp .and k a b = ((a.toNat &&& b.toNat : Nat) : Int) := by
  unfold bitsOp
  simp only [BitVec.toNat_and, ofInt_toNat ha ha', ofInt_toNat hb hb']
  exact wrap_id h
theorem or_nat {k : IntKind} {a b : Int} (ha : 0 ≤ a) (ha' : a < 2 ^ k.bits) (hb : 0 ≤ b) (hb' : b < 2 ^ k.bits) (h : k.has (a.toNat ||| b.toNat : Nat)) : bitsOp .or k a b = ((a.toNat ||| b.toNat : Nat) : Int) := by
  unfold bitsOp
  simp only [BitVec.toNat_or, ofInt_toNat ha ha', ofInt_toNat hb hb']
  exact wrap_id h
end Go.Ev
