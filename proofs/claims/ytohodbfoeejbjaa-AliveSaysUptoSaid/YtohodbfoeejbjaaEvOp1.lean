/- Operations that only reckon. -/
import Derived.Test.YtohodbfoeejbjaaEvTake
import Derived.Laws.StructEq
set_option linter.unusedVariables false
namespace Go.Ev

def Yields (P : Program) (ρ : Operand → Value) (o : Oper) (w : World) (K : Value → World → Prop) : Prop :=
  match (execOp ρ o).run P w with
  | .ok (.value v) w' => K v w'
  | .ok .skip w' => K undef w'
  | .ok (.enter f args) w' => Calls P f args w' (fun e w'' => ∃ v, e = .returned v ∧ K v w'')
  | _ => False

/-- What an operation has done. -/
def After (R : Ref) (M : Mem) (e : Eff) (v : Value) (w' : World) : Prop :=
  ∃ (S' : Stab) (β' : Nat → Value), InvM R { w := w', S := S', β := β', bs := applyB e.wr M.bs } ∧ Step M { w := w', S := S', β := β', bs := applyB e.wr M.bs } (killed e.wr) ∧
    RelV { w := w', S := S', β := β', bs := applyB e.wr M.bs } e.av v

def Eff.ok (e : Eff) : Prop := ∀ p, e.need = some p → p

theorem After.pure {R : Ref} {M : Mem} (I : InvM R M) {av : AV} {n : Option Prop} {v : Value} (h : RelV M av v) : After R M ⟨av, [], n⟩ v M.w :=
  ⟨M.S, M.β, I, Step.refl _ _, h⟩

theorem Yields.value {P : Program} {ρ : Operand → Value} {o : Oper} {w w' : World} {v : Value} {K : Value → World → Prop} (h : (execOp ρ o).run P w = .ok (.value v) w') (k : K v w') : Yields P ρ o w K := by
  unfold Yields; rw [h]; exact k
theorem Yields.skip {P : Program} {ρ : Operand → Value} {o : Oper} {w w' : World} {K : Value → World → Prop} (h : (execOp ρ o).run P w = .ok .skip w') (k : K undef w') : Yields P ρ o w K := by
  unfold Yields; rw [h]; exact k

theorem needIf_spec {p : Prop} [d : Decidable p] {known : Bool} {k : Option Prop → Option Eff} {e : Eff} (h : needIf p known k = some e) : (known = false ∧ k (some p) = some e) ∨ (p ∧ k none = some e) := by
  cases known with
  | false => exact .inl ⟨rfl, h⟩
  | true =>
    cases d with
    | isTrue hp => exact .inr ⟨hp, h⟩
    | isFalse hp => cases h

/-! Numbers -/

theorem wrap_has (k : IntKind) (n : Int) : k.has (k.wrap n) := by
  cases k <;> simp only [IntKind.has, IntKind.wrap, IntKind.min, IntKind.max, IntKind.signed, IntKind.bits] <;> (try simp) <;> (try split) <;> omega

theorem has_of_range {k : IntKind} {n : Int} (h : inRange k n = true) : k.has n := by
  simpa [inRange, IntKind.has] using h

theorem has_between {k : IntKind} {a n : Int} (h : k.has a) (h1 : 0 ≤ a → 0 ≤ n ∧ n ≤ a) (h2 : a < 0 → a ≤ n ∧ n ≤ 0) : k.has n := by
  have hz := has_zero k
  unfold IntKind.has at *
  rcases Int.lt_or_le a 0 with h3 | h3
  · have := h2 h3; omega
  · have := h1 h3; omega

theorem tmod_has {k : IntKind} {a b : Int} (h : k.has a) : k.has (a.tmod b) := by
  refine has_between h (fun h0 => ?_) (fun h0 => ?_)
  · match a, b, h0 with
    | .ofNat m, .ofNat n, _ => exact ⟨Int.natCast_nonneg _, Int.ofNat_le.2 (Nat.mod_le m n)⟩
    | .ofNat m, .negSucc n, _ => exact ⟨Int.natCast_nonneg _, Int.ofNat_le.2 (Nat.mod_le m (n + 1))⟩
    | .negSucc m, _, h0 => exact absurd h0 (by omega)
  · match a, b, h0 with
    | .negSucc m, .ofNat n, _ =>
      have := Nat.mod_le (m + 1) n
      show Int.negSucc m ≤ -((((m + 1) % n : Nat) : Int)) ∧ -((((m + 1) % n : Nat) : Int)) ≤ 0
      omega
    | .negSucc m, .negSucc n, _ =>
      have := Nat.mod_le (m + 1) (n + 1)
      show Int.negSucc m ≤ -((((m + 1) % (n + 1) : Nat) : Int)) ∧ -((((m + 1) % (n + 1) : Nat) : Int)) ≤ 0
      omega
    | .ofNat m, _, h0 => exact absurd h0 (by simp)

theorem fdiv_has {k : IntKind} {a : Int} {n : Nat} (h : k.has a) : k.has (a.fdiv (2 ^ n)) := by
  have hp : (0 : Int) < 2 ^ n := Int.pow_pos (by omega)
  rw [Int.fdiv_eq_ediv_of_nonneg _ (Int.le_of_lt hp)]
  refine has_between h (fun h0 => ⟨Int.ediv_nonneg h0 (Int.le_of_lt hp), Int.ediv_le_self _ h0⟩) (fun h0 => ⟨?_, ?_⟩)
  · refine Int.le_ediv_of_mul_le hp ?_
    have := Int.mul_le_mul_of_nonpos_left (Int.le_of_lt h0) (show (1 : Int) ≤ 2 ^ n by omega)
    simpa using this
  · have : a / 2 ^ n < 1 := Int.ediv_lt_of_lt_mul hp (by omega)
    omega

theorem bitsOp_has (op : BinOp) (k : IntKind) (a b : Int) : k.has (bitsOp op k a b) := by
  unfold bitsOp
  cases op <;> exact wrap_has _ _

theorem relInt {M : Mem} {k : IntKind} {n : Int} {u : Value} (h : RelV M (.val (.int k) n) u) : u = .int k n ∧ k.has n := by
  simp only [RelV, Enc] at h
  obtain ⟨cs, ⟨rfl, h2⟩, rfl⟩ := h
  exact ⟨rfl, h2⟩
theorem relBool {M : Mem} {b : Bool} {u : Value} (h : RelV M (.val .bool b) u) : u = .bool b := by
  simp only [RelV, Enc] at h
  obtain ⟨cs, rfl, rfl⟩ := h
  rfl
theorem relStr {M : Mem} {s : List UInt8} {u : Value} (h : RelV M (.val .str s) u) : u = .string ⟨⟨s⟩⟩ ∧ s.length ≤ maxStr := by
  simp only [RelV, Enc] at h
  obtain ⟨cs, ⟨rfl, h2⟩, rfl⟩ := h
  exact ⟨rfl, h2⟩
theorem mkInt {M : Mem} {k : IntKind} {n : Int} (h : k.has n) : RelV M (.val (.int k) n) (.int k n) := by
  simp only [RelV, Enc]; exact ⟨_, ⟨rfl, h⟩, rfl⟩
theorem mkBool {M : Mem} {b : Bool} : RelV M (.val .bool b) (.bool b) := by
  simp only [RelV, Enc]; exact ⟨_, rfl, rfl⟩
theorem mkStr {M : Mem} {s : List UInt8} (h : s.length ≤ maxStr) : RelV M (.val .str s) (.string ⟨⟨s⟩⟩) := by
  simp only [RelV, Enc]; exact ⟨_, ⟨rfl, h⟩, rfl⟩

theorem intBin_sound {P : Program} {M : Mem} {op : BinOp} {k : IntKind} {a b : Int} {known : Bool} {e : Eff} (ha : k.has a) (hb : k.has b) (h : intBin op k a b known = some e) (hn : e.ok) (hs : op ≠ .shl ∧ op ≠ .shr) (t : TypeId) :
    ∃ v, (binOp op t (.int k a) (.int k b)).run P M.w = .ok v M.w ∧ e.wr = [] ∧ RelV M e.av v := by
  cases op <;> simp only [intBin, v0, Option.some.injEq, reduceCtorEq] at h
  case add => subst h; exact ⟨_, by simp [binOp, Op.intArith], rfl, mkInt (wrap_has _ _)⟩
  case sub => subst h; exact ⟨_, by simp [binOp, Op.intArith], rfl, mkInt (wrap_has _ _)⟩
  case mul => subst h; exact ⟨_, by simp [binOp, Op.intArith], rfl, mkInt (wrap_has _ _)⟩
  case quo =>
    have : b ≠ 0 ∧ e.wr = [] ∧ e.av = .val (.int k) (k.wrap (a.tdiv b)) := by
      rcases needIf_spec h with ⟨_, h⟩ | ⟨hp, h⟩
      · simp only [Option.some.injEq] at h; subst h; exact ⟨hn _ rfl, rfl, rfl⟩
      · simp only [Option.some.injEq] at h; subst h; exact ⟨hp, rfl, rfl⟩
    obtain ⟨h1, h2, h3⟩ := this
    exact ⟨.int k (k.wrap (a.tdiv b)), by simp [binOp, Op.intDiv, h1], h2, by rw [h3]; exact mkInt (wrap_has _ _)⟩
  case rem =>
    have : b ≠ 0 ∧ e.wr = [] ∧ e.av = .val (.int k) (a.tmod b) := by
      rcases needIf_spec h with ⟨_, h⟩ | ⟨hp, h⟩
      · simp only [Option.some.injEq] at h; subst h; exact ⟨hn _ rfl, rfl, rfl⟩
      · simp only [Option.some.injEq] at h; subst h; exact ⟨hp, rfl, rfl⟩
    obtain ⟨h1, h2, h3⟩ := this
    exact ⟨.int k (a.tmod b), by simp [binOp, Op.intDiv, h1], h2, by rw [h3]; exact mkInt (tmod_has ha)⟩
  case and => subst h; exact ⟨_, by simp only [binOp, Op.intBits, ne_eq, not_true_eq_false, if_false]; rfl, rfl, mkInt (bitsOp_has _ _ _ _)⟩
  case or => subst h; exact ⟨_, by simp only [binOp, Op.intBits, ne_eq, not_true_eq_false, if_false]; rfl, rfl, mkInt (bitsOp_has _ _ _ _)⟩
  case xor => subst h; exact ⟨_, by simp only [binOp, Op.intBits, ne_eq, not_true_eq_false, if_false]; rfl, rfl, mkInt (bitsOp_has _ _ _ _)⟩
  case andNot => subst h; exact ⟨_, by simp only [binOp, Op.intBits, ne_eq, not_true_eq_false, if_false]; rfl, rfl, mkInt (bitsOp_has _ _ _ _)⟩
  case eql => subst h; exact ⟨_, by simp only [binOp, Op.intCmp, ne_eq, not_true_eq_false, if_false, Sem.run_pure], rfl, mkBool⟩
  case neq => subst h; exact ⟨_, by simp only [binOp, Op.intCmp, ne_eq, not_true_eq_false, if_false, Sem.run_pure], rfl, mkBool⟩
  case lss => subst h; exact ⟨_, by simp only [binOp, Op.intCmp, ne_eq, not_true_eq_false, if_false, Sem.run_pure], rfl, mkBool⟩
  case leq => subst h; exact ⟨_, by simp only [binOp, Op.intCmp, ne_eq, not_true_eq_false, if_false, Sem.run_pure], rfl, mkBool⟩
  case gtr => subst h; exact ⟨_, by simp only [binOp, Op.intCmp, ne_eq, not_true_eq_false, if_false, Sem.run_pure], rfl, mkBool⟩
  case geq => subst h; exact ⟨_, by simp only [binOp, Op.intCmp, ne_eq, not_true_eq_false, if_false, Sem.run_pure], rfl, mkBool⟩

theorem str_append (a b : List UInt8) : ((⟨⟨a⟩⟩ : ByteArray) ++ ⟨⟨b⟩⟩) = ⟨⟨a ++ b⟩⟩ := by
  apply ByteArray.ext
  rw [ByteArray.data_append]
  simp

theorem strBin_sound {P : Program} {M : Mem} {op : BinOp} {a b : List UInt8} {e : Eff} (ha : a.length ≤ maxStr) (hb : b.length ≤ maxStr) (h : strBin op a b = some e) (hn : e.ok) (t : TypeId) :
    ∃ v, (binOp op t (.string ⟨⟨a⟩⟩) (.string ⟨⟨b⟩⟩)).run P M.w = .ok v M.w ∧ e.wr = [] ∧ RelV M e.av v := by
  have ta : (⟨⟨a⟩⟩ : ByteArray).toList = a := by rw [ByteArray.toList_eq]
  have tb : (⟨⟨b⟩⟩ : ByteArray).toList = b := by rw [ByteArray.toList_eq]
  cases op <;> simp only [strBin, v0, Option.some.injEq, reduceCtorEq] at h
  case add =>
    subst h
    have hle : a.length + b.length ≤ maxStr := hn _ rfl
    refine ⟨.string ⟨⟨a ++ b⟩⟩, ?_, rfl, mkStr (by simpa using hle)⟩
    have : ¬ (((a.length + b.length : Nat) : Int) > IntKind.i64.max) := by
      simp only [maxStr] at hle
      have : IntKind.i64.max = 9223372036854775807 := by decide
      omega
    simp only [binOp, Op.stringOp]
    rw [show (⟨⟨a⟩⟩ : ByteArray).size = a.length from rfl, show (⟨⟨b⟩⟩ : ByteArray).size = b.length from rfl, if_neg this, str_append]
    rfl
  all_goals (subst h; exact ⟨_, by simp only [binOp, Op.stringOp, ta, tb]; rfl, rfl, mkBool⟩)
end Go.Ev
