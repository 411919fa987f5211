/- The table of types, held against the program's. -/
import Derived.Test.YtohodbfoeejbjaaEvEnc
namespace Go.Ev

def zeroCells : GTy → List Value
  | .bool => [.bool false]
  | .int k => [.int k 0]
  | .str => [.string ⟨#[]⟩]
  | .unit => []
  | .prod a b => zeroCells a ++ zeroCells b
  | .arr n a => (List.replicate n (zeroCells a)).flatten
  | .sl _ => [.slice none 0 0]

theorem encL_replicate {α : Type} {f : α → List Value → Prop} {x : α} {c : List Value} (h : f x c) : ∀ n, encL f (List.replicate n x) (List.replicate n c).flatten
  | 0 => rfl
  | n + 1 => ⟨c, (List.replicate n c).flatten, by simp [List.replicate_succ], h, encL_replicate h n⟩

theorem has_zero (k : IntKind) : k.has 0 := by cases k <;> exact ⟨by decide, by decide⟩

theorem Enc.zero (w : World) (S : Stab) : ∀ g : GTy, Enc w S g (Ev.zero g) (zeroCells g)
  | .bool => rfl
  | .int k => ⟨rfl, has_zero k⟩
  | .str => ⟨rfl, Nat.zero_le _⟩
  | .unit => rfl
  | .prod a b => ⟨_, _, rfl, Enc.zero w S a, Enc.zero w S b⟩
  | .arr n a => ⟨List.length_replicate, encL_replicate (Enc.zero w S a) n⟩
  | .sl _ => ⟨none, 0, rfl, Nat.le_refl _, by simp [Ev.zero], Nat.zero_le _, .inl rfl⟩

/-- A struct of n fields. -/
def Chain : Nat → GTy → Prop
  | 1, .prod _ .unit => True
  | 2, .prod _ _ => True
  | n + 3, .prod _ b => Chain (n + 2) b
  | _, _ => False

def chainB : Nat → GTy → Bool
  | 1, .prod _ .unit => true
  | 2, .prod _ _ => true
  | n + 3, .prod _ b => chainB (n + 2) b
  | _, _ => false

theorem chain_of : ∀ {n : Nat} {g : GTy}, chainB n g = true → Chain n g
  | 1, .prod _ .unit, _ => trivial
  | 2, .prod _ _, _ => trivial
  | n + 3, .prod _ b, h => by simp only [Chain]; exact chain_of (by simpa [chainB] using h)
  | 0, g, h => by cases g <;> simp [chainB] at h
  | 1, .bool, h | 1, .int _, h | 1, .str, h | 1, .unit, h | 1, .arr .., h | 1, .sl _, h => by simp [chainB] at h
  | 1, .prod _ (.bool), h | 1, .prod _ (.int _), h | 1, .prod _ (.str), h | 1, .prod _ (.prod ..), h | 1, .prod _ (.arr ..), h | 1, .prod _ (.sl _), h => by simp [chainB] at h
  | 2, .bool, h | 2, .int _, h | 2, .str, h | 2, .unit, h | 2, .arr .., h | 2, .sl _, h => by simp [chainB] at h
  | _ + 3, .bool, h | _ + 3, .int _, h | _ + 3, .str, h | _ + 3, .unit, h | _ + 3, .arr .., h | _ + 3, .sl _, h => by simp [chainB] at h

def GTy.sz : GTy → Nat
  | .prod a b => a.sz + b.sz + 1
  | .arr _ a => a.sz + 1
  | .sl a => a.sz + 1
  | _ => 1

/-- What the table says of a type is so. -/
structure TyOK (P : Program) (τ : Tys) (t : TypeId) (i : TInfo) : Prop where
  plain : P.eqGuardType P.depth t = false
  small : i.g.sz ≤ 9999 ∧ lbytes i.g ≤ 1048576
  info : ∃ ti, P.info? t = some ti ∧ ti.size = ncell i.g ∧ ti.zero = some (toVal i.g (zeroCells i.g))
  agg : (match P.underlying t with | some (.struct _) | some (.array ..) => true | _ => false) = isAgg i.g
  desc : match i.g with
    | .bool => P.underlying t = some .bool
    | .int k => P.underlying t = some (.int k)
    | .str => P.underlying t = some .string
    | .arr n a => ∃ e j, P.underlying t = some (.array n e) ∧ τ e = some j ∧ j.g = a
    | .sl a => ∃ e j ti, P.underlying t = some (.slice e) ∧ e = i.el ∧ τ e = some j ∧ j.g = a ∧ P.info? e = some ti ∧ ti.bytes = i.bytes ∧ lbytes a ≤ ti.bytes ∧ 0 < lbytes a ∧ 0 < ncell a
    | .unit => False
    | .prod .. => ∃ fs, P.underlying t = some (.struct fs) ∧ fs.size = i.nf ∧ Chain i.nf i.g ∧ P.stoodInHeld t = false ∧ ∀ (k : Nat) (f : Field), fs[k]? = some f → f.name ≠ "_" ∧ f.offset = offs i.g (fieldPath i.nf k) ∧ inB i.g (fieldPath i.nf k) ∧ ∃ j, τ f.type = some j ∧ pathTy i.g (fieldPath i.nf k) = some j.g ∧ 0 < ncell j.g

def TysOK (P : Program) (τ : Tys) : Prop := ∀ t i, τ t = some i → TyOK P τ t i

/-! The check, for the kernel -/

def bytesEq (a b : ByteArray) : Bool := a.data.toList == b.data.toList

mutual
def veq : Value → Value → Bool
  | .bool a, .bool b => a == b
  | .int k a, .int l b => (match kindEq k l with | .isTrue _ => true | .isFalse _ => false) && decide (a = b)
  | .string a, .string b => bytesEq a b
  | .slice none a b, .slice none c d => Nat.beq a c && Nat.beq b d
  | .agg a, .agg b => veqA a b
  | _, _ => false
def veqA : Array Value → Array Value → Bool
  | ⟨a⟩, ⟨b⟩ => veqL a b
def veqL : List Value → List Value → Bool
  | [], [] => true
  | a :: l, b :: m => veq a b && veqL l m
  | _, _ => false
end

mutual
theorem veq_eq : ∀ a b : Value, veq a b = true → a = b
  | .bool a, .bool b, h => by simp [veq] at h; rw [h]
  | .int k a, .int l b, h => by
    simp only [veq, Bool.and_eq_true, decide_eq_true_eq] at h
    obtain ⟨h1, rfl⟩ := h
    split at h1
    · rename_i e _; rw [e]
    · cases h1
  | .string ⟨⟨a⟩⟩, .string ⟨⟨b⟩⟩, h => by simp [veq, bytesEq] at h; rw [h]
  | .slice none a b, .slice none c d, h => by simp [veq] at h; rw [h.1, h.2]
  | .agg a, .agg b, h => by rw [veqA_eq a b (by simpa [veq] using h)]
  | .bool _, .int .., h | .bool _, .float .., h | .bool _, .complex .., h | .bool _, .string _, h | .bool _, .pointer _, h | .bool _, .slice .., h | .bool _, .map _, h | .bool _, .chan _, h | .bool _, .func .., h | .bool _, .nilFunc, h | .bool _, .iface .., h | .bool _, .nilIface, h | .bool _, .agg _, h | .bool _, .tuple _, h => by simp [veq] at h
  | .int .., .bool _, h | .int .., .float .., h | .int .., .complex .., h | .int .., .string _, h | .int .., .pointer _, h | .int .., .slice .., h | .int .., .map _, h | .int .., .chan _, h | .int .., .func .., h | .int .., .nilFunc, h | .int .., .iface .., h | .int .., .nilIface, h | .int .., .agg _, h | .int .., .tuple _, h => by simp [veq] at h
  | .string _, .bool _, h | .string _, .int .., h | .string _, .float .., h | .string _, .complex .., h | .string _, .pointer _, h | .string _, .slice .., h | .string _, .map _, h | .string _, .chan _, h | .string _, .func .., h | .string _, .nilFunc, h | .string _, .iface .., h | .string _, .nilIface, h | .string _, .agg _, h | .string _, .tuple _, h => by simp [veq] at h
  | .slice (some _) _ _, b, h => by cases b <;> simp [veq] at h
  | .slice none _ _, .slice (some _) _ _, h => by simp [veq] at h
  | .slice none _ _, .bool _, h | .slice none _ _, .int .., h | .slice none _ _, .float .., h | .slice none _ _, .complex .., h | .slice none _ _, .string _, h | .slice none _ _, .pointer _, h | .slice none _ _, .map _, h | .slice none _ _, .chan _, h | .slice none _ _, .func .., h | .slice none _ _, .nilFunc, h | .slice none _ _, .iface .., h | .slice none _ _, .nilIface, h | .slice none _ _, .agg _, h | .slice none _ _, .tuple _, h => by simp [veq] at h
  | .agg _, .bool _, h | .agg _, .int .., h | .agg _, .float .., h | .agg _, .complex .., h | .agg _, .string _, h | .agg _, .pointer _, h | .agg _, .slice .., h | .agg _, .map _, h | .agg _, .chan _, h | .agg _, .func .., h | .agg _, .nilFunc, h | .agg _, .iface .., h | .agg _, .nilIface, h | .agg _, .tuple _, h => by simp [veq] at h
  | .float .., b, h | .complex .., b, h | .pointer _, b, h | .map _, b, h | .chan _, b, h | .func .., b, h | .nilFunc, b, h | .iface .., b, h | .nilIface, b, h | .tuple _, b, h => by cases b <;> simp [veq] at h
theorem veqA_eq : ∀ a b : Array Value, veqA a b = true → a = b
  | ⟨a⟩, ⟨b⟩, h => by rw [veqL_eq a b (by simpa [veqA] using h)]
theorem veqL_eq : ∀ a b : List Value, veqL a b = true → a = b
  | [], [], _ => rfl
  | a :: l, b :: m, h => by
    simp only [veqL, Bool.and_eq_true] at h
    rw [veq_eq a b h.1, veqL_eq l m h.2]
  | [], _ :: _, h => by simp [veqL] at h
  | _ :: _, [], h => by simp [veqL] at h
end

def gEq (a b : GTy) : Bool := match GTy.dec a b with | .isTrue _ => true | .isFalse _ => false
theorem gEq_eq {a b : GTy} (h : gEq a b = true) : a = b := by
  unfold gEq at h
  split at h
  · assumption
  · cases h

def inBb : GTy → List PStep → Bool
  | _, [] => true
  | .prod a _, .fst :: p => inBb a p
  | .prod _ b, .snd :: p => inBb b p
  | .arr n a, .idx i :: p => Nat.blt i n && inBb a p
  | _, _ => false

theorem inBb_inB : ∀ {g : GTy} {p : List PStep}, inBb g p = true → inB g p
  | g, [], _ => by cases g <;> trivial
  | .prod a _, .fst :: p, h => by simp only [inB]; exact inBb_inB (by simpa [inBb] using h)
  | .prod _ b, .snd :: p, h => by simp only [inB]; exact inBb_inB (by simpa [inBb] using h)
  | .arr n a, .idx i :: p, h => by
    simp only [inBb, Bool.and_eq_true] at h
    simp only [inB]
    exact ⟨by simpa [Nat.blt_eq] using h.1, inBb_inB h.2⟩
  | .prod _ _, .idx _ :: _, h | .arr _ _, .fst :: _, h | .arr _ _, .snd :: _, h | .bool, _ :: _, h | .int _, _ :: _, h | .str, _ :: _, h | .unit, _ :: _, h | .sl _, _ :: _, h => by simp [inBb] at h

def fieldChk (τ : Tys) (i : TInfo) (k : Nat) (f : Field) : Bool :=
  !(f.name == "_") && Nat.beq f.offset (offs i.g (fieldPath i.nf k)) && inBb i.g (fieldPath i.nf k) &&
  match τ f.type, pathTy i.g (fieldPath i.nf k) with
  | some j, some h => gEq h j.g && Nat.blt 0 (ncell j.g)
  | _, _ => false

def fieldsChk (τ : Tys) (i : TInfo) : Nat → List Field → Bool
  | _, [] => true
  | k, f :: l => fieldChk τ i k f && fieldsChk τ i (k + 1) l

def tyChk (P : Program) (τ : Tys) (t : TypeId) (i : TInfo) : Bool :=
  !(P.eqGuardType P.depth t) && (Nat.ble i.g.sz 9999 && Nat.ble (lbytes i.g) 1048576) && (match P.info? t with
    | some ti => Nat.beq ti.size (ncell i.g) && (match ti.zero with | some z => veq z (toVal i.g (zeroCells i.g)) | none => false)
    | none => false) &&
  match P.underlying t, i.g with
  | some .bool, .bool => true
  | some (.int k), .int l => (match kindEq k l with | .isTrue _ => true | .isFalse _ => false)
  | some .string, .str => true
  | some (.array n e), .arr m a => Nat.beq n m && (match τ e with | some j => gEq j.g a | none => false)
  | some (.slice e), .sl a => (match τ e, P.info? e with | some j, some ti => Nat.beq e i.el && gEq j.g a && Nat.beq ti.bytes i.bytes && Nat.ble (lbytes a) ti.bytes && Nat.blt 0 (lbytes a) && Nat.blt 0 (ncell a) | _, _ => false)
  | some (.struct fs), .prod .. => Nat.beq fs.size i.nf && chainB i.nf i.g && !(P.stoodInHeld t) && fieldsChk τ i 0 fs.toList
  | _, _ => false

theorem fieldsChk_get {τ : Tys} {i : TInfo} : ∀ {l : List Field} {n : Nat}, fieldsChk τ i n l = true → ∀ {k : Nat} {f : Field}, l[k]? = some f → fieldChk τ i (n + k) f = true
  | g :: l, n, h, 0, f, hf => by
    simp only [fieldsChk, Bool.and_eq_true] at h
    simp at hf; subst hf; exact h.1
  | g :: l, n, h, k + 1, f, hf => by
    simp only [fieldsChk, Bool.and_eq_true] at h
    have := fieldsChk_get h.2 (k := k) (f := f) (by simpa using hf)
    rwa [show n + 1 + k = n + (k + 1) by omega] at this
  | [], _, _, _, _, hf => by cases hf

theorem TyOK.of_chk {P : Program} {τ : Tys} {t : TypeId} {i : TInfo} (h : tyChk P τ t i = true) : TyOK P τ t i := by
  unfold tyChk at h
  rw [Bool.and_eq_true, Bool.and_eq_true, Bool.and_eq_true] at h
  obtain ⟨⟨⟨h0', hsm'⟩, h1⟩, h2⟩ := h
  rw [Bool.and_eq_true] at hsm'
  have hsm : i.g.sz ≤ 9999 ∧ lbytes i.g ≤ 1048576 := ⟨Nat.le_of_ble_eq_true hsm'.1, Nat.le_of_ble_eq_true hsm'.2⟩
  clear hsm'
  have h0 : P.eqGuardType P.depth t = false := by simpa using h0'
  clear h0'
  have hi : ∃ ti, P.info? t = some ti ∧ ti.size = ncell i.g ∧ ti.zero = some (toVal i.g (zeroCells i.g)) := by
    split at h1
    · rename_i ti hti
      rw [Bool.and_eq_true] at h1
      refine ⟨ti, hti, Nat.eq_of_beq_eq_true h1.1, ?_⟩
      have := h1.2
      split at this
      · rename_i z hz
        rw [hz, veq_eq _ _ this]
      · cases this
    · cases h1
  obtain ⟨g, nf, by_, el⟩ := i
  simp only at h2 hi
  split at h2 <;> first | (cases h2; done) | skip
  · rename_i hu; exact ⟨h0, hsm, hi, by simp only [hu]; rfl, hu⟩
  · rename_i k l hu
    refine ⟨h0, hsm, hi, by simp only [hu]; rfl, ?_⟩
    split at h2
    · rename_i e _; subst e; exact hu
    · cases h2
  · rename_i hu; exact ⟨h0, hsm, hi, by simp only [hu]; rfl, hu⟩
  · rename_i n e m a hu
    rw [Bool.and_eq_true] at h2
    have hn := Nat.eq_of_beq_eq_true h2.1
    subst hn
    refine ⟨h0, hsm, hi, by simp only [hu]; rfl, ?_⟩
    have h3 := h2.2
    split at h3
    · rename_i j hj; exact ⟨e, j, hu, hj, gEq_eq h3⟩
    · cases h3
  · rename_i e a hu
    refine ⟨h0, hsm, hi, by simp only [hu]; rfl, ?_⟩
    split at h2
    · rename_i j ti hj hti
      simp only [Bool.and_eq_true] at h2
      obtain ⟨⟨⟨⟨⟨q0, q1⟩, q2⟩, q3⟩, q4⟩, q5⟩ := h2
      exact ⟨e, j, ti, hu, Nat.eq_of_beq_eq_true q0, hj, gEq_eq q1, hti, Nat.eq_of_beq_eq_true q2, Nat.le_of_ble_eq_true q3, by simpa [Nat.blt_eq] using q4, by simpa [Nat.blt_eq] using q5⟩
    · cases h2
  · rename_i fs a b hu
    simp only [Bool.and_eq_true] at h2
    refine ⟨h0, hsm, hi, by simp only [hu]; rfl, fs, hu, Nat.eq_of_beq_eq_true h2.1.1.1, chain_of h2.1.1.2, by simpa using h2.1.2, fun k f hf => ?_⟩
    have := fieldsChk_get h2.2 (k := k) (f := f) (by simpa using hf)
    rw [Nat.zero_add] at this
    unfold fieldChk at this
    simp only [Bool.and_eq_true] at this
    obtain ⟨⟨⟨q1, q2⟩, q3⟩, q4⟩ := this
    refine ⟨by simpa using q1, Nat.eq_of_beq_eq_true q2, inBb_inB q3, ?_⟩
    split at q4
    · rename_i j h hj hh
      rw [Bool.and_eq_true] at q4
      exact ⟨j, hj, by rw [hh, gEq_eq q4.1], by simpa [Nat.blt_eq] using q4.2⟩
    · cases q4

/-- The whole table, row by row. -/
def tabChk (P : Program) (τ : Tys) : Nat → List (Option TInfo) → Bool
  | _, [] => true
  | t, none :: l => tabChk P τ (t + 1) l
  | t, some i :: l => tyChk P τ t i && tabChk P τ (t + 1) l

theorem tabChk_get {P : Program} {τ : Tys} : ∀ {l : List (Option TInfo)} {n : Nat}, tabChk P τ n l = true → ∀ {k : Nat} {i : TInfo}, l[k]? = some (some i) → tyChk P τ (n + k) i = true
  | none :: l, n, h, 0, i, hi => by simp at hi
  | some j :: l, n, h, 0, i, hi => by
    simp only [tabChk, Bool.and_eq_true] at h
    simp at hi; subst hi; exact h.1
  | none :: l, n, h, k + 1, i, hi => by
    have := tabChk_get (n := n + 1) (by simpa [tabChk] using h) (k := k) (i := i) (by simpa using hi)
    rwa [show n + 1 + k = n + (k + 1) by omega] at this
  | some j :: l, n, h, k + 1, i, hi => by
    simp only [tabChk, Bool.and_eq_true] at h
    have := tabChk_get h.2 (k := k) (i := i) (by simpa using hi)
    rwa [show n + 1 + k = n + (k + 1) by omega] at this
  | [], _, _, _, _, hi => by simp at hi

theorem tysOK_of_chk {P : Program} {L : List (Option TInfo)} (h : tabChk P (fun t => L.getD t none) 0 L = true) : TysOK P (fun t => L.getD t none) := fun t i hi => by
  have hl : L[t]? = some (some i) := by
    simp only [List.getD] at hi
    cases hh : L[t]? with
    | none => rw [hh] at hi; cases hi
    | some o => rw [hh] at hi; simp at hi; rw [hi]
  have := tabChk_get h (k := t) (i := i) hl
  rw [Nat.zero_add] at this
  exact .of_chk this
end Go.Ev
