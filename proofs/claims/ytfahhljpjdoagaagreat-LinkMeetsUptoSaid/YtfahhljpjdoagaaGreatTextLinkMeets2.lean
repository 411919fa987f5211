/- Equality; parts of a value. -/
import Derived.Laws.BytesString
import Derived.Great.BuildSlice
import Derived.Laws.RangeString
import Derived.Test.YtfahhljpjdoagaaGreatTextLinkMeets1

set_option linter.unusedVariables false
set_option linter.unusedSimpArgs false
namespace Go.Ev

theorem run_sizeOf' {P : Program} {t : TypeId} {ti : TypeInfo} (h : P.info? t = some ti) (w : World) : (sizeOf t).run P w = .ok ti.size w := by
  simp [sizeOf, typeInfo, h]

theorem run_isAgg' {P : Program} {τ : Tys} {t : TypeId} {i : TInfo} (T : TyOK P τ t i) (w : World) : (Go.isAgg t).run P w = .ok (isAgg i.g) w := by
  have ha := T.agg
  unfold Go.isAgg
  obtain ⟨g, nf, by_, el⟩ := i
  have hd := T.desc
  cases g <;> simp only at hd ha ⊢
  case bool => simp [run_underlying hd]; rfl
  case int k => simp [run_underlying hd]; rfl
  case str => simp [run_underlying hd]; rfl
  case prod a b => obtain ⟨fs, h1, _⟩ := hd; simp [run_underlying h1]; rfl
  case arr n a => obtain ⟨e, j, h1, _⟩ := hd; simp [run_underlying h1]; rfl
  case sl a => obtain ⟨e, j, ti, h1, _⟩ := hd; simp [run_underlying h1]; rfl
  case err => obtain ⟨ms, h1⟩ := hd; simp [run_underlying h1]; rfl

theorem cells_one {w : World} {S : Stab} {g : GTy} {x : den g} {c : List Value} (h : Enc w S g x c) (ha : isAgg g = false) : ∃ v, c = [v] := by
  have hl := h.len
  have h1 : c.length = 1 := by cases g <;> simp [isAgg] at ha <;> simpa [ncell] using hl
  match c, h1 with
  | [v], _ => exact ⟨v, rfl⟩

theorem part_sound {P : Program} {τ : Tys} {t : TypeId} {i : TInfo} (T : TyOK P τ t i) {w W : World} {S : Stab} {x : den i.g} {a c r : List Value} (he : Enc W S i.g x c) {cs : Array Value} (hcs : cs.toList = a ++ c ++ r) {off : Nat} (ho : a.length = off) :
    (part t cs off).run P w = .ok (toVal i.g c) w := by
  obtain ⟨ti, hi, hsz, _⟩ := T.info
  unfold part
  simp only [Sem.run_bind, run_isAgg' T, Result.andThen_ok]
  cases ha : isAgg i.g with
  | true =>
    simp only [if_true, Sem.run_bind, run_sizeOf' hi, Result.andThen_ok, Sem.run_pure, toVal, ha]
    congr 2
    apply Array.ext'
    rw [Array.toList_extract, hcs, ← ho, hsz, ← he.len]
    simp
  | false =>
    obtain ⟨v, rfl⟩ := cells_one he ha
    have : cs[off]? = some v := by
      rw [← Array.getElem?_toList, hcs, ← ho]
      simp
    simp [this, toVal, ha]

def EqAt (P : Program) (τ : Tys) (d N : Nat) : Prop :=
  ∀ t i, τ t = some i → i.g.sz < N → ∀ (W w : World) (S : Stab) (x y : den i.g) (c c' : List Value), Enc W S i.g x c → Enc W S i.g y c' → cmp i.g = true → (Op.equalIn d t (toVal i.g c) (toVal i.g c')).run P w = .ok (geq i.g x y) w

theorem eqFields_sound {P : Program} {τ : Tys} (TOK : TysOK P τ) {d N : Nat} (IH : EqAt P τ d N) {w W : World} {S : Stab} : ∀ (l : List Field) (g : GTy) (x y : den g) (a c a' c' : List Value) (cs cs' : Array Value) (off : Nat), g.sz ≤ N → Chain l.length g → cmp g = true →
    Enc W S g x c → Enc W S g y c' → cs.toList = a ++ c → cs'.toList = a' ++ c' → a.length = off → a'.length = off →
    (∀ (k : Nat) f, l[k]? = some f → f.name ≠ "_" ∧ f.offset = off + offs g (fieldPath l.length k) ∧ ∃ j, τ f.type = some j ∧ pathTy g (fieldPath l.length k) = some j.g) →
    (Op.eqFields d cs cs' l).run P w = .ok (geq g x y) w
  | [f], .prod g1 .unit, x, y, a, c, a', c', cs, cs', off, hN, _, hcmp, ⟨c1, c2, e1, h1, h2⟩, ⟨d1, d2, k1, k2, k3⟩, hc, hc', ha, ha', hf => by
    obtain ⟨hnm, hof, j, hj, hp⟩ := hf 0 f rfl
    simp only [List.length_singleton, fieldPath, pathTy, Option.some.injEq] at hp
    subst hp
    simp only [List.length_singleton, fieldPath] at hof
    have hof : f.offset = off := by rw [hof]; cases j.g <;> rfl
    have T := TOK _ _ hj
    have p1 := part_sound (P := P) (w := w) T h1 (cs := cs) (a := a) (c := c1) (r := c2) (by rw [hc, e1]; simp) (off := off) ha
    have p2 := part_sound (P := P) (w := w) T k2 (cs := cs') (a := a') (c := d1) (r := d2) (by rw [hc', k1]; simp) (off := off) ha'
    simp only [cmp, Bool.and_eq_true] at hcmp
    have q := IH f.type j hj (by simp only [GTy.sz] at hN; omega) W w S x.1 y.1 c1 d1 h1 k2 hcmp.1
    simp only [Op.eqFields, hnm, ne_eq, not_false_eq_true, if_true, Sem.run_bind, hof, p1, p2, q, Result.andThen_ok, geq, Bool.and_true]
    cases geq j.g x.1 y.1 <;> simp
  | [f, f'], .prod g1 g2, x, y, a, c, a', c', cs, cs', off, hN, _, hcmp, ⟨c1, c2, e1, h1, h2⟩, ⟨d1, d2, k1, k2, k3⟩, hc, hc', ha, ha', hf => by
    obtain ⟨hnm, hof, j, hj, hp⟩ := hf 0 f rfl
    obtain ⟨hnm', hof', j', hj', hp'⟩ := hf 1 f' rfl
    simp only [List.length_cons, List.length_nil, Nat.zero_add, Nat.reduceAdd, fieldPath, pathTy, Option.some.injEq] at hp hp'
    subst hp
    have hp'' : g2 = j'.g := by cases g2 <;> simpa [pathTy] using hp'
    subst hp''
    have hof : f.offset = off := by rw [hof]; simp only [List.length_cons, List.length_nil, Nat.zero_add, Nat.reduceAdd, fieldPath, offs]; cases j.g <;> rfl
    have hof' : f'.offset = off + ncell j.g := by rw [hof']; simp only [List.length_cons, List.length_nil, Nat.zero_add, Nat.reduceAdd, fieldPath, offs]; cases j'.g <;> rfl
    have T := TOK _ _ hj
    have T' := TOK _ _ hj'
    have p1 := part_sound (P := P) (w := w) T h1 (cs := cs) (a := a) (c := c1) (r := c2) (by rw [hc, e1]; simp) (off := off) ha
    have p2 := part_sound (P := P) (w := w) T k2 (cs := cs') (a := a') (c := d1) (r := d2) (by rw [hc', k1]; simp) (off := off) ha'
    have p3 := part_sound (P := P) (w := w) T' h2 (cs := cs) (a := a ++ c1) (c := c2) (r := []) (by rw [hc, e1]; simp) (off := off + ncell j.g) (by rw [List.length_append, ha, h1.len])
    have p4 := part_sound (P := P) (w := w) T' k3 (cs := cs') (a := a' ++ d1) (c := d2) (r := []) (by rw [hc', k1]; simp) (off := off + ncell j.g) (by rw [List.length_append, ha', k2.len])
    simp only [cmp, Bool.and_eq_true] at hcmp
    have q := IH f.type j hj (by simp only [GTy.sz] at hN; omega) W w S x.1 y.1 c1 d1 h1 k2 hcmp.1
    have q' := IH f'.type j' hj' (by simp only [GTy.sz] at hN; omega) W w S x.2 y.2 c2 d2 h2 k3 hcmp.2
    simp only [Op.eqFields, hnm, hnm', ne_eq, not_false_eq_true, if_true, Sem.run_bind, hof, hof', p1, p2, p3, p4, q, q', Result.andThen_ok, geq]
    cases geq j.g x.1 y.1 <;> cases hq : geq j'.g x.2 y.2 <;> simp [p3, p4, q', hq]
  | f :: f' :: f'' :: l, .prod g1 g2, x, y, a, c, a', c', cs, cs', off, hN, hch, hcmp, ⟨c1, c2, e1, h1, h2⟩, ⟨d1, d2, k1, k2, k3⟩, hc, hc', ha, ha', hf => by
    obtain ⟨hnm, hof, j, hj, hp⟩ := hf 0 f rfl
    simp only [List.length_cons, fieldPath, pathTy, Option.some.injEq] at hp
    subst hp
    have hof : f.offset = off := by rw [hof]; simp only [List.length_cons, fieldPath, offs]; cases j.g <;> rfl
    have T := TOK _ _ hj
    have p1 := part_sound (P := P) (w := w) T h1 (cs := cs) (a := a) (c := c1) (r := c2) (by rw [hc, e1]; simp) (off := off) ha
    have p2 := part_sound (P := P) (w := w) T k2 (cs := cs') (a := a') (c := d1) (r := d2) (by rw [hc', k1]; simp) (off := off) ha'
    simp only [cmp, Bool.and_eq_true] at hcmp
    have q := IH f.type j hj (by simp only [GTy.sz] at hN; omega) W w S x.1 y.1 c1 d1 h1 k2 hcmp.1
    have hrec := eqFields_sound TOK IH (w := w) (f' :: f'' :: l) g2 x.2 y.2 (a ++ c1) c2 (a' ++ d1) d2 cs cs' (off + ncell j.g) (by simp only [GTy.sz] at hN; omega) hch hcmp.2 h2 k3 (by rw [hc, e1]; simp) (by rw [hc', k1]; simp) (by rw [List.length_append, ha, h1.len]) (by rw [List.length_append, ha', k2.len])
      (fun k g hg => by
        obtain ⟨r1, r2, jj, r3, r4⟩ := hf (k + 1) g (by simpa using hg)
        simp only [List.length_cons, fieldPath, offs, pathTy] at r2 r4
        exact ⟨r1, by rw [r2]; show _ = off + ncell j.g + offs g2 (fieldPath (l.length + 2) k); omega, jj, r3, by simpa using r4⟩)
    rw [Op.eqFields]
    simp only [hnm, ne_eq, not_false_eq_true, if_true, Sem.run_bind, hof, p1, p2, q, Result.andThen_ok, geq]
    cases geq j.g x.1 y.1
    · simp
    · simp [hrec]
  | [], g, _, _, _, _, _, _, _, _, _, _, hch, _, _, _, _, _, _, _, _ => by cases g <;> simp [Chain] at hch
  | [_], .prod _ (.bool), _, _, _, _, _, _, _, _, _, _, hch, _, _, _, _, _, _, _, _ | [_], .prod _ (.int _), _, _, _, _, _, _, _, _, _, _, hch, _, _, _, _, _, _, _, _ | [_], .prod _ (.str), _, _, _, _, _, _, _, _, _, _, hch, _, _, _, _, _, _, _, _
  | [_], .prod _ (.prod ..), _, _, _, _, _, _, _, _, _, _, hch, _, _, _, _, _, _, _, _ | [_], .prod _ (.arr ..), _, _, _, _, _, _, _, _, _, _, hch, _, _, _, _, _, _, _, _ | [_], .prod _ (.sl _), _, _, _, _, _, _, _, _, _, _, hch, _, _, _, _, _, _, _, _ | [_], .prod _ (.err), _, _, _, _, _, _, _, _, _, _, hch, _, _, _, _, _, _, _, _ => by simp [Chain] at hch
  | [_], .bool, _, _, _, _, _, _, _, _, _, _, hch, _, _, _, _, _, _, _, _ | [_], .int _, _, _, _, _, _, _, _, _, _, _, hch, _, _, _, _, _, _, _, _ | [_], .str, _, _, _, _, _, _, _, _, _, _, hch, _, _, _, _, _, _, _, _ | [_], .unit, _, _, _, _, _, _, _, _, _, _, hch, _, _, _, _, _, _, _, _ | [_], .arr .., _, _, _, _, _, _, _, _, _, _, hch, _, _, _, _, _, _, _, _ | [_], .sl _, _, _, _, _, _, _, _, _, _, _, hch, _, _, _, _, _, _, _, _ | [_], .err, _, _, _, _, _, _, _, _, _, _, hch, _, _, _, _, _, _, _, _ => by simp [Chain] at hch
  | _ :: _ :: l, .bool, _, _, _, _, _, _, _, _, _, _, hch, _, _, _, _, _, _, _, _ | _ :: _ :: l, .int _, _, _, _, _, _, _, _, _, _, _, hch, _, _, _, _, _, _, _, _ | _ :: _ :: l, .str, _, _, _, _, _, _, _, _, _, _, hch, _, _, _, _, _, _, _, _ | _ :: _ :: l, .unit, _, _, _, _, _, _, _, _, _, _, hch, _, _, _, _, _, _, _, _ | _ :: _ :: l, .arr .., _, _, _, _, _, _, _, _, _, _, hch, _, _, _, _, _, _, _, _ | _ :: _ :: l, .sl _, _, _, _, _, _, _, _, _, _, _, hch, _, _, _, _, _, _, _, _ | _ :: _ :: l, .err, _, _, _, _, _, _, _, _, _, _, hch, _, _, _, _, _, _, _, _ => by cases l <;> simp [Chain] at hch

theorem geq_go_cons {α : Type} (f : α → α → Bool) (x y : α) (xs ys : List α) : geq.go f (x :: xs) (y :: ys) = (f x y && geq.go f xs ys) := rfl

theorem run_arr {P : Program} {τ : Tys} {d : Nat} {e : TypeId} {j : TInfo} (T : TyOK P τ e j) {w W : World} {S : Stab} (IH : ∀ (x y : den j.g) (c c' : List Value), Enc W S j.g x c → Enc W S j.g y c' → (Op.equalIn d e (toVal j.g c) (toVal j.g c')).run P w = .ok (geq j.g x y) w) {cs cs' : Array Value} {n : Nat} (hn : n = ncell j.g) :
    ∀ (xs ys : List (den j.g)) (a c a' c' : List Value) (k : Nat), xs.length = ys.length → encL (Enc W S j.g) xs c → encL (Enc W S j.g) ys c' → cs.toList = a ++ c → cs'.toList = a' ++ c' → a.length = k * n → a'.length = k * n →
    (forIn (List.range' k xs.length 1) ((none : Option Bool), ()) (fun i (r : Option Bool × Unit) => do
        let u ← part e cs (i * n)
        let v ← part e cs' (i * n)
        let q ← Op.equalIn d e u v
        if (!q) = true then pure (ForInStep.done (some false, ())) else pure (ForInStep.yield (none, ()))) : Sem (Option Bool × Unit)).run P w = .ok ((bif geq.go (geq j.g) xs ys then none else some false), ()) w
  | [], [], a, c, a', c', k, _, _, _, _, _, _, _ => by simp [geq.go]
  | x :: xs, y :: ys, a, c, a', c', k, hl, ⟨c1, c2, e1, h1, h2⟩, ⟨d1, d2, k1, k2, k3⟩, hc, hc', ha, ha' => by
    have p1 := part_sound (P := P) (w := w) T h1 (cs := cs) (a := a) (c := c1) (r := c2) (by rw [hc, e1]; simp) (off := k * n) ha
    have p2 := part_sound (P := P) (w := w) T k2 (cs := cs') (a := a') (c := d1) (r := d2) (by rw [hc', k1]; simp) (off := k * n) ha'
    have q := IH x y c1 d1 h1 k2
    have hrec := run_arr (w := w) T IH hn xs ys (a ++ c1) c2 (a' ++ d1) d2 (k + 1) (by simpa using hl) h2 k3 (by rw [hc, e1]; simp) (by rw [hc', k1]; simp) (by rw [List.length_append, ha, h1.len, hn, Nat.add_mul, Nat.one_mul]) (by rw [List.length_append, ha', k2.len, hn, Nat.add_mul, Nat.one_mul])
    rw [List.length_cons, List.range'_succ, List.forIn_cons, geq_go_cons]
    simp only [Sem.run_bind, p1, p2, q, Result.andThen_ok, Sem.run_ite]
    cases hq : geq j.g x y
    · simp
    · simp only [Bool.not_true, Bool.false_eq_true, if_false, Sem.run_bind, Sem.run_pure, Result.andThen_ok, Bool.true_and]
      exact hrec
  | [], _ :: _, _, _, _, _, _, hl, _, _, _, _, _, _ => by simp at hl
  | _ :: _, [], _, _, _, _, _, hl, _, _, _, _, _, _ => by simp at hl

theorem equalIn_sound {P : Program} {τ : Tys} (TOK : TysOK P τ) : ∀ (d N : Nat), N ≤ d → EqAt P τ d N
  | 0, N, hN => fun t i _ hs => by omega
  | d + 1, N, hN => fun t i hi hs W w S x y c c' hx hy hcmp => by
    have IH := equalIn_sound TOK d (N - 1) (by omega)
    have T := TOK t i hi
    have hd := T.desc
    obtain ⟨g, nf, by_, el⟩ := i
    cases g <;> simp only at hd hx hy hcmp hs x y ⊢
    case bool =>
      have hx' : c = [.bool x] := hx
      have hy' : c' = [.bool y] := hy
      subst hx'; subst hy'
      simp only [toVal, isAgg, List.headD_cons, Op.equalIn, Sem.run_bind, run_underlying hd, Result.andThen_ok]
      rfl
    case int k =>
      obtain ⟨hx', _⟩ := hx
      obtain ⟨hy', _⟩ := hy
      subst hx'; subst hy'
      simp only [toVal, isAgg, List.headD_cons, Op.equalIn, Sem.run_bind, run_underlying hd, Result.andThen_ok, if_true]
      rfl
    case str =>
      obtain ⟨hx', _⟩ := hx
      obtain ⟨hy', _⟩ := hy
      subst hx'; subst hy'
      simp only [toVal, isAgg, List.headD_cons, Op.equalIn, Sem.run_bind, run_underlying hd, Result.andThen_ok, beq_toListBytes, ByteArray.toList_eq]
      rfl
    case prod a b =>
      obtain ⟨fs, h1, h2, h3, h4, h5⟩ := hd
      have hfo : P.fieldsOf t = fs := by simp [Program.fieldsOf, h1]
      show (Op.equalIn (d + 1) t (.agg c.toArray) (.agg c'.toArray)).run P w = _
      rw [run_equalIn_struct w d t _ _ (by rw [hfo]; exact h1) h4, hfo]
      refine eqFields_sound TOK (IH) fs.toList _ x y [] c [] c' _ _ 0 (by omega) (by simpa [h2] using h3) hcmp hx hy (by simp) (by simp) rfl rfl (fun k f hf => ?_)
      obtain ⟨q1, q2, q3, j, q4, q5, q6⟩ := h5 k f (by simpa using hf)
      have hl : fs.toList.length = nf := by simpa using h2
      rw [hl]
      exact ⟨q1, by rw [q2]; omega, j, q4, q5⟩
    case arr n a =>
      obtain ⟨e, j, h1, h2, rfl⟩ := hd
      obtain ⟨hx1, hx2⟩ := hx
      obtain ⟨hy1, hy2⟩ := hy
      have Te := TOK e j h2
      obtain ⟨ti, hti, hsz, _⟩ := Te.info
      have IHe : ∀ (x y : den j.g) (c c' : List Value), Enc W S j.g x c → Enc W S j.g y c' → (Op.equalIn d e (toVal j.g c) (toVal j.g c')).run P w = .ok (geq j.g x y) w :=
        fun x y c c' q1 q2 => IH e j h2 (by simp only [GTy.sz] at hs; omega) W w S x y c c' q1 q2 hcmp
      have hxy : List.length (α := den j.g) x = List.length (α := den j.g) y := by rw [hx1, hy1]
      have := run_arr (P := P) (w := w) Te IHe (cs := c.toArray) (cs' := c'.toArray) (n := ti.size) hsz x y [] c [] c' 0 hxy hx2 hy2 (by simp) (by simp) (by simp) (by simp)
      rw [hx1] at this
      show (Op.equalIn (d + 1) t (.agg c.toArray) (.agg c'.toArray)).run P w = _
      simp only [Op.equalIn, Sem.run_bind, run_underlying h1, Result.andThen_ok, run_sizeOf' hti]
      simp only [Std.Legacy.Range.forIn_eq_forIn_range', Std.Legacy.Range.size, Nat.sub_zero, Nat.add_sub_cancel, Nat.div_one]
      simp only [geq]
      erw [this]
      show _ = Result.ok (geq.go (geq j.g) x y) w
      cases geq.go (geq j.g) x y <;> rfl
    case sl a => simp [cmp] at hcmp
    case err => simp [cmp] at hcmp

theorem eqGuard_agg {P : Program} {t : TypeId} (h : P.eqGuardType P.depth t = false) {w : World} (op : BinOp) (x y : Operand) (c c' : Array Value) : (eqGuard op t x y (.agg c) (.agg c')).run P w = .ok () w := by
  unfold eqGuard
  cases op <;> simp [h]
theorem eqGuard_int {P : Program} {t : TypeId} {w : World} (op : BinOp) (x y : Operand) (k k' : IntKind) (a b : Int) : (eqGuard op t x y (.int k a) (.int k' b)).run P w = .ok () w := by
  unfold eqGuard
  cases op <;> simp
theorem eqGuard_str {P : Program} {t : TypeId} {w : World} (op : BinOp) (x y : Operand) (a b : ByteArray) : (eqGuard op t x y (.string a) (.string b)).run P w = .ok () w := by
  unfold eqGuard
  cases op <;> simp
theorem eqGuard_bool {P : Program} {t : TypeId} {w : World} (op : BinOp) (x y : Operand) (a b : Bool) : (eqGuard op t x y (.bool a) (.bool b)).run P w = .ok () w := by
  unfold eqGuard
  cases op <;> simp

theorem eqBin_sound {P : Program} {τ : Tys} (TOK : TysOK P τ) {M : Mem} {op : BinOp} {t : TypeId} {i : TInfo} (hi : τ t = some i) {a b : den i.g} {e : Eff} {u v : Value} (ha : RelV M (.val i.g a) u) (hb : RelV M (.val i.g b) v) (h : eqBin i.g op a b = some e)
    (hne : ∀ k, i.g ≠ .int k) (hns : i.g ≠ .str) (xo yo : Operand) :
    ∃ r, ((do eqGuard op t xo yo u v; binOp op t u v) : Sem Value).run P M.w = .ok r M.w ∧ e.wr = [] ∧ RelV M e.av r := by
  have T := TOK t i hi
  simp only [RelV] at ha hb
  obtain ⟨c, hc, rfl⟩ := ha
  obtain ⟨c', hc', rfl⟩ := hb
  have hcmp : cmp i.g = true := by
    unfold eqBin at h
    split at h <;> first | assumption | cases h
  have heq : (Op.equal t (toVal i.g c) (toVal i.g c')).run P M.w = .ok (geq i.g a b) M.w := equalIn_sound TOK 10000 10000 (Nat.le_refl _) t i hi (by have := T.small.1; omega) M.w M.w M.S a b c c' hc hc' hcmp
  have hg : (eqGuard op t xo yo (toVal i.g c) (toVal i.g c')).run P M.w = .ok () M.w ∧ (binOp .eql t (toVal i.g c) (toVal i.g c') = (do pure (.bool (← Op.equal t (toVal i.g c) (toVal i.g c'))))) ∧ (binOp .neq t (toVal i.g c) (toVal i.g c') = (do pure (.bool (!(← Op.equal t (toVal i.g c) (toVal i.g c')))))) := by
    have hagg : isAgg i.g = true → (eqGuard op t xo yo (toVal i.g c) (toVal i.g c')).run P M.w = .ok () M.w ∧ (binOp .eql t (toVal i.g c) (toVal i.g c') = (do pure (.bool (← Op.equal t (toVal i.g c) (toVal i.g c'))))) ∧ (binOp .neq t (toVal i.g c) (toVal i.g c') = (do pure (.bool (!(← Op.equal t (toVal i.g c) (toVal i.g c')))))) := by
      intro hh
      simp only [toVal, hh]
      exact ⟨eqGuard_agg (T.plain.resolve_left (fun h => by rw [h] at hcmp; simp [cmp] at hcmp)) _ _ _ _ _, rfl, rfl⟩
    generalize i.g = g at *
    cases g with
    | bool =>
      have h1 : c = [.bool a] := hc
      have h2 : c' = [.bool b] := hc'
      subst h1; subst h2
      exact ⟨eqGuard_bool _ _ _ _ _, rfl, rfl⟩
    | int k => exact absurd rfl (hne k)
    | str => exact absurd rfl hns
    | unit => exact hagg rfl
    | prod _ _ => exact hagg rfl
    | arr _ _ => exact hagg rfl
    | sl _ => simp [cmp] at hcmp
    | err => simp [cmp] at hcmp
  unfold eqBin at h
  split at h
  · simp only [v0, Option.some.injEq] at h
    subst h
    exact ⟨_, by simp only [Sem.run_bind, hg.1, Result.andThen_ok, hg.2.1, heq, Sem.run_pure], rfl, mkBool⟩
  · simp only [v0, Option.some.injEq] at h
    subst h
    exact ⟨_, by simp only [Sem.run_bind, hg.1, Result.andThen_ok, hg.2.2, heq, Sem.run_pure], rfl, mkBool⟩
  · cases h
end Go.Ev
/- Each operation does what the evaluator says. -/
set_option linter.unusedVariables false
set_option linter.unusedSimpArgs false
namespace Go.Ev
def RelRes (w : World) (S : Stab) (gs : List GTy) (x : dens gs) (v : Value) : Prop :=
  ∃ us, EncD w S gs x us ∧ v = (match us with | [u] => u | _ => .tuple us.toArray)
def CtrOK (P : Program) (f : Nat) (c : Ctr) : Prop :=
  (∃ fn, P.funcs[f]? = some fn ∧ fn.body.isNone = false ∧ (fn.name == "runtime.NumGoroutine") = false) ∧
  ∀ (w : World) (S : Stab) (us : List Value) (x : dens c.args), (∀ b o, S b o → b < w.heap.size) → Tab S w → EncD w S c.args x us → (∀ p, c.pre = some p → p x) →
    Calls P f us.toArray w (fun e w' => ∃ v, e = .returned v ∧ Grows w w' ∧ ∃ N : Stab, (∀ b o, N b o → w.heap.size ≤ b ∧ b < w'.heap.size) ∧ RelRes w' (fun b o => S b o ∨ N b o) c.res (c.fn x) v)
def CloOK (P : Program) (f : Nat) (c : Ctr) : Prop :=
  (∃ fn, P.funcs[f]? = some fn ∧ fn.body.isNone = false ∧ (fn.name == "runtime.NumGoroutine") = false) ∧
  ∀ (w : World) (S : Stab) (us : List Value) (blk off : Nat) (n : Int) (x : dens c.args), (∀ b o, S b o → b < w.heap.size) → Tab S w → w.cell? ⟨blk, off, none⟩ = some (.int .i64 n) → S blk off → EncD w S c.args x (us ++ [Value.int .i64 n]) → (∀ p, c.pre = some p → p x) →
    Calls P f (us ++ [Value.pointer (some ⟨blk, off, none⟩)]).toArray w (fun e w' => ∃ v, e = .returned v ∧ Grows w w' ∧ ∃ N : Stab, (∀ b o, N b o → w.heap.size ≤ b ∧ b < w'.heap.size) ∧ RelRes w' (fun b o => S b o ∨ N b o) c.res (c.fn x) v)
def MkOK (P : Program) (f : Nat) (c : Ctr) : Prop :=
  (∃ fn, P.funcs[f]? = some fn ∧ fn.body.isNone = false ∧ (fn.name == "runtime.NumGoroutine") = false) ∧
  ∀ (gs : List GTy) (pre : Option (dens gs → Prop)) (fn : dens gs → dens [.int .i64, .int .i64]), c = ⟨gs, [.int .i64, .int .i64], pre, fn⟩ → ∀ (w : World) (S : Stab) (us : List Value) (x : dens gs), (∀ b o, S b o → b < w.heap.size) → Tab S w → EncD w S gs x us → (∀ p, pre = some p → p x) →
    Calls P f us.toArray w (fun e w' => Grows w w' ∧ ∃ blk, w.heap.size ≤ blk ∧ blk < w'.heap.size ∧ w'.cell? ⟨blk, 0, none⟩ = some (.int .i64 (fn x).2) ∧ IntKind.i64.has (fn x).2 ∧ e = .returned (.func (.func (fn x).1.toNat) #[] #[.pointer (some ⟨blk, 0, none⟩)]))
def KeyOK (P : Program) (f : Nat) (c : Ctr) : Prop :=
  match Nat.blt f cloB with
  | true => CtrOK P f c
  | false => match Nat.blt f (cloB + cloB) with
    | true => CloOK P (f - cloB) c
    | false => MkOK P (f - (cloB + cloB)) c
def CtrsOK (P : Program) (Γ : Ctrs) : Prop := ∀ f c, Γ f = some c → KeyOK P f c
theorem KeyOK.ctr {P : Program} {f : Nat} {c : Ctr} (h : KeyOK P f c) (hf : Nat.blt f cloB = true) : CtrOK P f c := by
  unfold KeyOK at h
  rw [hf] at h
  exact h
theorem KeyOK.of {P : Program} {f : Nat} {c : Ctr} (h : CtrOK P f c) (hf : Nat.blt f cloB = true) : KeyOK P f c := by
  unfold KeyOK
  rw [hf]
  exact h
theorem KeyOK.clo {P : Program} {f : Nat} {c : Ctr} (h : KeyOK P (cloB + f) c) (hf : Nat.blt f cloB = true) : CloOK P f c := by
  unfold KeyOK at h
  rw [Nat.blt_eq] at hf
  rw [show Nat.blt (cloB + f) cloB = false by rw [Bool.eq_false_iff, ne_eq, Nat.blt_eq]; omega, show Nat.blt (cloB + f) (cloB + cloB) = true by rw [Nat.blt_eq]; omega] at h
  rw [show cloB + f - cloB = f by omega] at h
  exact h
theorem KeyOK.of_clo {P : Program} {f : Nat} {c : Ctr} (h : CloOK P f c) (hf : Nat.blt f cloB = true) : KeyOK P (cloB + f) c := by
  unfold KeyOK
  rw [Nat.blt_eq] at hf
  rw [show Nat.blt (cloB + f) cloB = false by rw [Bool.eq_false_iff, ne_eq, Nat.blt_eq]; omega, show Nat.blt (cloB + f) (cloB + cloB) = true by rw [Nat.blt_eq]; omega]
  rw [show cloB + f - cloB = f by omega]
  exact h
theorem KeyOK.mk {P : Program} {f : Nat} {c : Ctr} (h : KeyOK P (cloB + cloB + f) c) : MkOK P f c := by
  unfold KeyOK at h
  rw [show Nat.blt (cloB + cloB + f) cloB = false by rw [Bool.eq_false_iff, ne_eq, Nat.blt_eq]; omega, show Nat.blt (cloB + cloB + f) (cloB + cloB) = false by rw [Bool.eq_false_iff, ne_eq, Nat.blt_eq]; omega] at h
  rw [show cloB + cloB + f - (cloB + cloB) = f by omega] at h
  exact h
theorem KeyOK.of_mk {P : Program} {f : Nat} {c : Ctr} (h : MkOK P f c) : KeyOK P (cloB + cloB + f) c := by
  unfold KeyOK
  rw [show Nat.blt (cloB + cloB + f) cloB = false by rw [Bool.eq_false_iff, ne_eq, Nat.blt_eq]; omega, show Nat.blt (cloB + cloB + f) (cloB + cloB) = false by rw [Bool.eq_false_iff, ne_eq, Nat.blt_eq]; omega]
  rw [show cloB + cloB + f - (cloB + cloB) = f by omega]
  exact h

theorem resL_rel {M : Mem} : ∀ {gs : List GTy} {x : dens gs} {us : List Value}, EncD M.w M.S gs x us → RelL M (resL gs x) us
  | [], _, us, h => by rw [show us = [] from h]; simp [resL, RelL]
  | [g], x, us, ⟨cs, h1, h2⟩ => by rw [h2]; simp only [resL, RelL, RelV, and_true]; exact ⟨cs, h1, rfl⟩
  | g :: h :: gs, x, us, ⟨cs, us', h1, h2, h3⟩ => by
    rw [h2]; simp only [resL, RelL, RelV]
    exact ⟨⟨cs, h1, rfl⟩, resL_rel h3⟩

theorem resAV_rel {M : Mem} {gs : List GTy} {x : dens gs} {v : Value} (h : RelRes M.w M.S gs x v) : RelV M (resAV gs x) v := by
  obtain ⟨us, h1, rfl⟩ := h
  have hr := resL_rel (M := M) h1
  have hl := hr.length
  unfold resAV
  split
  · rename_i v hv
    rw [hv] at hr hl
    match us, hl with
    | [u], _ => simp only [RelL, and_true] at hr; exact hr
  · rename_i hne
    match us with
    | [u] =>
      exfalso
      match hh : resL gs x, hl with
      | [v], _ => exact hne v hh
    | [] => simp only [RelV]; exact ⟨_, rfl, by simpa using hr⟩
    | _ :: _ :: _ => simp only [RelV]; exact ⟨_, rfl, by simpa using hr⟩

section
variable {P : Program} {τ : Tys} {R : Ref} {M : Mem}
theorem After.froze {av : AV} {ws : List (Nat × Bool × Box)} {n : Option Prop} {v : Value} {S' : Stab} (hk : ∀ b, ¬ killed ws b) (h : Froze R M { M with S := S', bs := applyB ws M.bs }) (hr : RelV { M with S := S', bs := applyB ws M.bs } av v) : After R M ⟨av, ws, n⟩ v M.w :=
  ⟨S', M.β, h.inv, h.step.mono (fun b hb => hb.elim), hr⟩

theorem boxVar {b : Nat} {g' : GTy} {p : List PStep} {h : GTy} {x : den h} {u : Value} (ha : ArgR M (.ptr b g' p, some (.var h x)) u) :
    ∃ blk d, lk b M.bs = some (d, .var h x) ∧ g' = h ∧ inB h p ∧ blkOf (M.β b) = some blk ∧ u = .pointer (some ⟨blk, offs h p, none⟩) := by
  obtain ⟨d, B', h1, h2⟩ := ha.box b _ rfl rfl
  have hB : B' = .var h x := by
    cases B' with
    | var g'' x'' =>
      simp only [Box.fz, Box.var.injEq] at h2
      obtain ⟨rfl, h3⟩ := h2
      cases eq_of_heq h3
      rfl
    | row _ _ _ _ => simp [Box.fz] at h2
    | iter _ _ => simp [Box.fz] at h2
  subst hB
  have hr := ha.rel
  simp only [RelV] at hr
  obtain ⟨blk, d', B, k1, k2, k3, k4⟩ := hr
  rw [h1] at k1
  simp only [Option.some.injEq, Prod.mk.injEq] at k1
  obtain ⟨rfl, rfl⟩ := k1
  obtain ⟨rfl, k2⟩ := k2
  exact ⟨blk, d, h1, rfl, k2, k3, k4⟩

theorem boxRow {e : Nat} {h : GTy} {xs : List (den h)} {f : Bool} {b d} {B' : Box} (h1 : lk b M.bs = some (d, B')) (h2 : (Box.row e h xs f).fz = B'.fz) : ∃ f', B' = .row e h xs f' := by
  cases B' with
  | var _ _ => simp [Box.fz] at h2
  | iter _ _ => simp [Box.fz] at h2
  | row t' g' xs' f' =>
    simp only [Box.fz, Box.row.injEq] at h2
    obtain ⟨rfl, rfl, h3, _⟩ := h2
    cases eq_of_heq h3
    exact ⟨f', rfl⟩

theorem ptrRow {b : Nat} {g' : GTy} {p : List PStep} {e : Nat} {h : GTy} {xs : List (den h)} {f : Bool} {u : Value} (ha : ArgR M (.ptr b g' p, some (.row e h xs f)) u) :
    ∃ blk d f', lk b M.bs = some (d, .row e h xs f') ∧ okPath (.row e h xs f') g' p ∧ blkOf (M.β b) = some blk ∧ u = .pointer (some ⟨blk, offs g' p, none⟩) := by
  obtain ⟨d, B', h1, h2⟩ := ha.box b _ rfl rfl
  obtain ⟨f', rfl⟩ := boxRow h1 h2
  have hr := ha.rel
  simp only [RelV] at hr
  obtain ⟨blk, d', B, k1, k2, k3, k4⟩ := hr
  rw [h1] at k1
  simp only [Option.some.injEq, Prod.mk.injEq] at k1
  obtain ⟨rfl, rfl⟩ := k1
  exact ⟨blk, d, f', h1, k2, k3, k4⟩

/-! Loads -/

theorem loadCells_at {w : World} {blk off : Nat} {cs : List Value} (h : ∀ (j : Nat) v, cs[j]? = some v → w.cell? ⟨blk, off + j, none⟩ = some v) : (loadCells ⟨blk, off, none⟩ cs.length).run P w = .ok cs.toArray w :=
  run_loadCells_list w _ cs (fun j v hv => by rw [Addr.add_lit]; exact h j v hv)

theorem loadVar_at {t : TypeId} {i : TInfo} (T : TyOK P τ t i) {w W : World} {S : Stab} {x : den i.g} {cs : List Value} (he : Enc W S i.g x cs) {blk off : Nat} (h : ∀ (j : Nat) v, cs[j]? = some v → w.cell? ⟨blk, off + j, none⟩ = some v) :
    (loadVar t ⟨blk, off, none⟩).run P w = .ok (toVal i.g cs) w := by
  obtain ⟨ti, hi, hsz, _⟩ := T.info
  unfold loadVar
  simp only [Sem.run_bind, run_isAgg' T, Result.andThen_ok]
  cases ha : isAgg i.g with
  | true =>
    simp only [if_true, Sem.run_bind, run_sizeOf' hi, Result.andThen_ok, hsz, ← he.len, loadCells_at (P := P) h, Sem.run_pure, toVal, ha]
  | false =>
    obtain ⟨v, rfl⟩ := cells_one he ha
    have := h 0 v rfl
    simp only [Nat.add_zero] at this
    simp [run_load, this, toVal, ha]

theorem cells_of {w : World} {blk off : Nat} {cs : Array Value} {e : TypeId} {fr : Nat × Nat} (h : w.heap[blk]? = some (.cells cs e fr)) {a c r : List Value} (hcs : cs.toList = a ++ c ++ r) (ha : a.length = off) : ∀ (j : Nat) v, c[j]? = some v → w.cell? ⟨blk, off + j, none⟩ = some v := by
  intro j v hj
  have hl := (List.getElem?_eq_some_iff.1 hj).1
  rw [cell_of_row w blk (off + j) cs e fr h, ← Array.getElem?_toList, hcs, ← ha, List.append_assoc, List.getElem?_append_right (by omega)]
  rw [show a.length + j - a.length = j by omega, List.getElem?_append_left hl]
  exact hj

theorem loadEff_sound (TOK : TysOK P τ) (I : InvM R M) {t : TypeId} {i : TInfo} (hi : τ t = some i) {a : Arg} {u : Value} (ha : ArgR M a u) {e : Eff} (h : loadEff i.g a = some e) :
    ∃ v, (Instr.loadAt t u).run P M.w = .ok v M.w ∧ e.wr = [] ∧ RelV M e.av v ∧ ∃ y, e.av = .val i.g y := by
  have T := TOK t i hi
  unfold loadEff at h
  split at h
  · rename_i b g' p hh x
    split at h
    · rename_i k y hs
      split at h
      · rename_i hg _
        subst hg
        simp only [v0, Option.some.injEq] at h
        subst h
        obtain ⟨blk, d, h1, _, h2, h3, rfl⟩ := boxVar ha
        obtain ⟨blk', cs, e', hv', q2, q3, q4, q5⟩ := I.boxes b d _ h1
        have hbb : blk' = blk := by rw [hv'] at h3; simpa [blkOf] using h3
        subst hbb
        obtain ⟨a1, c1, r1, k1, k2, k3⟩ := Enc.sub p q3 hs h2
        have hl := loadVar_at (P := P) T (w := M.w) k3 (blk := blk') (off := offs hh p) (cells_of q2 k1 k2)
        refine ⟨_, by simpa [Instr.loadAt, Instr.sureAddr] using hl, rfl, ?_, y, rfl⟩
        simp only [RelV]; exact ⟨c1, k3, rfl⟩
      · cases h
    · cases h
  · rename_i b g' p el hh xs fz
    split at h
    · rename_i k y hs
      split at h
      · rename_i hg _
        subst hg
        simp only [v0, Option.some.injEq] at h
        subst h
        obtain ⟨blk, d, f', h1, h2, h3, rfl⟩ := ptrRow ha
        obtain ⟨cs, q1, q2, q3, q4, q5, q6⟩ := I.boxes b d _ h1
        obtain ⟨rfl, ii, q, hpq, hii, hq⟩ := h2
        have hpne : p ≠ [] := by rw [hpq]; simp
        have hs' := sub_any (m := xs.length) hpne hs
        have henc : Enc M.w M.S (.arr xs.length hh) xs cs := ⟨rfl, q2⟩
        have hin : inB (.arr xs.length hh) p := by rw [hpq]; exact ⟨hii, hq⟩
        obtain ⟨a1, c1, r1, k1, k2, k3⟩ := Enc.sub p henc hs' hin
        rcases q1.2 with ⟨hn, _⟩ | ⟨blk', cap, cur, hv', r1', r2, r3, r4, r5, r6⟩
        · rw [hn] at h3; simp [blkOf] at h3
        have hbb : blk' = blk := by rw [hv'] at h3; simpa [blkOf] using h3
        subst hbb
        have hcur : cur.toList = a1 ++ c1 ++ (r1 ++ cur.toList.drop (xs.length * ncell hh)) := by
          conv => lhs; rw [← List.take_append_drop (xs.length * ncell hh) cur.toList, r6, k1]
          simp
        have hl := loadVar_at (P := P) T (w := M.w) k3 (blk := blk') (off := offs (.arr 0 hh) p) (cells_of r2 hcur (by rw [k2, offs_any]))
        refine ⟨_, by simpa [Instr.loadAt, Instr.sureAddr] using hl, rfl, ?_, y, rfl⟩
        simp only [RelV]; exact ⟨c1, k3, rfl⟩
      · cases h
    · cases h
  · rename_i k y b
    split at h
    · rename_i hg _
      subst hg
      simp only [v0, Option.some.injEq] at h
      subst h
      have hr := ha.rel
      simp only [RelV] at hr
      obtain ⟨blk, off, cs, h1, h2, rfl⟩ := hr
      have hl := loadVar_at (P := P) T (w := M.w) h1 (blk := blk) (off := off) (fun j v hv => (h2 j v hv).1)
      refine ⟨_, by simpa [Instr.loadAt, Instr.sureAddr] using hl, rfl, ?_, y, rfl⟩
      simp only [RelV]; exact ⟨cs, h1, rfl⟩
    · cases h
  · cases h

/-! Stores -/

theorem storeVar_run {t : TypeId} {i : TInfo} (T : TyOK P τ t i) {w w' W : World} {S : Stab} {x : den i.g} {cs : List Value} (he : Enc W S i.g x cs) {a : Addr} (h : (storeCells a cs).run P w = .ok () w') : (storeVar t a (toVal i.g cs)).run P w = .ok () w' := by
  obtain ⟨ti, hi, hsz, _⟩ := T.info
  have hc := toVal_cells he
  have hs : (toVal i.g cs).cells.size = ncell i.g := by rw [← he.len, ← Array.length_toList, hc]
  unfold storeVar
  simp only [Sem.run_bind, run_sizeOf' hi, Result.andThen_ok, hsz, hs, ne_eq, not_true_eq_false, if_false, hc]
  exact h

theorem storeEff_sound (TOK : TysOK P τ) (I : InvM R M) {t : TypeId} {i : TInfo} (hi : τ t = some i) {va : AV} {v : Arg} {u uv : Value} (hra : RelV M va u) (hv : ArgR M v uv) {e : Eff} (h : storeEff i.g (argOf M.bs va) v = some e) :
    ∃ w', (Instr.storeAt t u uv).run P M.w = .ok () w' ∧ After R M e undef w' := by
  have T := TOK t i hi
  unfold storeEff at h
  split at h
  · cases h
  rename_i y ws ht
  obtain ⟨hk, S1, f1, vs, h3, rfl⟩ := take_sound I hv ht
  have ha1 := (ArgR.of hra).froze f1
  generalize hargeq : argOf M.bs va = a at h ha1
  split at h
  · rename_i b g' p hh x
    split at h
    · rename_i z hu
      simp only [Option.some.injEq] at h
      subst h
      obtain ⟨blk, d, h1, _, h2, h4, rfl⟩ := boxVar ha1
      obtain ⟨w', r1, r2, r3⟩ := f1.inv.store (P := P) h1 hu h2 h3 h4
      refine ⟨w', ?_, S1, M.β, by simpa [applyB_append, applyB] using r2, ?_, by simp [RelV]⟩
      · have := storeVar_run T h3 r1
        simpa [Instr.storeAt, Instr.sureAddr] using this
      · have := (f1.step.trans r3).mono (K' := killed (ws ++ [(b, false, .var hh z)])) (fun c hc => (hc.elim id id).elim)
        simpa [applyB_append, applyB] using this
    · cases h
  · rename_i b g' p el hh xs
    split at h
    · rename_i z hu
      simp only [Option.some.injEq] at h
      subst h
      obtain ⟨blk, d, f', h1, h2, h4, rfl⟩ := ptrRow ha1
      have hf : f' = false := by
        simp only [argOf, Prod.mk.injEq] at hargeq
        obtain ⟨rfl, hbox⟩ := hargeq
        simp only [boxOf] at hbox
        simp only [applyB] at h1
        rw [h1] at hbox
        simpa using hbox
      subst hf
      obtain ⟨w', r1, r2, r3⟩ := f1.inv.storeRow (P := P) h1 hu (by obtain ⟨rfl, q⟩ := h2; exact ⟨rfl, q⟩) h3 h4
      have hg : g' = .arr 0 hh := h2.1
      subst hg
      refine ⟨w', ?_, S1, M.β, by simpa [applyB] using r2, ?_, by simp [RelV]⟩
      · have := storeVar_run T h3 r1
        simpa [Instr.storeAt, Instr.sureAddr] using this
      · have := (f1.step.trans r3).mono (K' := killed [(b, false, .row el hh z false)]) (fun c hc => (hc.elim id id).elim)
        simpa [applyB] using this
    · cases h
  · cases h

/-! Addresses -/

theorem fieldPlace_run (TOK : TysOK P τ) {f : Field} {j : TInfo} (hj : τ f.type = some j) (h0 : 0 < ncell j.g) (blk off : Nat) (w : World) : (fieldPlace ⟨blk, off, none⟩ f).run P w = .ok ⟨blk, off + f.offset, none⟩ w := by
  obtain ⟨ti, hi, hsz, _⟩ := (TOK _ _ hj).info
  unfold fieldPlace
  simp only [Sem.run_bind, run_sizeOf' hi, Result.andThen_ok]
  rw [if_neg (by omega), Addr.add_lit]
  rfl

theorem structField {t : TypeId} {i : TInfo} (T : TyOK P τ t i) {k : Nat} {h : GTy} (hp : pathTy i.g (fieldPath i.nf k) = some h) (hs : ∃ a b, i.g = .prod a b) (hk : k < i.nf) :
    ∃ fs f j, P.underlying t = some (.struct fs) ∧ fs[k]? = some f ∧ f.offset = offs i.g (fieldPath i.nf k) ∧ inB i.g (fieldPath i.nf k) ∧ τ f.type = some j ∧ j.g = h ∧ 0 < ncell j.g := by
  have hd := T.desc
  obtain ⟨g, nf, by_, el⟩ := i
  obtain ⟨a, b, rfl⟩ := hs
  simp only at hd
  obtain ⟨fs, h1, h2, h3, h4, h5⟩ := hd
  have hlt : k < fs.size := by rw [h2]; exact hk
  obtain ⟨q1, q2, q3, j, q4, q5, q6⟩ := h5 k fs[k] (by simp [hlt])
  simp only at q5 hp
  rw [hp] at q5
  exact ⟨fs, fs[k], j, h1, by simp [hlt], q2, q3, q4, by simpa using q5.symm, q6⟩

theorem fieldOK_spec {i : TInfo} {k : Nat} (h : fieldOK i k = true) : (∃ a b, i.g = .prod a b) ∧ k < i.nf := by
  unfold fieldOK at h
  split at h
  · rename_i a b hg
    exact ⟨⟨a, b, hg⟩, by simpa [Nat.blt_eq] using h⟩
  · cases h

theorem fieldAddrEff_sound (TOK : TysOK P τ) (I : InvM R M) {t : TypeId} {i : TInfo} (hi : τ t = some i) {k : Nat} {va : AV} {u : Value} (ha : RelV M va u) {e : Eff} (h : fieldAddrEff i k (argOf M.bs va) = some e) :
    ∃ v, (Instr.fieldAt t u k).run P M.w = .ok v M.w ∧ e.wr = [] ∧ RelV M e.av v := by
  have T := TOK t i hi
  unfold fieldAddrEff at h
  split at h
  · rename_i b g p B hok hargeq
    simp only [argOf, Prod.mk.injEq] at hargeq
    obtain ⟨rfl, hbox⟩ := hargeq
    split at h
    · rename_i h1 h2 e1 e2
      split at h
      · rename_i hg _
        subst hg
        simp only [v0, Option.some.injEq] at h
        subst h
        obtain ⟨hp, hk⟩ := fieldOK_spec hok
        obtain ⟨fs, f, j, q1, q2, q3, q4, q5, q6, q7⟩ := structField T e2 hp hk
        simp only [RelV] at ha
        obtain ⟨blk, d, B', r1, r2, r3, rfl⟩ := ha
        refine ⟨.pointer (some ⟨blk, offs g p + f.offset, none⟩), ?_, rfl, ?_⟩
        · simp only [Instr.fieldAt, Sem.run_bind, run_underlying q1, Result.andThen_ok, q2, Instr.sureAddr, Sem.run_pure, fieldPlace_run TOK q5 q7]
        · simp only [RelV]
          refine ⟨blk, d, B', r1, ?_, r3, by rw [offs_append e1, q3]⟩
          cases B' with
          | var g' x => exact ⟨r2.1, inB_append e1 r2.2 q4⟩
          | iter _ _ =>
            obtain ⟨rfl, rfl⟩ := r2
            simp only [pathTy, Option.some.injEq] at e1
            obtain ⟨a', b', hp'⟩ := hp
            rw [hp'] at e1
            cases e1
          | row e' h' xs fz =>
            obtain ⟨rfl, ii, q, rfl, s1, s2⟩ := r2
            refine ⟨rfl, ii, q ++ fieldPath i.nf k, by simp, s1, inB_append (h := i.g) (by simpa [pathTy] using e1) s2 q4⟩
      · cases h
    · cases h
  · rename_i g x b hok hargeq
    simp only [argOf, Prod.mk.injEq] at hargeq
    obtain ⟨rfl, hbox⟩ := hargeq
    split at h
    · rename_i hg _
      subst hg
      split at h
      · rename_i hh y hs
        simp only [v0, Option.some.injEq] at h
        subst h
        obtain ⟨hp, hk⟩ := fieldOK_spec hok
        obtain ⟨fs, f, j, q1, q2, q3, q4, q5, q6, q7⟩ := structField T (pathTy_sub hs) hp hk
        simp only [RelV] at ha
        obtain ⟨blk, off, cs, r1, r2, rfl⟩ := ha
        obtain ⟨a1, c1, r, k1, k2, k3⟩ := Enc.sub _ r1 hs q4
        refine ⟨.pointer (some ⟨blk, off + f.offset, none⟩), ?_, rfl, ?_⟩
        · simp only [Instr.fieldAt, Sem.run_bind, run_underlying q1, Result.andThen_ok, q2, Instr.sureAddr, Sem.run_pure, fieldPlace_run TOK q5 q7]
        · simp only [RelV]
          refine ⟨blk, off + f.offset, c1, k3, fun jj v hv => ?_, rfl⟩
          have hl := (List.getElem?_eq_some_iff.1 hv).1
          have := r2 (f.offset + jj) v (by rw [k1, q3, ← k2, List.append_assoc, List.getElem?_append_right (by omega), show a1.length + jj - a1.length = jj by omega, List.getElem?_append_left hl]; exact hv)
          rw [Nat.add_assoc]
          exact this
      · cases h
    · cases h
  · cases h

theorem fieldEff_sound (TOK : TysOK P τ) {t : TypeId} {i : TInfo} (hi : τ t = some i) {k : Nat} {va : AV} {u : Value} (ha : RelV M va u) {e : Eff} (h : fieldEff i k (argOf M.bs va) = some e) :
    ∃ v, (Instr.field t u k).run P M.w = .ok v M.w ∧ e.wr = [] ∧ RelV M e.av v := by
  have T := TOK t i hi
  unfold fieldEff at h
  split at h
  · rename_i g x b hok hargeq
    simp only [argOf, Prod.mk.injEq] at hargeq
    obtain ⟨rfl, hbox⟩ := hargeq
    split at h
    · rename_i hg _
      subst hg
      split at h
      · rename_i hh y hs
        simp only [v0, Option.some.injEq] at h
        subst h
        obtain ⟨hp, hk⟩ := fieldOK_spec hok
        obtain ⟨fs, f, j, q1, q2, q3, q4, q5, q6, q7⟩ := structField T (pathTy_sub hs) hp hk
        simp only [RelV] at ha
        obtain ⟨cs, r1, rfl⟩ := ha
        obtain ⟨a1, c1, r, k1, k2, k3⟩ := Enc.sub _ r1 hs q4
        subst q6
        have hagg : isAgg i.g = true := by obtain ⟨a, b, hab⟩ := hp; rw [hab]; rfl
        have hps := part_sound (P := P) (w := M.w) (TOK _ _ q5) k3 (cs := cs.toArray) (a := a1) (c := c1) (r := r) (by simpa using k1) (off := f.offset) (by rw [k2, q3])
        refine ⟨toVal j.g c1, ?_, rfl, ?_⟩
        · simp only [Instr.field, Sem.run_bind, run_underlying q1, Result.andThen_ok, q2, toVal, hagg, asAgg, Sem.run_pure]
          simpa [toVal] using hps
        · simp only [RelV]; exact ⟨c1, k3, rfl⟩
      · cases h
    · cases h
  · cases h
end
end Go.Ev
/- Indexes, pieces, lengths, conversions. -/
set_option linter.unusedVariables false
set_option linter.unusedSimpArgs false
namespace Go.Ev
section
variable {P : Program} {τ : Tys} {R : Ref} {M : Mem}

theorem inB_nil (g : GTy) : inB g [] := by cases g <;> trivial

theorem asIntAV_spec {v : AV} {i : Int} {u : Value} (h : asIntAV v = some i) (hr : RelV M v u) : ∃ k, u = .int k i ∧ k.has i := by
  unfold asIntAV at h
  split at h
  · rename_i k n
    simp only [Option.some.injEq] at h
    subst h
    obtain ⟨h1, h2⟩ := relInt hr
    exact ⟨k, h1, h2⟩
  · cases h

theorem ix_spec {i n : Int} {known : Bool} {f : Option Prop → Eff} {e : Eff} (h : ix i n known (fun q => some (f q)) = some e) (hn : e.ok) (hf : ∀ q, (f q).need = q) : 0 ≤ i ∧ i < n ∧ ∃ q, e = f q := by
  rcases needIf_spec h with ⟨_, h⟩ | ⟨hp, h⟩
  · simp only [Option.some.injEq] at h
    subst h
    have := hn _ (hf _)
    exact ⟨this.1, this.2, _, rfl⟩
  · simp only [Option.some.injEq] at h
    subst h
    exact ⟨hp.1, hp.2, _, rfl⟩

theorem encL_at {g : GTy} {w : World} {S : Stab} {xs : List (den g)} {cs : List Value} (h : encL (Enc w S g) xs cs) {i : Nat} (hi : i < xs.length) :
    ∃ a c r, cs = a ++ c ++ r ∧ a.length = i * ncell g ∧ Enc w S g (xs.getD i (zero g)) c :=
  encL_get (f := Enc w S g) (fun _ _ => Enc.len) i _ h (getD_some xs i (zero g) hi)

theorem argOf_eq {bs : Bxs} {va v : AV} {B : Option Box} (h : argOf bs va = (v, B)) : va = v ∧ (match boxOf v with | some b => (lk b bs).map (·.2) | none => none) = B := by
  simp only [argOf, Prod.mk.injEq] at h
  obtain ⟨rfl, h⟩ := h
  exact ⟨rfl, h⟩

theorem relTip {b : Nat} {u : Value} {B : Box} (ha : RelV M (.tip b) u) (hb : (lk b M.bs).map (·.2) = some B) : (∃ d, lk b M.bs = some (d, B)) ∧ u = M.β b := by
  simp only [RelV] at ha
  cases hl : lk b M.bs with
  | none => rw [hl] at hb; cases hb
  | some x =>
    rw [hl] at hb
    simp at hb
    exact ⟨⟨x.1, by rw [← hb]⟩, ha.2⟩
theorem rowCells (I : InvM R M) {b : Nat} {d : Bool} {e : Nat} {g : GTy} {xs : List (den g)} {fz : Bool} (hb : lk b M.bs = some (d, .row e g xs fz)) :
    (M.β b = .slice none 0 0 ∧ xs = []) ∨ ∃ blk cap cs, M.β b = .slice (some ⟨blk, 0, none⟩) xs.length cap ∧ xs.length ≤ cap ∧ encL (Enc M.w M.S g) xs cs ∧ ∀ (j : Nat) v, cs[j]? = some v → M.w.cell? ⟨blk, j, none⟩ = some v := by
  obtain ⟨cs, q1, q2, q3, q4, q5, q6⟩ := I.boxes b d _ hb
  rcases q1.2 with ⟨hn, h0⟩ | ⟨blk, cap, cur, hv, r1, r2, r3, r4, r5, r6⟩
  · exact .inl ⟨hn, List.eq_nil_of_length_eq_zero h0⟩
  · refine .inr ⟨blk, cap, cs, hv, r3, q2, fun j v hj => ?_⟩
    have hcur : cur.toList = [] ++ cs ++ cur.toList.drop (xs.length * ncell g) := by
      conv => lhs; rw [← List.take_append_drop (xs.length * ncell g) cur.toList, r6]
      simp
    have := cells_of r2 hcur (off := 0) rfl j v hj
    simpa using this

theorem relSl {g : GTy} {xs : List (den g)} {u : Value} (ha : RelV M (.val (.sl g) xs) u) : ∃ ad cap, u = .slice ad xs.length cap ∧ xs.length ≤ cap ∧ xs.length * lbytes g ≤ maxRow ∧ xs.length ≤ maxRow ∧
    (xs = [] ∨ ∃ blk off cs, ad = some ⟨blk, off, none⟩ ∧ encL (Enc M.w M.S g) xs cs ∧ ∀ (j : Nat) v, cs[j]? = some v → M.w.cell? ⟨blk, off + j, none⟩ = some v ∧ M.S blk (off + j)) := by
  simp only [RelV, Enc] at ha
  obtain ⟨cs, ⟨ad, cap, rfl, h1, h2, h3, h4⟩, rfl⟩ := ha
  exact ⟨ad, cap, rfl, h1, h2, h3, h4⟩

theorem indexAddrEff_sound (TOK : TysOK P τ) (I : InvM R M) {t : TypeId} {i : TInfo} (hi : τ t = some i) {known : Bool} {va vi : AV} {u ui : Value} (ha : RelV M va u) (hvi : RelV M vi ui) {e : Eff} (h : indexAddrEff i.g known (argOf M.bs va) (argOf M.bs vi) = some e) (hn : e.ok) :
    ∃ v, (Instr.indexAt t u ui).run P M.w = .ok v M.w ∧ e.wr = [] ∧ RelV M e.av v := by
  have T := TOK t i hi
  have hd := T.desc
  unfold indexAddrEff at h
  split at h
  · cases h
  rename_i n hii
  obtain ⟨k, rfl, hk⟩ := asIntAV_spec hii hvi
  obtain ⟨g, nf, by_, el⟩ := i
  simp only at h hd
  split at h
  · rename_i _ len hh b g' p gg xx hargeq
    obtain ⟨rfl, hbox⟩ := argOf_eq hargeq
    split at h
    · rename_i kk hp
      split at h
      · rename_i hgd _
        subst hgd
        obtain ⟨h0, h1, q, rfl⟩ := ix_spec (f := fun q => ⟨.ptr b g' (p ++ [.idx n.toNat]), [], q⟩) h hn (fun _ => rfl)
        simp only at hd
        obtain ⟨ee, j, q1, q2, rfl⟩ := hd
        obtain ⟨ti, hti, hsz, _⟩ := (TOK _ _ q2).info
        simp only [RelV] at ha
        obtain ⟨blk, d, B', r1, r2, r3, rfl⟩ := ha
        refine ⟨.pointer (some ⟨blk, offs g' p + n.toNat * ncell j.g, none⟩), ?_, rfl, ?_⟩
        · simp only [Instr.indexAt, asIntOf, Sem.run_bind, Sem.run_pure, Result.andThen_ok, run_underlying q1, Instr.sureAddr, h0, h1, and_self, if_true, run_sizeOf' hti, Addr.add_lit, hsz]
        · simp only [RelV]
          have hin : inB (.arr len j.g) [.idx n.toNat] := by simp only [inB, and_true]; omega
          refine ⟨blk, d, B', r1, ?_, r3, by rw [offs_append hp]; simp [offs]⟩
          cases B' with
          | var g2 x => exact ⟨r2.1, inB_append hp r2.2 hin⟩
          | iter _ _ =>
            obtain ⟨rfl, rfl⟩ := r2
            simp [pathTy] at hp
          | row e' h' xs fz =>
            obtain ⟨rfl, ii, q, rfl, s1, s2⟩ := r2
            exact ⟨rfl, ii, q ++ [.idx n.toNat], by simp, s1, inB_append (by simpa [pathTy] using hp) s2 hin⟩
      · cases h
    · cases h
  · rename_i _ kk b el' hh xs fz hargeq
    obtain ⟨rfl, hbox⟩ := argOf_eq hargeq
    split at h
    · rename_i hgd _
      subst hgd
      obtain ⟨h0, h1, q, rfl⟩ := ix_spec (f := fun q => ⟨.ptr b (.arr 0 kk) [.idx n.toNat], [], q⟩) h hn (fun _ => rfl)
      simp only at hd
      obtain ⟨ee, j, ti, q1, _, q2, rfl, hti, _⟩ := hd
      obtain ⟨ti', hti', hsz, _⟩ := (TOK _ _ q2).info
      obtain ⟨⟨d, hb⟩, rfl⟩ := relTip ha hbox
      rcases rowCells I hb with ⟨_, rfl⟩ | ⟨blk, cap, cs, hβ, hcap, _⟩
      · simp at h1; omega
      refine ⟨.pointer (some ⟨blk, n.toNat * ncell j.g, none⟩), ?_, rfl, ?_⟩
      · rw [hβ]
        simp only [Instr.indexAt, asIntOf, Sem.run_bind, Sem.run_pure, Result.andThen_ok, run_underlying q1, h0, h1, and_self, if_true, run_sizeOf' hti', Addr.add_lit, hsz, Nat.zero_add]
      · simp only [RelV]
        refine ⟨blk, d, _, hb, ⟨rfl, n.toNat, [], rfl, by omega, inB_nil _⟩, by rw [hβ]; rfl, by simp [offs]⟩
    · cases h
  · rename_i _ kk hh xs b hargeq
    obtain ⟨rfl, hbox⟩ := argOf_eq hargeq
    split at h
    · rename_i hgd _
      subst hgd
      obtain ⟨h0, h1, q, rfl⟩ := ix_spec (f := fun q => ⟨.ref kk (List.getD (α := den kk) xs n.toNat (zero kk)), [], q⟩) h hn (fun _ => rfl)
      simp only at hd
      obtain ⟨ee, j, ti, q1, _, q2, rfl, hti, _⟩ := hd
      obtain ⟨ti', hti', hsz, _⟩ := (TOK _ _ q2).info
      obtain ⟨ad, cap, rfl, h2, h3, h4, h5⟩ := relSl ha
      rcases h5 with rfl | ⟨blk, off, cs, rfl, h6, h7⟩
      · simp at h1; omega
      have hlt : n.toNat < List.length (α := den j.g) xs := by omega
      obtain ⟨a1, c1, r1, k1, k2, k3⟩ := encL_at h6 hlt
      refine ⟨.pointer (some ⟨blk, off + n.toNat * ncell j.g, none⟩), ?_, rfl, ?_⟩
      · simp only [Instr.indexAt, asIntOf, Sem.run_bind, Sem.run_pure, Result.andThen_ok, run_underlying q1, h0, h1, and_self, if_true, run_sizeOf' hti', Addr.add_lit, hsz]
      · simp only [RelV]
        refine ⟨blk, off + n.toNat * ncell j.g, c1, k3, fun jj v hv => ?_, rfl⟩
        have hl := (List.getElem?_eq_some_iff.1 hv).1
        have := h7 (n.toNat * ncell j.g + jj) v (by rw [k1, ← k2, List.append_assoc, List.getElem?_append_right (by omega), show a1.length + jj - a1.length = jj by omega, List.getElem?_append_left hl]; exact hv)
        rw [Nat.add_assoc]
        exact this
    · cases h
  · rename_i _ m kk len hh xs b hargeq
    obtain ⟨rfl, hbox⟩ := argOf_eq hargeq
    split at h
    · rename_i hgd _
      injection hgd with e1 e2
      subst e1; subst e2
      obtain ⟨h0, h1, q, rfl⟩ := ix_spec (f := fun q => ⟨.ref kk (List.getD (α := den kk) xs n.toNat (zero kk)), [], q⟩) h hn (fun _ => rfl)
      simp only at hd
      obtain ⟨ee, j, q1, q2, rfl⟩ := hd
      obtain ⟨ti', hti', hsz, _⟩ := (TOK _ _ q2).info
      simp only [RelV] at ha
      obtain ⟨blk, off, cs, ⟨hlen, h6⟩, h7, rfl⟩ := ha
      have hlt : n.toNat < List.length (α := den j.g) xs := by omega
      obtain ⟨a1, c1, r1, k1, k2, k3⟩ := encL_at h6 hlt
      refine ⟨.pointer (some ⟨blk, off + n.toNat * ncell j.g, none⟩), ?_, rfl, ?_⟩
      · simp only [Instr.indexAt, asIntOf, Sem.run_bind, Sem.run_pure, Result.andThen_ok, run_underlying q1, Instr.sureAddr, h0, h1, and_self, if_true, run_sizeOf' hti', Addr.add_lit, hsz]
      · simp only [RelV]
        refine ⟨blk, off + n.toNat * ncell j.g, c1, k3, fun jj v hv => ?_, rfl⟩
        have hl := (List.getElem?_eq_some_iff.1 hv).1
        have := h7 (n.toNat * ncell j.g + jj) v (by rw [k1, ← k2, List.append_assoc, List.getElem?_append_right (by omega), show a1.length + jj - a1.length = jj by omega, List.getElem?_append_left hl]; exact hv)
        rw [Nat.add_assoc]
        exact this
    · cases h
  · cases h

theorem indexEff_sound (TOK : TysOK P τ) {t : TypeId} {i : TInfo} (hi : τ t = some i) {known : Bool} {va vi : AV} {u ui : Value} (ha : RelV M va u) (hvi : RelV M vi ui) {e : Eff} (h : indexEff i.g known (argOf M.bs va) (argOf M.bs vi) = some e) (hn : e.ok) :
    ∃ v, (Instr.index t u ui).run P M.w = .ok v M.w ∧ e.wr = [] ∧ RelV M e.av v := by
  have T := TOK t i hi
  have hd := T.desc
  unfold indexEff at h
  split at h
  · cases h
  rename_i n hii
  obtain ⟨k, rfl, hk⟩ := asIntAV_spec hii hvi
  obtain ⟨g, nf, by_, el⟩ := i
  simp only at h hd
  split at h
  · rename_i _ m kk len hh xs b hargeq
    obtain ⟨rfl, hbox⟩ := argOf_eq hargeq
    split at h
    · rename_i hgd _
      injection hgd with e1 e2
      subst e1; subst e2
      obtain ⟨h0, h1, q, rfl⟩ := ix_spec (f := fun q => ⟨.val kk (List.getD (α := den kk) xs n.toNat (zero kk)), [], q⟩) h hn (fun _ => rfl)
      simp only at hd
      obtain ⟨ee, j, q1, q2, rfl⟩ := hd
      obtain ⟨ti', hti', hsz, _⟩ := (TOK _ _ q2).info
      simp only [RelV] at ha
      obtain ⟨cs, ⟨hlen, h6⟩, rfl⟩ := ha
      have hlt : n.toNat < List.length (α := den j.g) xs := by omega
      obtain ⟨a1, c1, r1, k1, k2, k3⟩ := encL_at h6 hlt
      have hps := part_sound (P := P) (w := M.w) (TOK _ _ q2) k3 (cs := cs.toArray) (a := a1) (c := c1) (r := r1) (by simpa using k1) (off := n.toNat * ncell j.g) k2
      refine ⟨toVal j.g c1, ?_, rfl, ?_⟩
      · show (Instr.index t (.agg cs.toArray) _).run P M.w = _
        simp only [Instr.index, asIntOf, Sem.run_bind, Sem.run_pure, Result.andThen_ok, run_underlying q1, h0, h1, and_self, if_true, run_sizeOf' hti', hsz]
        exact hps
      · simp only [RelV]; exact ⟨c1, k3, rfl⟩
    · cases h
  · rename_i _ s b hargeq
    obtain ⟨rfl, hbox⟩ := argOf_eq hargeq
    obtain ⟨h0, h1, q, rfl⟩ := ix_spec (f := fun q => ⟨.val (.int .u8) ((List.getD (α := UInt8) s n.toNat 0).toNat : Int), [], q⟩) h hn (fun _ => rfl)
    obtain ⟨rfl, _⟩ := relStr ha
    simp only at hd
    have hlt : n.toNat < List.length (α := UInt8) s := by omega
    refine ⟨.int .u8 ((List.getD (α := UInt8) s n.toNat 0).toNat : Int), ?_, rfl, mkInt ?_⟩
    · have hg : (⟨⟨s⟩⟩ : ByteArray)[n.toNat]? = some (List.getD (α := UInt8) s n.toNat 0) := by
        rw [← getD_some (α := UInt8) s n.toNat 0 hlt, getElem?_pos (⟨⟨s⟩⟩ : ByteArray) n.toNat hlt, List.getElem?_eq_getElem hlt]
        rfl
      simp only [Instr.index, asIntOf, Sem.run_bind, Sem.run_pure, Result.andThen_ok, run_underlying hd, h0, if_true, hg]
    · have := UInt8.toNat_lt (List.getD (α := UInt8) s n.toNat 0)
      refine ⟨?_, ?_⟩
      · show (0 : Int) ≤ _; omega
      · show _ ≤ (255 : Int); omega
  · cases h
end
end Go.Ev
/- Pieces, lengths, conversions, tests. -/
set_option linter.unusedVariables false
set_option linter.unusedSimpArgs false
namespace Go.Ev
section
variable {P : Program} {τ : Tys} {R : Ref} {M : Mem}
def IntOpt (o : Option Int) (v : Option Value) : Prop :=
  match o, v with
  | none, none => True
  | some i, some v => ∃ k, v = .int k i
  | _, _ => False

theorem bounds_spec {lo hi mx : Option Operand} {ρ : Operand → Value} {l : List AV} {bs : Option Int × Option Int × Option Int} (h : bounds lo.isSome hi.isSome mx.isSome (l.map (argOf M.bs)) = some bs)
    (hr : RelL M l ((lo.toList ++ hi.toList ++ mx.toList).map ρ)) : IntOpt bs.1 (lo.map ρ) ∧ IntOpt bs.2.1 (hi.map ρ) ∧ IntOpt bs.2.2 (mx.map ρ) := by
  have one : ∀ {v : AV} {i : Int} {u : Value}, asIntAV v = some i → RelV M v u → ∃ k, u = .int k i := fun h1 h2 => let ⟨k, e, _⟩ := asIntAV_spec h1 h2; ⟨k, e⟩
  cases lo <;> cases hi <;> cases mx <;> simp only [Option.isSome_none, Option.isSome_some, Option.toList_none, Option.toList_some, List.nil_append, List.append_nil, List.map_nil, List.map_cons, List.singleton_append, List.cons_append] at h hr
  · match l, hr with
    | [], _ =>
      simp [bounds] at h; subst h; simp [IntOpt]
  · match l, hr with
    | [c], _ => simp [bounds] at h
  · match l, hr with
    | [b], hr =>
      simp only [RelL, and_true] at hr
      simp only [bounds, List.map_cons, List.map_nil, argOf] at h
      cases hb : asIntAV b with
      | none => simp [hb] at h
      | some j => simp [hb] at h; subst h; exact ⟨trivial, one hb hr, trivial⟩
  · match l, hr with
    | [b, c], hr =>
      simp only [RelL, and_true] at hr
      simp only [bounds, List.map_cons, List.map_nil, argOf] at h
      cases hb : asIntAV b with
      | none => simp [hb] at h
      | some j =>
        cases hc : asIntAV c with
        | none => simp [hb, hc] at h
        | some m => simp [hb, hc] at h; subst h; exact ⟨trivial, one hb hr.1, one hc hr.2⟩
  · match l, hr with
    | [b], hr =>
      simp only [RelL, and_true] at hr
      simp only [bounds, List.map_cons, List.map_nil, argOf] at h
      cases hb : asIntAV b with
      | none => simp [hb] at h
      | some j => simp [hb] at h; subst h; exact ⟨one hb hr, trivial, trivial⟩
  · match l, hr with
    | [b, c], _ => simp [bounds] at h
  · match l, hr with
    | [b, c], hr =>
      simp only [RelL, and_true] at hr
      simp only [bounds, List.map_cons, List.map_nil, argOf] at h
      cases hb : asIntAV b with
      | none => simp [hb] at h
      | some j =>
        cases hc : asIntAV c with
        | none => simp [hb, hc] at h
        | some m => simp [hb, hc] at h; subst h; exact ⟨one hb hr.1, one hc hr.2, trivial⟩
  · match l, hr with
    | [a, b, c], hr =>
      simp only [RelL, and_true] at hr
      simp only [bounds, List.map_cons, List.map_nil, argOf] at h
      cases ha : asIntAV a with
      | none => simp [ha] at h
      | some i =>
        cases hb : asIntAV b with
        | none => simp [ha, hb] at h
        | some j =>
          cases hc : asIntAV c with
          | none => simp [ha, hb, hc] at h
          | some m => simp [ha, hb, hc] at h; subst h; exact ⟨one ha hr.1, one hb hr.2.1, one hc hr.2.2⟩
def loOf (lo : Option Int) : Nat := match lo with | none => 0 | some i => i.toNat
def hiOf (hi : Option Int) (n : Nat) : Nat := match hi with | none => n | some j => j.toNat

theorem piece_list {α : Type} (l : List α) (lo hi : Option Int) : (piece l lo hi).1 = (l.take (hiOf hi l.length)).drop (loOf lo) := by
  cases lo <;> cases hi <;> simp [piece, loOf, hiOf]

theorem piece_ok {α : Type} {l : List α} {lo hi : Option Int} (h : ∀ p, (piece l lo hi).2 = some p → p) : loOf lo ≤ hiOf hi l.length ∧ hiOf hi l.length ≤ l.length ∧ (∀ i, lo = some i → 0 ≤ i) ∧ (∀ j, hi = some j → 0 ≤ j) := by
  cases lo with
  | none =>
    cases hi with
    | none => simp [loOf, hiOf]
    | some j =>
      have := h _ rfl
      simp [loOf, hiOf]; omega
  | some i =>
    cases hi with
    | none =>
      have := h _ rfl
      simp [loOf, hiOf]; omega
    | some j =>
      have := h _ rfl
      simp [loOf, hiOf]; omega

theorem sliceBounds_run {isSlice : Bool} {n c : Nat} {lo hi mx : Option Int} {vlo vhi vmx : Option Value} (h1 : IntOpt lo vlo) (h2 : IntOpt hi vhi) (h3 : IntOpt mx vmx) (hnc : n ≤ c) (a : loOf lo ≤ hiOf hi n) (b : hiOf hi n ≤ n) (c1 : ∀ i, lo = some i → 0 ≤ i) (c2 : ∀ j, hi = some j → 0 ≤ j)
    (c3 : ∀ m, mx = some m → hi.isSome = true ∧ 0 ≤ m ∧ (hiOf hi n : Int) ≤ m ∧ m ≤ c) (w : World) :
    (Instr.sliceBounds isSlice n c vlo vhi vmx).run P w = .ok (loOf lo, hiOf hi n, match mx with | none => c | some m => m.toNat) w := by
  have hb : ∀ {i : Int} {y : Nat} {k : IntKind} {code : BoundsCode}, 0 ≤ i → i ≤ y → (Instr.sliceBound (.int k i) y code).run P w = .ok i.toNat w := by
    intro i y k code h0 h1
    simp [Instr.sliceBound, asIntOf, h0, h1]
  cases lo with
  | none =>
    cases vlo with
    | some _ => exact h1.elim
    | none =>
      cases hi with
      | none =>
        cases vhi with
        | some _ => exact h2.elim
        | none =>
          cases mx with
          | some m => have := (c3 m rfl).1; simp at this
          | none =>
            cases vmx with
            | some _ => exact h3.elim
            | none => simp [Instr.sliceBounds, loOf, hiOf]
      | some j =>
        cases vhi with
        | none => exact h2.elim
        | some v =>
          obtain ⟨k, rfl⟩ := h2
          have j0 := c2 j rfl
          simp only [hiOf] at b
          cases mx with
          | none =>
            cases vmx with
            | some _ => exact h3.elim
            | none => simp [Instr.sliceBounds, loOf, hiOf, hb j0 (show j ≤ ((c : Nat) : Int) by omega)]
          | some m =>
            cases vmx with
            | none => exact h3.elim
            | some v =>
              obtain ⟨k', rfl⟩ := h3
              obtain ⟨_, m0, m1, m2⟩ := c3 m rfl
              simp only [hiOf] at m1
              simp [Instr.sliceBounds, loOf, hiOf, hb m0 m2, hb j0 (show j ≤ ((m.toNat : Nat) : Int) by omega)]
  | some i =>
    cases vlo with
    | none => exact h1.elim
    | some v =>
      obtain ⟨ki, rfl⟩ := h1
      have i0 := c1 i rfl
      simp only [loOf] at a
      cases hi with
      | none =>
        cases vhi with
        | some _ => exact h2.elim
        | none =>
          cases mx with
          | some m => have := (c3 m rfl).1; simp at this
          | none =>
            cases vmx with
            | some _ => exact h3.elim
            | none =>
              simp only [hiOf] at a
              simp [Instr.sliceBounds, loOf, hiOf, hb i0 (show i ≤ ((n : Nat) : Int) by omega)]
      | some j =>
        cases vhi with
        | none => exact h2.elim
        | some v =>
          obtain ⟨k, rfl⟩ := h2
          have j0 := c2 j rfl
          simp only [hiOf] at a b
          cases mx with
          | none =>
            cases vmx with
            | some _ => exact h3.elim
            | none => simp [Instr.sliceBounds, loOf, hiOf, hb j0 (show j ≤ ((c : Nat) : Int) by omega), hb i0 (show i ≤ ((j.toNat : Nat) : Int) by omega)]
          | some m =>
            cases vmx with
            | none => exact h3.elim
            | some v =>
              obtain ⟨k', rfl⟩ := h3
              obtain ⟨_, m0, m1, m2⟩ := c3 m rfl
              simp only [hiOf] at m1
              simp [Instr.sliceBounds, loOf, hiOf, hb m0 m2, hb j0 (show j ≤ ((m.toNat : Nat) : Int) by omega), hb i0 (show i ≤ ((j.toNat : Nat) : Int) by omega)]

theorem encL_split {α : Type} {f : α → List Value → Prop} {n : Nat} (hn : ∀ x c, f x c → c.length = n) : ∀ (k : Nat) {xs : List α} {cs : List Value}, encL f xs cs → encL f (xs.take k) (cs.take (k * n)) ∧ encL f (xs.drop k) (cs.drop (k * n))
  | 0, xs, cs, h => by simp [encL]; exact h
  | k + 1, [], cs, h => by rw [show cs = [] from h]; simp [encL]
  | k + 1, x :: xs, cs, ⟨c, d, e, h1, h2⟩ => by
    obtain ⟨q1, q2⟩ := encL_split hn k h2
    have hl := hn _ _ h1
    have e1 : (k + 1) * n = c.length + k * n := by rw [hl, Nat.add_mul, Nat.one_mul, Nat.add_comm]
    rw [e, e1]
    refine ⟨⟨c, d.take (k * n), ?_, h1, q1⟩, ?_⟩
    · simp [List.take_append]
      rw [List.take_of_length_le (by omega)]
    · simp only [List.drop_succ_cons]
      rw [show (c ++ d).drop (c.length + k * n) = d.drop (k * n) from by simp]
      exact q2
end
end Go.Ev
/- Slice expressions, len, conversions, operators, picks. -/
set_option linter.unusedVariables false
set_option linter.unusedSimpArgs false
namespace Go.Ev
section
variable {P : Program} {τ : Tys} {R : Ref} {M : Mem}

theorem str_extract (s : List UInt8) (l h : Nat) (h1 : l ≤ h) (h2 : h ≤ s.length) : (⟨⟨s⟩⟩ : ByteArray).extract l h = ⟨⟨(s.take h).drop l⟩⟩ := by
  apply ByteArray.ext
  rw [ByteArray.data_extract]
  apply Array.ext'
  rw [Array.toList_extract]
  simp [List.extract_eq_take_drop, List.drop_take]
theorem relPiece {g : GTy} {xs : List (den g)} {ad : Option Addr} {cap : Nat} {S : Stab} {lo hi : Nat} (h1 : lo ≤ hi) (h2 : hi ≤ xs.length) (hcap : xs.length ≤ cap) {m : Nat} (hm : hi ≤ m) (hb : xs.length * lbytes g ≤ maxRow) (hl : xs.length ≤ maxRow)
    (hx : xs = [] ∨ ∃ blk off cs, ad = some ⟨blk, off, none⟩ ∧ encL (Enc M.w S g) xs cs ∧ ∀ (j : Nat) v, cs[j]? = some v → M.w.cell? ⟨blk, off + j, none⟩ = some v ∧ S blk (off + j)) (size : Nat) (hsz : size = ncell g) (a' : Option Addr) (ha' : m ≠ lo → a' = ad.map (·.add (lo * size))) :
    Enc M.w S (.sl g) ((xs.take hi).drop lo) [.slice a' (hi - lo) (m - lo)] := by
  have hlen : ((xs.take hi).drop lo).length = hi - lo := by simp; omega
  refine ⟨a', m - lo, by rw [show List.length (α := den g) ((xs.take hi).drop lo) = hi - lo from hlen], by show ((xs.take hi).drop lo).length ≤ _; rw [hlen]; omega, ?_, ?_, ?_⟩
  · show ((xs.take hi).drop lo).length * lbytes g ≤ maxRow
    rw [hlen]
    exact Nat.le_trans (Nat.mul_le_mul_right _ (by omega)) hb
  · show ((xs.take hi).drop lo).length ≤ maxRow
    rw [hlen]; omega
  · by_cases he : lo = hi
    · left
      apply List.eq_nil_of_length_eq_zero
      show ((xs.take hi).drop lo).length = 0
      rw [hlen]; omega
    · right
      rcases hx with rfl | ⟨blk, off, cs, rfl, e1, e2⟩
      · simp at h2; omega
      · have hs1 := (encL_split (f := Enc M.w S g) (fun _ _ hh => Enc.len hh) hi e1).1
        have hs2 := (encL_split (f := Enc M.w S g) (fun _ _ hh => Enc.len hh) lo hs1).2
        refine ⟨blk, off + lo * ncell g, _, ?_, hs2, fun j v hj => ?_⟩
        · rw [ha' (by omega), hsz]
          simp [Addr.add_lit]
        · rw [List.getElem?_drop] at hj
          have hj' : cs[lo * ncell g + j]? = some v := by
            rw [List.getElem?_take] at hj
            split at hj
            · exact hj
            · cases hj
          rw [Nat.add_assoc]
          exact e2 _ v hj'

theorem sliceEff_sound (TOK : TysOK P τ) (I : InvM R M) {t : TypeId} {i : TInfo} (hi : τ t = some i) {va : AV} {u : Value} (ha : RelV M va u) {bs : Option Int × Option Int × Option Int} {lo hi' mx : Option Value} (hb : IntOpt bs.1 lo ∧ IntOpt bs.2.1 hi' ∧ IntOpt bs.2.2 mx) {e : Eff} (h : sliceEff i.g (argOf M.bs va) (some bs) = some e) (hn : e.ok) :
    ∃ v, (Instr.sliceAt t u lo hi' mx).run P M.w = .ok v M.w ∧ After R M e v M.w := by
  have T := TOK t i hi
  have hd := T.desc
  obtain ⟨blo, bhi, bmx⟩ := bs
  obtain ⟨hb1, hb2, hb3⟩ := hb
  unfold sliceEff at h
  obtain ⟨g, nf, by_, el⟩ := i
  simp only at h hd
  split at h
  · rename_i s b hargeq
    obtain ⟨rfl, hbox⟩ := argOf_eq hargeq
    split at h
    · simp only [Option.some.injEq] at h
      subst h
      obtain ⟨rfl, hs⟩ := relStr ha
      obtain ⟨p1, p2, p3, p4⟩ := piece_ok (l := s) (lo := blo) (hi := bhi) (fun p hp => hn p hp)
      have hsb := sliceBounds_run (P := P) (isSlice := false) (n := s.length) (c := s.length) hb1 hb2 hb3 (Nat.le_refl _) p1 p2 p3 p4 (fun m hm => by cases hm) M.w
      simp only at hd
      have hmx : mx = none := by cases mx with | none => rfl | some _ => exact hb3.elim
      subst hmx
      refine ⟨.string ⟨⟨(s.take (hiOf bhi s.length)).drop (loOf blo)⟩⟩, ?_, ?_⟩
      · have hsz : (⟨⟨s⟩⟩ : ByteArray).size = s.length := rfl
        simp only [Instr.sliceAt, Instr.slice, Sem.run_bind, run_underlying hd, Result.andThen_ok, hsz, hsb, Option.isSome_none, Bool.false_eq_true, if_false, Sem.run_pure, str_extract s _ _ p1 p2]
      · refine After.pure I ?_
        show RelV M (.val .str (piece s blo bhi).1) _
        rw [piece_list]
        refine mkStr ?_
        simp; omega
    · cases h
  · rename_i gg xs b hargeq
    obtain ⟨rfl, hbox⟩ := argOf_eq hargeq
    obtain ⟨ad, cap, rfl, h2, h3, h4, h5⟩ := relSl ha
    have fin : ∀ (m : Nat), hiOf bhi (List.length (α := den gg) xs) ≤ m → g = .sl gg → e = ⟨.val (.sl gg) (piece (show List (den gg) from xs) blo bhi).1, [], e.need⟩ → loOf blo ≤ hiOf bhi (List.length (α := den gg) xs) → hiOf bhi (List.length (α := den gg) xs) ≤ List.length (α := den gg) xs →
        (Instr.sliceBounds true (List.length (α := den gg) xs) cap lo hi' mx).run P M.w = .ok (loOf blo, hiOf bhi (List.length (α := den gg) xs), m) M.w →
        ∃ v, (Instr.sliceAt t (.slice ad (List.length (α := den gg) xs) cap) lo hi' mx).run P M.w = .ok v M.w ∧ After R M e v M.w := by
      intro m hm hg he q1 q2 hrun
      subst hg
      simp only at hd
      obtain ⟨ee, j, ti, r1, _, r2, rfl, hti, _⟩ := hd
      obtain ⟨ti', hti', hsz, _⟩ := (TOK _ _ r2).info
      refine ⟨.slice (if m = loOf blo then ad else ad.map (·.add (loOf blo * ti'.size))) (hiOf bhi (List.length (α := den j.g) xs) - loOf blo) (m - loOf blo), ?_, ?_⟩
      · simp only [Instr.sliceAt, Instr.slice, Sem.run_bind, run_underlying r1, Result.andThen_ok, hrun, run_sizeOf' hti', Sem.run_pure]
      · rw [he]
        refine After.pure I ?_
        simp only [RelV]
        rw [piece_list]
        exact ⟨_, relPiece (M := M) (S := M.S) q1 q2 h2 hm h3 h4 h5 ti'.size hsz _ (fun hne => by rw [if_neg hne]), rfl⟩
    split at h
    · rename_i bhi _ _ _ hgd _
      simp only [Option.some.injEq] at h
      have hneed : ∀ p, (piece (show List (den gg) from xs) blo bhi).2 = some p → p := fun p hp => hn p (by rw [← h]; exact hp)
      obtain ⟨p1, p2, p3, p4⟩ := piece_ok hneed
      have hsb := sliceBounds_run (P := P) (isSlice := true) (n := List.length (α := den gg) xs) (c := cap) hb1 hb2 hb3 h2 p1 p2 p3 p4 (fun m hm => by cases hm) M.w
      exact fin cap (Nat.le_trans p2 h2) hgd (by rw [← h]) p1 p2 hsb
    · rename_i hgd m j _
      simp only [Option.some.injEq] at h
      have hneed : ∀ p, both (piece (show List (den gg) from xs) blo (some j)).2 (j ≤ m ∧ m ≤ List.length (α := den gg) xs) = some p → p := fun p hp => hn p (by rw [← h]; exact hp)
      have hn2 : (∀ p, (piece (show List (den gg) from xs) blo (some j)).2 = some p → p) ∧ j ≤ m ∧ m ≤ List.length (α := den gg) xs := by
        cases hp : (piece (show List (den gg) from xs) blo (some j)).2 with
        | none => rw [hp] at hneed; exact ⟨fun p hp => (by cases hp), hneed _ rfl⟩
        | some q => rw [hp] at hneed; have := hneed _ rfl; exact ⟨fun p hp => (by injection hp with hp; rw [← hp]; exact this.1), this.2⟩
      obtain ⟨p1, p2, p3, p4⟩ := piece_ok hn2.1
      have j0 := p4 j rfl
      have hc3 : ∀ m', some m = some m' → (some j).isSome = true ∧ 0 ≤ m' ∧ (hiOf (some j) (List.length (α := den gg) xs) : Int) ≤ m' ∧ m' ≤ cap := by
        intro m' hm
        injection hm with hm; subst hm
        simp only [hiOf] at p2 ⊢
        exact ⟨rfl, by omega, by omega, by omega⟩
      have hsb := sliceBounds_run (P := P) (isSlice := true) (n := List.length (α := den gg) xs) (c := cap) hb1 hb2 hb3 h2 p1 p2 p3 p4 hc3 M.w
      exact fin m.toNat (by simp only [hiOf]; omega) hgd (by rw [← h]) p1 p2 hsb
    · cases h
  · rename_i b el' gg xs fz hargeq
    obtain ⟨rfl, hbox⟩ := argOf_eq hargeq
    split at h
    · rename_i hgd _
      subst hgd
      simp only [Option.some.injEq] at h
      subst h
      obtain ⟨⟨d, hb⟩, rfl⟩ := relTip ha hbox
      obtain ⟨p1, p2, p3, p4⟩ := piece_ok (l := xs) (lo := blo) (hi := bhi) (fun p hp => hn p hp)
      obtain ⟨S', J, s, en⟩ := I.freeze hb
      obtain ⟨ad, cap, hv, h2, h3, h4, h5⟩ := en
      have hv : M.β b = .slice ad xs.length cap := by simpa using hv
      have hsb := sliceBounds_run (P := P) (isSlice := true) (n := xs.length) (c := cap) hb1 hb2 hb3 h2 p1 p2 p3 p4 (fun m hm => by cases hm) M.w
      simp only at hd
      obtain ⟨ee, j, ti, r1, _, r2, rfl, hti, _⟩ := hd
      obtain ⟨ti', hti', hsz, _⟩ := (TOK _ _ r2).info
      refine ⟨.slice (if cap = loOf blo then ad else ad.map (·.add (loOf blo * ti'.size))) (hiOf bhi xs.length - loOf blo) (cap - loOf blo), ?_, S', M.β, J, s.mono (fun _ h => h.elim), ?_⟩
      · rw [hv]
        simp only [Instr.sliceAt, Instr.slice, Sem.run_bind, run_underlying r1, Result.andThen_ok, hsb, run_sizeOf' hti', Sem.run_pure]
      · simp only [RelV]
        rw [piece_list]
        exact ⟨_, relPiece (M := M) (S := S') p1 p2 h2 (by omega) h3 h4 h5 ti'.size hsz _ (fun hne => by rw [if_neg hne]), rfl⟩
    · cases h
  · cases h

theorem lenEff_sound (TOK : TysOK P τ) (I : InvM R M) {t : TypeId} {i : TInfo} (hi : τ t = some i) {va : AV} {u : Value} (ha : RelV M va u) {e : Eff} (h : lenEff i.g (argOf M.bs va) = some e) (ty : TypeId) :
    ∃ v, (Builtin.len_ #[t] ty #[u]).run P M.w = .ok v M.w ∧ e.wr = [] ∧ RelV M e.av v := by
  have T := TOK t i hi
  have hd := T.desc
  have big : ∀ n : Nat, n ≤ maxRow → IntKind.i64.has n := by
    intro n hn
    simp only [maxRow] at hn
    refine ⟨?_, ?_⟩
    · have : IntKind.i64.min = -9223372036854775808 := by decide
      omega
    · have : IntKind.i64.max = 9223372036854775807 := by decide
      omega
  obtain ⟨g, nf, by_, el⟩ := i
  unfold lenEff at h
  simp only at h hd
  split at h
  · rename_i _ s b hargeq
    obtain ⟨rfl, hbox⟩ := argOf_eq hargeq
    obtain ⟨rfl, hs⟩ := relStr ha
    simp only [v0, Option.some.injEq] at h
    subst h
    refine ⟨goInt s.length, by simp [Builtin.len_, run_underlying hd]; rfl, rfl, mkInt ?_⟩
    refine ⟨?_, ?_⟩
    · have : IntKind.i64.min = -9223372036854775808 := by decide
      show IntKind.i64.min ≤ _; omega
    · have : IntKind.i64.max = 9223372036854775807 := by decide
      simp only [maxStr] at hs
      show _ ≤ IntKind.i64.max
      have hs' : List.length s ≤ 4611686018427387904 := hs
      omega
  · rename_i _ n gg m g2 xs b hargeq
    obtain ⟨rfl, hbox⟩ := argOf_eq hargeq
    split at h
    case h_2 => cases h
    rename_i hble
    simp only [v0, Option.some.injEq] at h
    subst h
    obtain ⟨ee, j, q1, q2, rfl⟩ := hd
    exact ⟨goInt n, by simp [Builtin.len_, run_underlying q1], rfl, mkInt (big _ (Nat.le_of_ble_eq_true hble))⟩
  · rename_i _ gg g2 xs b hargeq
    obtain ⟨rfl, hbox⟩ := argOf_eq hargeq
    simp only [v0, Option.some.injEq] at h
    subst h
    obtain ⟨ad, cap, rfl, h2, h3, h4, h5⟩ := relSl ha
    obtain ⟨ee, j, ti, q1, _⟩ := hd
    exact ⟨goInt (List.length (α := den g2) xs), by simp [Builtin.len_, run_underlying q1], rfl, mkInt (big _ h4)⟩
  · rename_i _ gg b el' g2 xs fz hargeq
    obtain ⟨rfl, hbox⟩ := argOf_eq hargeq
    simp only [v0, Option.some.injEq] at h
    subst h
    obtain ⟨⟨d, hb⟩, rfl⟩ := relTip ha hbox
    obtain ⟨ee, j, ti, q1, _⟩ := hd
    obtain ⟨cs, r1, r2, r3, r4, _⟩ := I.boxes b d _ hb
    refine ⟨goInt xs.length, ?_, rfl, mkInt (big _ r4)⟩
    rcases r1.2 with ⟨hn, h0⟩ | ⟨blk, cap, cur, hv, _⟩
    · rw [hn, h0]; simp [Builtin.len_, run_underlying q1]
    · rw [hv]; simp [Builtin.len_, run_underlying q1]
  · rename_i _ gg b hargeq
    obtain ⟨rfl, hbox⟩ := argOf_eq hargeq
    simp only [v0, Option.some.injEq] at h
    subst h
    simp only [RelV] at ha
    subst ha
    obtain ⟨ee, j, ti, q1, _⟩ := hd
    exact ⟨goInt 0, by simp [Builtin.len_, run_underlying q1], rfl, mkInt (has_zero _)⟩
  · cases h
end
end Go.Ev
/- Conversions, operators, picks; operations that make memory; calls; and all of them. -/
set_option linter.unusedVariables false
set_option linter.unusedSimpArgs false
namespace Go.Ev
section
variable {P : Program} {τ : Tys} {R : Ref} {M : Mem}

theorem bytes_cells {w : World} {S : Stab} : ∀ {l : List Int} {cs : List Value}, encL (Enc w S (.int .u8)) l cs → cs = l.map (Value.int .u8)
  | [], _, h => h
  | n :: l, _, ⟨c, d, e, h1, h2⟩ => by
    have hc : c = [.int .u8 n] := h1.1
    rw [e, hc, bytes_cells h2]
    rfl

theorem foldl_push : ∀ (ns : List Int) (s : List UInt8), (ns.foldl (fun (r : ByteArray) n => r.push (UInt8.ofNat n.toNat)) ⟨⟨s⟩⟩) = ⟨⟨s ++ bytesToStr ns⟩⟩
  | [], s => by simp [bytesToStr]
  | n :: ns, s => by
    rw [List.foldl_cons]
    have : (⟨⟨s⟩⟩ : ByteArray).push (UInt8.ofNat n.toNat) = ⟨⟨s ++ [UInt8.ofNat n.toNat]⟩⟩ := by
      apply ByteArray.ext
      rw [ByteArray.data_push]
      simp
    rw [this, foldl_push ns]
    simp [bytesToStr]

theorem equal_nil_nil {P : Program} {t : TypeId} {ms : Array (String × TypeId)} (hu : P.underlying t = some (.interface ms)) (w : World) : (Op.equal t .nilIface .nilIface).run P w = .ok true w := by
  have h : ∀ d, (Op.equalIn (d + 1) t .nilIface .nilIface).run P w = .ok true w := fun d => by
    simp only [Op.equalIn, Sem.run_bind, run_underlying hu, Result.andThen_ok, Sem.run_pure]
  exact h 9999
theorem equal_err_nil {P : Program} {t : TypeId} {ms : Array (String × TypeId)} (hu : P.underlying t = some (.interface ms)) (ty : TypeId) (v : Value) (w : World) : (Op.equal t (.iface ty v) .nilIface).run P w = .ok false w := by
  have h : ∀ d, (Op.equalIn (d + 1) t (.iface ty v) .nilIface).run P w = .ok false w := fun d => by
    simp only [Op.equalIn, Sem.run_bind, run_underlying hu, Result.andThen_ok, Sem.run_pure]
  exact h 9999
theorem encR_len (n : Int) : (encR n).length ≤ maxStr := by
  unfold encR Utf8.encode maxStr
  simp only
  repeat' split
  all_goals simp

theorem convEff_sound (TOK : TysOK P τ) (I : InvM R M) {s d : TypeId} {j i : TInfo} (hj : τ s = some j) (hi : τ d = some i) {va : AV} {u : Value} (ha : RelV M va u) {e : Eff} (h : convEff j.g i.g (argOf M.bs va) = some e) :
    ∃ v, (convert s d u).run P M.w = .ok v M.w ∧ e.wr = [] ∧ RelV M e.av v := by
  have hd := (TOK d i hi).desc
  have Ts := TOK s j hj
  have hs := Ts.desc
  have hus : ∃ ds, P.underlying s = some ds := by
    obtain ⟨g, _, _, _⟩ := j
    cases g <;> simp only at hs
    · exact ⟨_, hs⟩
    · exact ⟨_, hs⟩
    · exact ⟨_, hs⟩
    · obtain ⟨fs, h1, _⟩ := hs; exact ⟨_, h1⟩
    · obtain ⟨e, j, h1, _⟩ := hs; exact ⟨_, h1⟩
    · obtain ⟨e, j, ti, h1, _⟩ := hs; exact ⟨_, h1⟩
    · obtain ⟨ms, h1⟩ := hs; exact ⟨_, h1⟩
  obtain ⟨ds, hds⟩ := hus
  obtain ⟨g, nf, by_, el⟩ := i
  obtain ⟨g', nf', by', el'⟩ := j
  unfold convEff at h
  simp only at h hd hs
  split at h
  · rename_i _ _ k k' n b hargeq
    obtain ⟨rfl, hbox⟩ := argOf_eq hargeq
    obtain ⟨rfl, hk⟩ := relInt ha
    simp only [v0, Option.some.injEq] at h
    subst h
    exact ⟨.int k (k.wrap n), by simp [convert, run_underlying hds, run_underlying hd, Conv.intToInt], rfl, mkInt (wrap_has _ _)⟩
  · rename_i _ _ s' b hargeq
    obtain ⟨rfl, hbox⟩ := argOf_eq hargeq
    obtain ⟨rfl, hk⟩ := relStr ha
    simp only [v0, Option.some.injEq] at h
    subst h
    exact ⟨.string ⟨⟨s'⟩⟩, by simp [convert, run_underlying hds, run_underlying hd], rfl, mkStr hk⟩
  · rename_i _ _ k' n b hargeq
    obtain ⟨rfl, hbox⟩ := argOf_eq hargeq
    obtain ⟨rfl, hk⟩ := relInt ha
    simp only [v0, Option.some.injEq] at h
    subst h
    exact ⟨.string ⟨⟨encR n⟩⟩, by simp [convert, run_underlying hds, run_underlying hd, Conv.intToString]; rfl, rfl, mkStr (encR_len n)⟩
  · rename_i _ _ l b hargeq
    obtain ⟨rfl, hbox⟩ := argOf_eq hargeq
    simp only [v0, Option.some.injEq] at h
    subst h
    obtain ⟨ee, jj, ti, q1, _, q2, q3, _⟩ := hs
    have he := (TOK _ _ q2).desc
    rw [q3] at he
    obtain ⟨ad, cap, rfl, h2, h3, h4, h5⟩ := relSl ha
    have hlen : (bytesToStr l).length ≤ maxStr := by
      simp only [bytesToStr, List.length_map]
      have : List.length (α := Int) l ≤ maxRow := h4
      simp only [maxRow] at this; simp only [maxStr]; omega
    rcases h5 with rfl | ⟨blk, off, cs, rfl, h6, h7⟩
    · cases ad with
      | none => exact ⟨.string .empty, by rw [run_convert_bytes_string _ s d ee _ _ _ q1 he hd]; simp [Conv.bytesToString], rfl, mkStr (by simp [bytesToStr])⟩
      | some a =>
        refine ⟨.string ⟨⟨bytesToStr []⟩⟩, ?_, rfl, mkStr (by simp [bytesToStr])⟩
        rw [run_convert_bytes_string _ s d ee _ _ _ q1 he hd]
        have := run_bytesToString (P := P) M.w a 0 cap [] (by simp [loadCells, loadCellsFrom])
        exact this
    · refine ⟨.string ⟨⟨bytesToStr l⟩⟩, ?_, rfl, mkStr hlen⟩
      rw [run_convert_bytes_string _ s d ee _ _ _ q1 he hd]
      have hb := bytes_cells h6
      have hl : cs.length = List.length (α := Int) l := by rw [hb]; simp
      have := run_bytesToString (P := P) M.w ⟨blk, off, none⟩ (List.length (α := Int) l) cap l (by rw [← hl, ← hb]; exact loadCells_at (fun j v hv => (h7 j v hv).1))
      rw [this, show ByteArray.empty = ⟨⟨[]⟩⟩ from rfl, foldl_push]
      rfl
  · rename_i _ _ b el2 l fz hargeq
    obtain ⟨rfl, hbox⟩ := argOf_eq hargeq
    simp only [v0, Option.some.injEq] at h
    subst h
    obtain ⟨ee, jj, ti, q1, _, q2, q3, _⟩ := hs
    have he := (TOK _ _ q2).desc
    rw [q3] at he
    obtain ⟨⟨dd, hb⟩, rfl⟩ := relTip ha hbox
    have hlen : (bytesToStr l).length ≤ maxStr := by
      simp only [bytesToStr, List.length_map]
      obtain ⟨_, _, _, _, this, _⟩ := I.boxes b dd _ hb
      have : List.length (α := Int) l ≤ maxRow := this
      simp only [maxRow] at this; simp only [maxStr]; omega
    rcases rowCells I hb with ⟨hn, rfl⟩ | ⟨blk, cap, cs, hβ, hcap, h6, h7⟩
    · exact ⟨.string .empty, by rw [hn, run_convert_bytes_string _ s d ee _ _ _ q1 he hd]; simp [Conv.bytesToString], rfl, mkStr (by simp [bytesToStr])⟩
    · refine ⟨.string ⟨⟨bytesToStr l⟩⟩, ?_, rfl, mkStr hlen⟩
      rw [hβ, run_convert_bytes_string _ s d ee _ _ _ q1 he hd]
      have hbc := bytes_cells h6
      have hl : cs.length = List.length (α := Int) l := by rw [hbc]; simp
      have := run_bytesToString (P := P) M.w ⟨blk, 0, none⟩ (List.length (α := Int) l) cap l (by rw [← hl, ← hbc]; exact loadCells_at (fun j v hv => by rw [Nat.zero_add]; exact h7 j v hv))
      have e2 : List.length (α := den (.int .u8)) l = List.length (α := Int) l := rfl
      rw [e2, this, show ByteArray.empty = ⟨⟨[]⟩⟩ from rfl, foldl_push]
      rfl
  · cases h

theorem unEff_sound {op : UnOp} {va : AV} {u : Value} (ha : RelV M va u) {e : Eff} (h : unEff op va = some e) : ∃ v, (Op.unary op u).run P M.w = .ok v M.w ∧ e.wr = [] ∧ RelV M e.av v := by
  unfold unEff at h
  split at h
  · rename_i b
    simp only [v0, Option.some.injEq] at h
    subst h
    rw [relBool ha]
    exact ⟨_, rfl, rfl, mkBool⟩
  · rename_i k n
    simp only [v0, Option.some.injEq] at h
    subst h
    obtain ⟨rfl, hk⟩ := relInt ha
    exact ⟨_, rfl, rfl, mkInt (wrap_has _ _)⟩
  · rename_i k n
    simp only [v0, Option.some.injEq] at h
    subst h
    obtain ⟨rfl, hk⟩ := relInt ha
    exact ⟨_, rfl, rfl, mkInt (bitsOp_has _ _ _ _)⟩
  · cases h

theorem pickEff_sound {vc va vb : AV} {c a b : Value} (hc : RelV M vc c) (ha : c = .bool true → RelV M va a) (hb : c = .bool false → RelV M vb b) {e : Eff} (h : pickEff vc va vb = some e) :
    ∃ x, c = .bool x ∧ e.wr = [] ∧ RelV M e.av (if x then a else b) := by
  unfold pickEff at h
  split at h
  · rename_i x g u g' v
    have hx := relBool hc
    split at h
    · rename_i he _
      subst he
      simp only [v0, Option.some.injEq] at h
      subst h
      refine ⟨x, hx, rfl, ?_⟩
      cases x with
      | true => simpa using ha hx
      | false => simpa using hb hx
    · cases h
  · rename_i x _
    have hx := relBool hc
    refine ⟨x, hx, ?_⟩
    cases x with
    | true =>
      simp only at h
      split at h
      · simp only [v0, Option.some.injEq] at h
        subst h
        exact ⟨rfl, by simpa using ha hx⟩
      · cases h
    | false =>
      simp only at h
      split at h
      · simp only [v0, Option.some.injEq] at h
        subst h
        exact ⟨rfl, by simpa using hb hx⟩
      · cases h
  · cases h

theorem binEff_sound (TOK : TysOK P τ) {op : BinOp} {t : TypeId} {known : Bool} {vx vy : AV} {x y : Value} (hx : RelV M vx x) (hy : RelV M vy y) {e : Eff} (h : binEff (τ t) op known vx vy = some e) (hn : e.ok) (xo yo : Operand)  (hk : known = isK yo) :
    ∃ r, ((do eqGuard op t xo yo x y; binOp op t x y) : Sem Value).run P M.w = .ok r M.w ∧ e.wr = [] ∧ RelV M e.av r := by
  unfold binEff at h
  split at h
  · rename_i k a k' b
    obtain ⟨rfl, ha⟩ := relInt hx
    obtain ⟨rfl, hb⟩ := relInt hy
    have : (0 : Int) ≤ b ∧ e.wr = [] ∧ e.av = .val (.int k) (k.wrap ((a : Int) * 2 ^ (min (b : Int).toNat k.bits))) := by
      rcases needIf_spec h with ⟨_, h⟩ | ⟨hp, h⟩
      · simp only [Option.some.injEq] at h; subst h; exact ⟨hn _ rfl, rfl, rfl⟩
      · simp only [Option.some.injEq] at h; subst h; exact ⟨hp, rfl, rfl⟩
    obtain ⟨h1, h2, h3⟩ := this
    refine ⟨.int k (k.wrap ((a : Int) * 2 ^ (min (b : Int).toNat k.bits))), ?_, h2, by rw [h3]; exact mkInt (wrap_has _ _)⟩
    simp only [Sem.run_bind, eqGuard_int, Result.andThen_ok, binOp, Op.shift]
    rw [if_neg (by omega)]
    rfl
  · rename_i k a k' b
    obtain ⟨rfl, ha⟩ := relInt hx
    obtain ⟨rfl, hb⟩ := relInt hy
    have : (0 : Int) ≤ b ∧ e.wr = [] ∧ e.av = .val (.int k) ((a : Int).fdiv (2 ^ (min (b : Int).toNat k.bits))) := by
      rcases needIf_spec h with ⟨_, h⟩ | ⟨hp, h⟩
      · simp only [Option.some.injEq] at h; subst h; exact ⟨hn _ rfl, rfl, rfl⟩
      · simp only [Option.some.injEq] at h; subst h; exact ⟨hp, rfl, rfl⟩
    obtain ⟨h1, h2, h3⟩ := this
    refine ⟨.int k ((a : Int).fdiv (2 ^ (min (b : Int).toNat k.bits))), ?_, h2, by rw [h3]; exact mkInt (fdiv_has ha)⟩
    simp only [Sem.run_bind, eqGuard_int, Result.andThen_ok, binOp, Op.shift]
    rw [if_neg (by omega)]
    rfl
  · rename_i op' k a k' b hs1 hs2
    split at h
    · rename_i hk _
      subst hk
      obtain ⟨rfl, ha⟩ := relInt hx
      obtain ⟨rfl, hb⟩ := relInt hy
      obtain ⟨v, h1, h2, h3⟩ := intBin_sound (P := P) (M := M) ha hb h hn ⟨hs1, hs2⟩ t
      exact ⟨v, by simp only [Sem.run_bind, eqGuard_int, Result.andThen_ok, h1], h2, h3⟩
    · cases h
  · rename_i op' a b
    obtain ⟨rfl, ha⟩ := relStr hx
    obtain ⟨rfl, hb⟩ := relStr hy
    obtain ⟨v, h1, h2, h3⟩ := strBin_sound (P := P) (M := M) ha hb h hn t
    exact ⟨v, by simp only [Sem.run_bind, eqGuard_str, Result.andThen_ok, h1], h2, h3⟩
  · rename_i op1 av1 av2 a
    have hy' : y = .nilIface := by simpa only [RelV] using hy
    subst hy'
    simp only [RelV] at hx
    obtain ⟨cs, hcs, rfl⟩ := hx
    have key : ∀ nf by_ el, τ t = some ⟨.err, nf, by_, el⟩ → known = true →
        ((do eqGuard .eql t xo yo (toVal .err cs) .nilIface; binOp .eql t (toVal .err cs) .nilIface) : Sem Value).run P M.w = .ok (.bool (!(show Bool from a))) M.w ∧
        ((do eqGuard .neq t xo yo (toVal .err cs) .nilIface; binOp .neq t (toVal .err cs) .nilIface) : Sem Value).run P M.w = .ok (.bool (show Bool from a)) M.w := by
      intro nf by_ el hti hkn
      obtain ⟨ms, hu⟩ : ∃ ms, P.underlying t = some (.interface ms) := (TOK t _ hti).desc
      have hyo : ∃ v, yo = .const v := by
        rw [hkn] at hk
        cases yo <;> simp [isK] at hk ⊢
      obtain ⟨yv, hyo⟩ := hyo
      rcases hcs with ⟨hb, rfl⟩ | ⟨hb, ty, v, rfl⟩
      · have hb' : a = false := hb
        subst hb'
        have e1 : ∀ op, (eqGuard op t xo yo .nilIface .nilIface).run P M.w = .ok () M.w := by
          intro op
          unfold eqGuard
          cases op <;> simp [hyo]
        have e2 : (Op.equal t .nilIface .nilIface).run P M.w = .ok true M.w := by
          exact equal_nil_nil hu M.w
        exact ⟨by show ((do eqGuard .eql t xo yo .nilIface .nilIface; pure (.bool (← Op.equal t .nilIface .nilIface))) : Sem Value).run P M.w = _; simp [e1, e2],
          by show ((do eqGuard .neq t xo yo .nilIface .nilIface; pure (.bool (!(← Op.equal t .nilIface .nilIface)))) : Sem Value).run P M.w = _; simp [e1, e2]⟩
      · have hb' : a = true := hb
        subst hb'
        have e1 : ∀ op, (eqGuard op t xo yo (.iface ty v) .nilIface).run P M.w = .ok () M.w := by
          intro op
          unfold eqGuard
          cases op <;> simp [hyo]
        have e2 : (Op.equal t (.iface ty v) .nilIface).run P M.w = .ok false M.w := by
          exact equal_err_nil hu ty v M.w
        exact ⟨by show ((do eqGuard .eql t xo yo (.iface ty v) .nilIface; pure (.bool (← Op.equal t (.iface ty v) .nilIface))) : Sem Value).run P M.w = _; simp [e1, e2],
          by show ((do eqGuard .neq t xo yo (.iface ty v) .nilIface; pure (.bool (!(← Op.equal t (.iface ty v) .nilIface)))) : Sem Value).run P M.w = _; simp [e1, e2]⟩
    split at h
    · rename_i hti
      simp only [v0, Option.some.injEq] at h
      subst h
      exact ⟨_, (key _ _ _ hti rfl).1, rfl, mkBool⟩
    · rename_i hti
      simp only [v0, Option.some.injEq] at h
      subst h
      exact ⟨_, (key _ _ _ hti rfl).2, rfl, mkBool⟩
    · cases h
  · rename_i op' g a g' b hi hs
    split at h
    · rename_i he i _ hti
      subst he
      split at h
      · rename_i hg _
        subst hg
        exact eqBin_sound TOK hti hx hy h (fun k hk => by obtain ⟨g, _, _, _⟩ := i; cases hk; exact g' k _ k _ rfl HEq.rfl rfl HEq.rfl) (fun hk => by obtain ⟨g, _, _, _⟩ := i; cases hk; exact b _ _ rfl HEq.rfl rfl HEq.rfl) xo yo
      · cases h
    · cases h
  · cases h
end
end Go.Ev
/- Operations that make memory. -/
set_option linter.unusedVariables false
set_option linter.unusedSimpArgs false
namespace Go.Ev
section
variable {P : Program} {τ : Tys} {R : Ref} {M : Mem}

theorem killed_one {b k : Nat} {B : Box} : killed [(k, true, B)] b ↔ b = k := by
  unfold killed
  constructor
  · rintro ⟨B', hB⟩
    simp at hB
    exact hB.1
  · rintro rfl
    exact ⟨B, by simp⟩

theorem After.newVar {ws : List (Nat × Bool × Box)} {S' : Stab} (f : Froze R M { M with S := S', bs := applyB ws M.bs }) (hk : ∀ b, ¬ killed ws b) {g : GTy} {x : den g} {cs : List Value} (he : Enc M.w S' g x cs) (key : Nat) (t : TypeId) (n : Option Prop) :
    After R M ⟨.ptr key g [], ws ++ [(key, true, .var g x)], n⟩ (.pointer (some ⟨M.w.heap.size, 0, none⟩)) (M.w.alloc (.cells cs.toArray t)) := by
  obtain ⟨I2, s2⟩ := f.inv.newVar t key (by rw [f.w]; exact he)
  simp only [f.w] at I2 s2
  refine ⟨S', fun c => if c = key then .pointer (some ⟨M.w.heap.size, 0, none⟩) else M.β c, ?_, ?_, ?_⟩
  · simp only [applyB_append, applyB]
    exact I2
  · simp only [applyB_append, applyB]
    refine (f.step.trans s2).mono (fun b hb => ?_)
    rcases hb with hb | hb
    · exact hb.elim
    · exact killed_append.2 (.inr (killed_one.2 hb))
  · simp only [RelV, applyB_append, applyB]
    exact ⟨M.w.heap.size, true, .var g x, lk_st_same _ _ _, ⟨rfl, by simp [inB]⟩, by simp [blkOf], by simp [offs]⟩

theorem newVar_run (t : TypeId) {g : GTy} {x : den g} {cs : List Value} {S : Stab} {W : World} (he : Enc W S g x cs) (w : World) :
    (newVar t (toVal g cs)).run P w = .ok ⟨w.heap.size, 0, none⟩ (w.alloc (.cells cs.toArray t)) := by
  have h : (toVal g cs).cells = cs.toArray := by
    apply Array.toList_inj.1
    rw [toVal_cells he]
  simp [newVar, newRow, h]

theorem alloc_run (TOK : TysOK P τ) {t : TypeId} {i : TInfo} (hi : τ t = some i) (w : World) :
    (Instr.alloc t true (.tuple #[])).run P w = .ok (.pointer (some ⟨w.heap.size, 0, none⟩)) (w.alloc (.cells (zeroCells i.g).toArray t)) := by
  obtain ⟨ti, h1, h2, h3⟩ := (TOK t i hi).info
  have := newVar_run (P := P) t (Enc.zero w (fun _ _ => False) i.g) w
  simp [Instr.alloc, zeroValue, typeInfo, h1, h3, this]

theorem box_run (t : TypeId) {g : GTy} {x : den g} {cs : List Value} {S : Stab} {W : World} (he : Enc W S g x cs) (w : World) :
    (Instr.box t (toVal g cs)).run P w = .ok (.pointer (some ⟨w.heap.size, 0, none⟩)) (w.alloc (.cells cs.toArray t)) := by
  simp [Instr.box, newVar_run (P := P) t he w]

theorem madeCells_eq {c : List Value} : ∀ n : Nat, (madeCells c.toArray (n * c.length)).toList = (List.replicate n c).flatten := by
  intro n
  apply List.ext_getElem?
  intro j
  by_cases hj : j < n * c.length
  · have h0 : 0 < c.length := by
      rcases Nat.eq_zero_or_pos c.length with h | h
      · rw [h] at hj; simp at hj
      · exact h
    have e1 : (madeCells c.toArray (n * c.length)).toList[j]? = some (c.toArray[j % c.toArray.size]!) := by
      simp [madeCells, hj]
    have hm : j % c.length < c.length := Nat.mod_lt _ h0
    rw [e1]
    have : ∀ (n j : Nat), j < n * c.length → (List.replicate n c).flatten[j]? = c[j % c.length]? := by
      intro n
      induction n with
      | zero => intro j hj; simp at hj
      | succ n ih =>
        intro j hj
        rw [List.replicate_succ, List.flatten_cons]
        by_cases hlt : j < c.length
        · rw [List.getElem?_append_left hlt, Nat.mod_eq_of_lt hlt]
        · rw [List.getElem?_append_right (by omega), ih (j - c.length) (by rw [Nat.add_mul, Nat.one_mul] at hj; omega)]
          rw [Nat.mod_eq_sub_mod (a := j) (by omega)]
    rw [this n j hj]
    simp [hm]
  · have l1 : (madeCells c.toArray (n * c.length)).toList.length ≤ j := by simp [madeCells]; omega
    have l2 : (List.replicate n c).flatten.length ≤ j := by simp; omega
    rw [List.getElem?_eq_none l1, List.getElem?_eq_none l2]

theorem zeroCells_len (g : GTy) : (zeroCells g).length = ncell g := (Enc.zero (default : World) (fun _ _ => False) g).len

theorem flatten_add {c : List Value} (a b : Nat) : (List.replicate (a + b) c).flatten = (List.replicate a c).flatten ++ (List.replicate b c).flatten := by
  rw [← List.replicate_append_replicate, List.flatten_append]

theorem makeSlice_sound (TOK : TysOK P τ) (I : InvM R M) {t : TypeId} {g : GTy} {nf bytes el : Nat} (hi : τ t = some ⟨.sl g, nf, bytes, el⟩) {k k' : IntKind} {n c : Int} (key : Nat) (nd : Option Prop)
    (h0 : 0 ≤ n) (h1 : n ≤ c) (h2 : c * bytes ≤ maxRow) :
    ∃ v w', (Instr.makeSlice t (.int k n) (.int k' c)).run P M.w = .ok v w' ∧ After R M ⟨.tip key, [(key, true, .row el g (List.replicate n.toNat (zero g)) false)], nd⟩ v w' := by
  have T := TOK t _ hi
  have hd := T.desc
  simp only at hd
  obtain ⟨e, j, ti, q1, q2, q3, q4, q5, q6, q7, q8, q9⟩ := hd
  obtain ⟨ti', p1, p2, p3⟩ := (TOK e j q3).info
  rw [q5] at p1
  simp only [Option.some.injEq] at p1
  subst p1
  subst q2
  rw [q4] at p2 p3
  have hb : 1 ≤ bytes := by omega
  have hc : c ≤ maxRow := by
    have : c * 1 ≤ c * bytes := Int.mul_le_mul_of_nonneg_left (by omega) (by omega)
    omega
  simp only [maxRow] at hc h2
  have hr := run_make (P := P) M.w t e ti _ q1 q5 p3 k k' n c h0 h1 (by rw [q6, Int.mul_comm]; omega) (by omega)
  have hz : (toVal g (zeroCells g)).cells = (zeroCells g).toArray := by
    apply Array.toList_inj.1
    rw [toVal_cells (Enc.zero M.w M.S g)]
  have hm : madeCells (toVal g (zeroCells g)).cells (c.toNat * ti.size) = ((List.replicate n.toNat (zeroCells g)).flatten ++ (List.replicate (c.toNat - n.toNat) (zeroCells g)).flatten).toArray := by
    apply Array.toList_inj.1
    rw [hz, p2, ← zeroCells_len g, madeCells_eq]
    rw [← flatten_add]
    show _ = (List.replicate (n.toNat + (c.toNat - n.toNat)) (zeroCells g)).flatten
    rw [show n.toNat + (c.toNat - n.toNat) = c.toNat by omega]
  rw [hm] at hr
  have hlb : n.toNat * lbytes g ≤ maxRow := by
    have a1 : n.toNat * lbytes g ≤ c.toNat * bytes := Nat.mul_le_mul (by omega) (by omega)
    have a2 : ((c.toNat * bytes : Nat) : Int) = c * bytes := by rw [Int.natCast_mul, Int.toNat_of_nonneg (by omega)]
    simp only [maxRow]
    omega
  obtain ⟨I2, s2⟩ := I.newRow (g := g) (xs := List.replicate n.toNat (zero g)) ((List.replicate (c.toNat - n.toNat) (zeroCells g)).flatten) c.toNat e key (encL_replicate (Enc.zero M.w M.S g) n.toNat)
    (by simpa using hlb) (by simp [maxRow]; omega) (by simpa using q9) (by simp; omega) (by simp only [maxLen]; omega) (by
      rw [← flatten_add]
      simp [zeroCells_len]
      rw [show n.toNat + (c.toNat - n.toNat) = c.toNat by omega])
  simp only [List.length_replicate] at I2 s2
  refine ⟨_, _, hr, M.S, fun x => if x = key then .slice (some ⟨M.w.heap.size, 0, none⟩) n.toNat c.toNat else M.β x, ?_, ?_, ?_⟩
  · exact I2
  · exact s2.mono (fun b hb => killed_one.2 hb)
  · simp only [RelV, applyB]
    exact ⟨⟨true, _, lk_st_same _ _ _, trivial⟩, by simp⟩

theorem buildSlice_sound (TOK : TysOK P τ) (I : InvM R M) {t : TypeId} {g : GTy} {nf b el : Nat} (hi : τ t = some ⟨.sl g, nf, b, el⟩) {n : Nat} {l : List (Nat × Arg)} {us : List Value} (hu : ArgsR M (l.map (·.2)) us) {x : List (den g)} {ws : List (Nat × Bool × Box)}
    (hin : ∀ y ∈ l, y.1 < n) (h : parts (.arr n g) (fun k => [.idx k]) l (zero (.arr n g)) = some (x, ws)) (key : Nat) (nd : Option Prop) (h1 : n * ncell g ≤ 2 ^ 24) (h2 : n * b ≤ maxRow) (ps : Array (Nat × Value)) (hps : ps.toList = (l.map (·.1)).zip us) :
    ∃ v w', (Instr.buildSlice t n ps).run P M.w = .ok v w' ∧ After R M ⟨.tip key, ws ++ [(key, true, .row el g x false)], nd⟩ v w' := by
  have T := TOK t _ hi
  have hd := T.desc
  simp only at hd
  obtain ⟨e, j, ti, q1, q2, q3, q4, q5, q6, q7, q8, q9⟩ := hd
  obtain ⟨ti', p1, p2, p3⟩ := (TOK e j q3).info
  rw [q5] at p1
  simp only [Option.some.injEq] at p1
  subst p1
  subst q2
  rw [q4] at p2 p3
  obtain ⟨hk, S', f, ds, he, hf⟩ := parts_sound (g := .arr n g) (place := fun i => some (i * ncell g, ncell g)) (ok := fun _ => True) (fun i h _ hp => by
      simp only [pathTy, Option.some.injEq] at hp
      subst hp
      simp [offs]) I hu (fun y hy => ⟨trivial, by simp only [inB]; exact ⟨hin y hy, trivial⟩⟩) (Enc.zero M.w M.S (.arr n g)) h
  have hz : (toVal g (zeroCells g)).cells = (zeroCells g).toArray := by
    apply Array.toList_inj.1
    rw [toVal_cells (Enc.zero M.w M.S g)]
  have hm : madeCells (toVal g (zeroCells g)).cells (n * ti.size) = (zeroCells (.arr n g)).toArray := by
    apply Array.toList_inj.1
    rw [hz, p2, ← zeroCells_len g, madeCells_eq]
    rfl
  have hrun : (Instr.buildSlice t n ps).run P M.w = .ok (.slice (some ⟨M.w.heap.size, 0, none⟩) n n) (M.w.alloc (.cells ds.toArray e)) := by
    rw [← hps, ← hm] at hf
    by_cases h0 : n * ti.size = 0
    · have hm0 : madeCells (toVal g (zeroCells g)).cells (n * ti.size) = #[] := by rw [h0]; simp [madeCells, Array.range_zero']
      rw [hm0] at hf
      have hn0 : n = 0 := by
        rcases Nat.mul_eq_zero.1 h0 with h | h
        · exact h
        · omega
      subst hn0
      simp only [← p2] at hf
      simp [Instr.buildSlice, run_underlying q1, sizeOf, typeInfo, q5, hf, newRow, Array.range_zero']
    · exact run_buildSlice M.w t e n ps ds.toArray ti _ q1 q5 p3 (by rw [p2]; omega) h0 (by rw [p2] at hf ⊢; exact hf)
  obtain ⟨hlen, henc⟩ := he
  have hlen' : x.length = n := hlen
  have hnb : n ≤ maxRow := Nat.le_trans (by rw [← q6] at h2 ⊢; exact Nat.le_mul_of_pos_right n (by omega)) h2
  obtain ⟨I2, s2⟩ := f.inv.newRow (g := g) (xs := x) (cs := ds) [] n e key (by rw [f.w]; exact henc) (by
      rw [hlen']
      exact Nat.le_trans (Nat.mul_le_mul_left _ (by omega)) h2) (by rw [hlen']; exact hnb) q9 (by omega) (by simp only [maxLen]; simp only [maxRow] at hnb; omega) (by
      have := encL_len (fun _ _ hh => hh.len) henc
      simp only [List.append_nil]
      rw [this]
      exact congrArg (· * ncell g) hlen')
  simp only [f.w, List.append_nil, hlen'] at I2 s2
  refine ⟨_, _, hrun, S', fun c => if c = key then .slice (some ⟨M.w.heap.size, 0, none⟩) n n else M.β c, ?_, ?_, ?_⟩
  · simp only [applyB_append, applyB]
    exact I2
  · simp only [applyB_append, applyB]
    refine (f.step.trans s2).mono (fun b hb => ?_)
    rcases hb with hb | hb
    · exact hb.elim
    · exact killed_append.2 (.inr (killed_one.2 hb))
  · simp only [RelV, applyB_append, applyB]
    exact ⟨⟨true, _, lk_st_same _ _ _, trivial⟩, by simp⟩
theorem buildSlice_val (TOK : TysOK P τ) (I : InvM R M) {t : TypeId} {g : GTy} {nf b el : Nat} (hi : τ t = some ⟨.sl g, nf, b, el⟩) {n : Nat} {l : List (Nat × Arg)} {us : List Value} (hu : ArgsR M (l.map (·.2)) us) {x : List (den g)} {ws : List (Nat × Bool × Box)}
    (hin : ∀ y ∈ l, y.1 < n) (h : parts (.arr n g) (fun k => [.idx k]) l (zero (.arr n g)) = some (x, ws)) (nd : Option Prop) (h1 : n * ncell g ≤ 2 ^ 24) (h2 : n * b ≤ maxRow) (ps : Array (Nat × Value)) (hps : ps.toList = (l.map (·.1)).zip us) :
    ∃ v w', (Instr.buildSlice t n ps).run P M.w = .ok v w' ∧ After R M ⟨.val (.sl g) x, ws, nd⟩ v w' := by
  have T := TOK t _ hi
  have hd := T.desc
  simp only at hd
  obtain ⟨e, j, ti, q1, q2, q3, q4, q5, q6, q7, q8, q9⟩ := hd
  obtain ⟨ti', p1, p2, p3⟩ := (TOK e j q3).info
  rw [q5] at p1
  simp only [Option.some.injEq] at p1
  subst p1
  subst q2
  rw [q4] at p2 p3
  obtain ⟨hk, S', f, ds, he, hf⟩ := parts_sound (g := .arr n g) (place := fun i => some (i * ncell g, ncell g)) (ok := fun _ => True) (fun i h _ hp => by
      simp only [pathTy, Option.some.injEq] at hp
      subst hp
      simp [offs]) I hu (fun y hy => ⟨trivial, by simp only [inB]; exact ⟨hin y hy, trivial⟩⟩) (Enc.zero M.w M.S (.arr n g)) h
  have hz : (toVal g (zeroCells g)).cells = (zeroCells g).toArray := by
    apply Array.toList_inj.1
    rw [toVal_cells (Enc.zero M.w M.S g)]
  have hm : madeCells (toVal g (zeroCells g)).cells (n * ti.size) = (zeroCells (.arr n g)).toArray := by
    apply Array.toList_inj.1
    rw [hz, p2, ← zeroCells_len g, madeCells_eq]
    rfl
  have hrun : (Instr.buildSlice t n ps).run P M.w = .ok (.slice (some ⟨M.w.heap.size, 0, none⟩) n n) (M.w.alloc (.cells ds.toArray e)) := by
    rw [← hps, ← hm] at hf
    by_cases h0 : n * ti.size = 0
    · have hm0 : madeCells (toVal g (zeroCells g)).cells (n * ti.size) = #[] := by rw [h0]; simp [madeCells, Array.range_zero']
      rw [hm0] at hf
      have hn0 : n = 0 := by
        rcases Nat.mul_eq_zero.1 h0 with h | h
        · exact h
        · omega
      subst hn0
      simp only [← p2] at hf
      simp [Instr.buildSlice, run_underlying q1, sizeOf, typeInfo, q5, hf, newRow, Array.range_zero']
    · exact run_buildSlice M.w t e n ps ds.toArray ti _ q1 q5 p3 (by rw [p2]; omega) h0 (by rw [p2] at hf ⊢; exact hf)
  obtain ⟨hlen, henc⟩ := he
  have hlen' : x.length = n := hlen
  have hnb : n ≤ maxRow := Nat.le_trans (by rw [← q6] at h2 ⊢; exact Nat.le_mul_of_pos_right n (by omega)) h2
  have hds : ds.length = n * ncell g := by
    have := encL_len (fun _ _ hh => hh.len) henc
    rw [this]
    exact congrArg (· * ncell g) hlen'
  have hnew : (M.w.alloc (.cells ds.toArray e)).heap[M.w.heap.size]? = some (.cells ds.toArray e) := heap_alloc_new M.w _
  obtain ⟨I2, s2⟩ := f.inv.grows (w' := M.w.alloc (.cells ds.toArray e)) (Grows.alloc M.w _) (fun c o => c = M.w.heap.size) (fun c o hc => by
    show M.w.heap.size ≤ c ∧ c < (M.w.alloc (.cells ds.toArray e)).heap.size
    have := (Array.getElem?_eq_some_iff.1 hnew).1
    omega)
  refine ⟨_, _, hrun, _, M.β, I2, (f.step.trans s2).mono (fun b hb => hb.elim False.elim False.elim), ?_⟩
  simp only [RelV]
  refine ⟨[.slice (some ⟨M.w.heap.size, 0, none⟩) n n], ⟨some ⟨M.w.heap.size, 0, none⟩, n, by rw [hlen], by rw [hlen]; exact Nat.le_refl _, ?_, by rw [hlen]; exact hnb, .inr ⟨M.w.heap.size, 0, ds, rfl, encL_mono (fun y c hy => hy.keeps s2.keeps) henc, fun j v hv => ⟨?_, .inr rfl⟩⟩⟩, rfl⟩
  · rw [hlen]
    exact Nat.le_trans (Nat.mul_le_mul_left _ (by omega)) h2
  · simp only [World.cell?, hnew, Nat.zero_add]
    simpa using hv
end
end Go.Ev
/- Literals, 'append', 'max' and 'min'. -/
set_option linter.unusedVariables false
set_option linter.unusedSimpArgs false
namespace Go.Ev
section
variable {P : Program} {τ : Tys} {R : Ref} {M : Mem}

theorem places_of : ∀ (fs : List Field), (∀ f ∈ fs, ∃ ti, P.info? f.type = some ti) → ∃ places, fs.mapM (fun f => (P.info? f.type).map fun i => (f.offset, i.size)) = some places ∧
    ∀ (k : Nat) (f : Field) (ti : TypeInfo), fs[k]? = some f → P.info? f.type = some ti → places[k]? = some (f.offset, ti.size)
  | [], _ => ⟨[], by simp, by simp⟩
  | f :: fs, h => by
    obtain ⟨places, h1, h2⟩ := places_of fs (fun g hg => h g (by simp [hg]))
    obtain ⟨ti, h3⟩ := h f (by simp)
    refine ⟨(f.offset, ti.size) :: places, by simp [List.mapM_cons, h3, h1], fun k g ti' hk hg => ?_⟩
    cases k with
    | zero =>
      simp only [List.getElem?_cons_zero, Option.some.injEq] at hk ⊢
      subst hk
      rw [h3] at hg
      simp only [Option.some.injEq] at hg
      rw [hg]
    | succ k =>
      simp only [List.getElem?_cons_succ] at hk ⊢
      exact h2 k g ti' hk hg

theorem build_sound (TOK : TysOK P τ) (I : InvM R M) {t : TypeId} {i : TInfo} (hi : τ t = some i) {l : List (Nat × Arg)} {us : List Value} (hu : ArgsR M (l.map (·.2)) us) {x : den i.g} {ws : List (Nat × Bool × Box)}
    (hin : partsIn i (l.map (·.1)) = true) (h : parts i.g (partPath i) l (zero i.g) = some (x, ws)) (nd : Option Prop) (ps : Array (Nat × Value)) (hps : ps.toList = (l.map (·.1)).zip us) :
    ∃ v, (Instr.build t ps).run P M.w = .ok v M.w ∧ After R M ⟨.val i.g x, ws, nd⟩ v M.w := by
  have T := TOK t _ hi
  have hd := T.desc
  obtain ⟨ti, p1, p2, p3⟩ := T.info
  obtain ⟨g, nf, by_, el⟩ := i
  have hz : (toVal g (zeroCells g)).cells = (zeroCells g).toArray := by
    apply Array.toList_inj.1
    rw [toVal_cells (Enc.zero M.w M.S g)]
  simp only at hd p2 p3
  cases g with
  | arr n a =>
    obtain ⟨e, j, q1, q2, q3⟩ := hd
    obtain ⟨tj, r1, r2, r3⟩ := (TOK e j q2).info
    rw [q3] at r2
    simp only [partsIn, List.all_eq_true, List.mem_map, Nat.blt_eq] at hin
    obtain ⟨hk, S', f, ds, he, hf⟩ := parts_sound (g := .arr n a) (path := partPath ⟨.arr n a, nf, by_, el⟩) (place := fun i => some (i * tj.size, tj.size)) (ok := fun _ => True) (fun i h _ hp => by
        simp only [partPath, pathTy, Option.some.injEq] at hp
        subst hp
        simp [partPath, offs, r2]) I hu (fun y hy => ⟨trivial, by simp only [partPath, inB]; exact ⟨hin _ ⟨y, hy, rfl⟩, trivial⟩⟩) (Enc.zero M.w M.S (.arr n a)) h
    refine ⟨.agg ds.toArray, run_build M.w t ps ds.toArray ?_, After.froze hk f ?_⟩
    · unfold Program.built
      rw [p1, q1]
      simp only [p3, r1]
      rw [hps, hz]
      exact hf
    · simp only [RelV]
      exact ⟨ds, he, rfl⟩
  | prod a b =>
    obtain ⟨fs, q1, q2, q3, q4, q5⟩ := hd
    simp only [partsIn, List.all_eq_true, List.mem_map, Nat.blt_eq] at hin
    have hinfo : ∀ f ∈ fs.toList, ∃ ti, P.info? f.type = some ti := by
      intro f hf
      obtain ⟨k, hk⟩ := List.mem_iff_getElem?.1 hf
      obtain ⟨_, _, _, j, r1, _, _⟩ := q5 k f (by simpa using hk)
      obtain ⟨tj, s1, _⟩ := (TOK _ _ r1).info
      exact ⟨tj, s1⟩
    obtain ⟨places, k1, k2⟩ := places_of fs.toList hinfo
    have hplace : ∀ (i : Nat) h, i < nf → pathTy (.prod a b) (fieldPath nf i) = some h → places.toArray[i]? = some (offs (.prod a b) (fieldPath nf i), ncell h) ∧ inB (.prod a b) (fieldPath nf i) := by
      intro i h hlt hp
      have hlt' : i < fs.size := by omega
      obtain ⟨r1, r2, r3, j, r4, r5, r6⟩ := q5 i fs[i] (by simp [hlt'])
      obtain ⟨tj, s1, s2, _⟩ := (TOK _ _ r4).info
      rw [hp] at r5
      simp only [Option.some.injEq] at r5
      have := k2 i fs[i] tj (by simp [hlt']) s1
      rw [r2, s2, ← r5] at this
      exact ⟨by simpa using this, r3⟩
    have hpt : ∀ y ∈ l, inB (.prod a b) (fieldPath nf y.1) := by
      intro y hy
      have hlt := hin _ ⟨y, hy, rfl⟩
      have hlt' : y.1 < fs.size := by omega
      obtain ⟨r1, r2, r3, j, r4, r5, r6⟩ := q5 y.1 fs[y.1] (by simp [hlt'])
      exact r3
    obtain ⟨hk, S', f, ds, he, hf⟩ := parts_sound (g := .prod a b) (path := partPath ⟨.prod a b, nf, by_, el⟩) (place := (places.toArray[·]?)) (ok := fun i => i < nf) (fun i h hlt hp => by
        exact (hplace i h hlt hp).1) I hu (fun y hy => ⟨hin _ ⟨y, hy, rfl⟩, hpt y hy⟩) (Enc.zero M.w M.S (.prod a b)) h
    refine ⟨.agg ds.toArray, run_build M.w t ps ds.toArray ?_, After.froze hk f ?_⟩
    · unfold Program.built
      rw [p1, q1]
      simp only [p3, k1]
      rw [hps, hz]
      exact hf
    · simp only [RelV]
      exact ⟨ds, he, rfl⟩
  | bool => simp [partsIn] at hin
  | int _ => simp [partsIn] at hin
  | str => simp [partsIn] at hin
  | unit => simp [partsIn] at hin
  | sl _ => simp [partsIn] at hin
  | err => simp [partsIn] at hin

theorem rowOf_sound (I : InvM R M) {g : GTy} {va : AV} {u : Value} (ha : RelV M va u) {ys : List (den g)} (h : rowOf g (argOf M.bs va) = some ys) :
    ∃ ad c ds, u = .slice ad ys.length c ∧ encL (Enc M.w M.S g) ys ds ∧ ys.length ≤ maxRow ∧ (ys = [] ∨ ∃ a, ad = some a ∧ ∀ (j : Nat) v, ds[j]? = some v → M.w.cell? (a.add j) = some v) := by
  have hadd : ∀ (blk off j : Nat), (⟨blk, off, none⟩ : Addr).add j = ⟨blk, off + j, none⟩ := by
    intro blk off j
    unfold Addr.add
    split
    · rename_i hj; subst hj; rfl
    · rfl
  unfold rowOf at h
  split at h
  · rename_i b t h' xs fz hargeq
    obtain ⟨rfl, hbox⟩ := argOf_eq hargeq
    split at h
    · rename_i e _
      subst e
      simp only [Option.some.injEq] at h
      subst h
      obtain ⟨⟨d, hb⟩, rfl⟩ := relTip ha hbox
      obtain ⟨_, _, _, _, hmax, _⟩ := I.boxes b d _ hb
      rcases rowCells I hb with ⟨hn, rfl⟩ | ⟨blk, cap, cs, hβ, hcap, h6, h7⟩
      · exact ⟨none, 0, [], by rw [hn]; rfl, rfl, by simp [maxRow], .inl rfl⟩
      · exact ⟨_, cap, cs, hβ, h6, hmax, .inr ⟨_, rfl, fun j v hv => by rw [hadd, Nat.zero_add]; exact h7 j v hv⟩⟩
    · cases h
  · rename_i h' xs b hargeq
    obtain ⟨rfl, hbox⟩ := argOf_eq hargeq
    split at h
    · rename_i e _
      subst e
      simp only [Option.some.injEq] at h
      subst h
      obtain ⟨ad, cap, rfl, h2, h3, h4, h5⟩ := relSl ha
      rcases h5 with rfl | ⟨blk, off, cs, rfl, h6, h7⟩
      · exact ⟨ad, cap, [], rfl, rfl, h4, .inl rfl⟩
      · exact ⟨_, cap, cs, rfl, h6, h4, .inr ⟨_, rfl, fun j v hv => by rw [hadd]; exact (h7 j v hv).1⟩⟩
    · cases h
  · rename_i b hargeq
    obtain ⟨rfl, hbox⟩ := argOf_eq hargeq
    simp only [Option.some.injEq] at h
    subst h
    simp only [RelV] at ha
    subst ha
    exact ⟨none, 0, [], rfl, rfl, by simp [maxRow], .inl rfl⟩
  · cases h
theorem InvM.sub (I : InvM R M) {bs : Bxs} (h : ∀ b x, lk b bs = some x → lk b M.bs = some x) : InvM R { M with bs := bs } :=
  ⟨I.os, I.tape, I.output, I.size, I.frame, I.old, I.here, fun b d B hb => I.boxes b d B (h b _ hb), fun b c d B d' B' hne hb hc => I.sep b c d B d' B' hne (h b _ hb) (h c _ hc)⟩

theorem lk_drop {α : Type} (key : Nat) : ∀ (l : List (Nat × α)) (b : Nat), lk b (l.filter fun x => !(Nat.beq x.1 key)) = if b = key then none else lk b l
  | [], b => by simp [lk]
  | (j, v) :: l, b => by
    have ih := lk_drop key l b
    by_cases hj : j = key
    · subst hj
      have : Nat.beq j j = true := Nat.beq_refl j
      simp only [List.filter_cons, this, Bool.not_true, Bool.false_eq_true, if_false, ih]
      by_cases hb : b = j
      · simp [hb]
      · have : Nat.beq j b = false := by
          cases hh : Nat.beq j b with
          | false => rfl
          | true => exact absurd (Nat.eq_of_beq_eq_true hh).symm hb
        simp [hb, lk, this]
    · have hk : Nat.beq j key = false := by
        cases hh : Nat.beq j key with
        | false => rfl
        | true => exact absurd (Nat.eq_of_beq_eq_true hh) hj
      simp only [List.filter_cons, hk, Bool.not_false, if_true, lk]
      cases hjb : Nat.beq j b with
      | true =>
        have := Nat.eq_of_beq_eq_true hjb
        subst this
        simp [hj]
      | false => exact ih

theorem appendEff_sound (TOK : TysOK P τ) (I : InvM R M) {t ty : TypeId} {g : GTy} {nf b el : Nat} (hi : τ t = some ⟨.sl g, nf, b, el⟩) {va vx : AV} {u ux : Value} (ha : RelV M va u) (hx : RelV M vx ux) {key : Nat} {e : Eff}
    (h : appendEff key ⟨.sl g, nf, b, el⟩ g (argOf M.bs va) (argOf M.bs vx) = some e) (hn : e.ok) :
    ∃ v w', (Builtin.append_ #[t, t] ty #[u, ux]).run P M.w = .ok v w' ∧ After R M e v w' := by
  have T := TOK t _ hi
  have hd := T.desc
  simp only at hd
  obtain ⟨el', j, ti, q1, q2, q3, q4, q5, q6, q7, q8, q9⟩ := hd
  subst q2
  obtain ⟨ti', p1, p2, p3⟩ := (TOK el' j q3).info
  rw [q5] at p1
  simp only [Option.some.injEq] at p1
  subst p1
  rw [q4] at p2 p3
  have hzs : (toVal g (zeroCells g)).cells.size = ncell g := by
    have := toVal_cells (Enc.zero M.w M.S g)
    rw [← Array.length_toList, this, zeroCells_len]
  have hone : ∀ n : Nat, n * b ≤ maxRow → n ≤ maxRow := fun n hn => Nat.le_trans (Nat.le_mul_of_pos_right n (by omega)) hn
  unfold appendEff at h
  simp only at h
  split at h
  · cases h
  rename_i ys hys
  obtain ⟨ad, c, ds, rfl, h1, h2, h3⟩ := rowOf_sound I hx hys
  split at h
  · rename_i b' t' h' xs fz hargeq
    obtain ⟨rfl, hbox⟩ := argOf_eq hargeq
    split at h
    · rename_i e1 e2 c1 c2
      clear c1 c2
      simp only at e1
      subst e1
      subst e2
      simp only [Option.some.injEq] at h
      subst h
      obtain ⟨⟨d, hb⟩, rfl⟩ := relTip ha hbox
      obtain ⟨cs, r1, r2, r3, r4, r5, r6⟩ := I.boxes b' d _ hb
      have hneed := hn _ rfl
      obtain ⟨v', w', k1, k2, k3⟩ := I.append (P := P) q1 q5 p3 p2 hzs q9 q7 r1 r2 b' (.inr ⟨d, fz, hb, rfl⟩) fz (fun d' fz' hb' => by
          rw [hb] at hb'
          simp only [Option.some.injEq, Prod.mk.injEq, Box.row.injEq] at hb'
          exact hb'.2.2.2.2) (ty := ty) (c := c) h1 h3 (by rw [q6]; exact hneed) (hone _ hneed)
      refine ⟨v', w', k1, M.S, _, k2, k3.mono (fun x hx => killed_one.2 hx), ?_⟩
      simp only [RelV, applyB]
      exact ⟨⟨true, _, lk_st_same _ _ _, trivial⟩, by simp⟩
    · cases h
  · rename_i bx hargeq
    obtain ⟨rfl, hbox⟩ := argOf_eq hargeq
    simp only [Option.some.injEq] at h
    subst h
    simp only [RelV] at ha
    subst ha
    have hneed := hn _ rfl
    have I0 : InvM R { M with bs := M.bs.filter fun x => !(Nat.beq x.1 key) } := I.sub (fun b x hb => by
      rw [lk_drop] at hb
      split at hb
      · cases hb
      · exact hb)
    obtain ⟨v', w', k1, k2, k3⟩ := I0.append (P := P) (g := g) (xs := []) (cs := []) q1 q5 p3 p2 hzs q9 q7 (World.ownsRow_nil _ _ _ _) rfl key (.inl ⟨rfl, fun d B hb => by
        rw [lk_drop] at hb
        simp at hb⟩) false (fun d' fz' hb' => by
        rw [lk_drop] at hb'
        simp at hb') (ty := ty) (c := c) h1 h3 (by simpa [q6] using hneed) (by simpa using hone _ hneed)
    have hlook : ∀ b x, lk b (st' key (true, Box.row el' g ys false) M.bs) = some x → lk b (st' key (true, Box.row el' g ([] ++ ys) false) (M.bs.filter fun x => !(Nat.beq x.1 key))) = some x := by
      intro b x hb
      rw [lk_st] at hb ⊢
      split
      · rename_i hbk
        rw [if_pos hbk] at hb
        exact hb
      · rename_i hbk
        rw [if_neg hbk] at hb
        rw [lk_drop, if_neg hbk]
        exact hb
    refine ⟨v', w', k1, M.S, _, k2.sub hlook, ⟨k3.keeps, fun b' d B hb hK => ?_⟩, ?_⟩
    · have hne : b' ≠ key := fun hh => hK (killed_one.2 hh)
      refine ⟨d, B, ?_, by simp [hne], Box.le_refl B⟩
      simp only [applyB, lk_st, if_neg hne]
      exact hb
    · simp only [RelV, applyB]
      exact ⟨⟨true, _, lk_st_same _ _ _, trivial⟩, by simp⟩
  · cases h

theorem maxmin_sound (isMax : Bool) {k : IntKind} : ∀ {l : List AV} {us : List Value} {acc m : Int}, k.has acc → RelL M l us → maxmin isMax k (l.map (argOf M.bs)) acc = some m →
    (us.foldlM (if isMax then Builtin.max2 else Builtin.min2) (.int k acc)).run P M.w = .ok (.int k m) M.w ∧ k.has m
  | [], us, acc, m, ha, hr, h => by
    cases us with
    | nil =>
      simp only [List.map_nil, maxmin, Option.some.injEq] at h
      subst h
      exact ⟨by simp, ha⟩
    | cons _ _ => simp [RelL] at hr
  | v :: l, us, acc, m, ha, hr, h => by
    cases us with
    | nil => simp [RelL] at hr
    | cons u us =>
      simp only [RelL] at hr
      simp only [List.map_cons, argOf] at h
      unfold maxmin at h
      split at h
      · rename_i heq; simp at heq
      · rename_i acc' k' n bx l' heq
        simp only [List.cons.injEq, Prod.mk.injEq] at heq
        obtain ⟨⟨rfl, _⟩, rfl⟩ := heq
        split at h
        · rename_i hk _
          subst hk
          obtain ⟨rfl, hn⟩ := relInt hr.1
          cases isMax with
          | true =>
            simp only [if_true] at h ⊢
            have ih := maxmin_sound true (by split <;> assumption) hr.2 h
            simp only [if_true] at ih
            refine ⟨?_, ih.2⟩
            rw [← ih.1]
            simp [List.foldlM_cons, Builtin.max2]
          | false =>
            simp only [Bool.false_eq_true, if_false] at h ⊢
            have ih := maxmin_sound false (by split <;> assumption) hr.2 h
            simp only [Bool.false_eq_true, if_false] at ih
            refine ⟨?_, ih.2⟩
            rw [← ih.1]
            simp [List.foldlM_cons, Builtin.min2]
        · cases h
      · cases h
end
end Go.Ev
/- Values in range. -/
set_option linter.unusedVariables false
set_option linter.unusedSimpArgs false
namespace Go.Ev

def wt : (g : GTy) → den g → Prop
  | .bool, _ => True
  | .err, _ => True
  | .int k, n => k.has n
  | .str, s => List.length (α := UInt8) s ≤ maxStr
  | .unit, _ => True
  | .prod a b, x => wt a x.1 ∧ wt b x.2
  | .arr n a, xs => List.length (α := den a) xs = n ∧ ∀ x : den a, x ∈ (show List (den a) from xs) → wt a x
  | .sl a, xs => List.length (α := den a) xs ≤ maxRow ∧ List.length (α := den a) xs * lbytes a ≤ maxRow ∧ ∀ x : den a, x ∈ (show List (den a) from xs) → wt a x
def small : (g : GTy) → den g → Prop
  | .bool, _ => True
  | .err, _ => True
  | .int _, _ => True
  | .str, s => List.length (α := UInt8) s ≤ 1048576
  | .unit, _ => True
  | .prod a b, x => small a x.1 ∧ small b x.2
  | .arr n a, xs => ∀ x : den a, x ∈ (show List (den a) from xs) → small a x
  | .sl a, xs => List.length (α := den a) xs ≤ 1048576 ∧ ∀ x : den a, x ∈ (show List (den a) from xs) → small a x

theorem encL_all {α : Type} {f : α → List Value → Prop} {p : α → Prop} (h : ∀ x c, f x c → p x) : ∀ {xs : List α} {cs : List Value}, encL f xs cs → ∀ x, x ∈ xs → p x
  | [], _, _, x, hx => by cases hx
  | y :: ys, _, ⟨c, d, _, a, b⟩, x, hx => by
    rcases List.mem_cons.1 hx with rfl | hx
    · exact h _ _ a
    · exact encL_all h b x hx

theorem Enc.wt {w : World} {S : Stab} : ∀ {g : GTy} {x : den g} {cs : List Value}, Enc w S g x cs → Ev.wt g x
  | .bool, _, _, _ => trivial
  | .err, _, _, _ => trivial
  | .int _, _, _, e => e.2
  | .str, _, _, e => e.2
  | .unit, _, _, _ => trivial
  | .prod _ _, _, _, ⟨c, d, e, a, b⟩ => ⟨Enc.wt a, Enc.wt b⟩
  | .arr _ a, xs, _, ⟨e, h⟩ => ⟨e, fun x hx => encL_all (f := Enc w S a) (p := Ev.wt a) (fun _ _ k => Enc.wt k) h x hx⟩
  | .sl a, xs, _, ⟨ad, cap, e, h1, h2, h3, h4⟩ => ⟨h3, h2, by
      rcases h4 with h4 | ⟨blk, off, ds, e1, e2, e3⟩
      · intro x hx
        rw [show (show List (den a) from xs) = [] from h4] at hx
        cases hx
      · exact fun x hx => encL_all (f := Enc w S a) (p := Ev.wt a) (fun _ _ k => Enc.wt k) e2 x hx⟩

def wtD : (gs : List GTy) → dens gs → Prop
  | [], _ => True
  | [g], x => wt g x
  | g :: h :: gs, x => wt g x.1 ∧ wtD (h :: gs) x.2

def smallD : (gs : List GTy) → dens gs → Prop
  | [], _ => True
  | [g], x => small g x
  | g :: h :: gs, x => small g x.1 ∧ smallD (h :: gs) x.2

theorem EncD.wt {w : World} {S : Stab} : ∀ {gs : List GTy} {x : dens gs} {us : List Value}, EncD w S gs x us → wtD gs x
  | [], _, _, _ => trivial
  | [_], _, _, ⟨cs, h1, _⟩ => h1.wt
  | _ :: _ :: _, _, _, ⟨cs, us', h1, _, h3⟩ => ⟨h1.wt, EncD.wt h3⟩
end Go.Ev
/- Plain facts on integers of a kind. -/
set_option linter.unusedVariables false
set_option linter.unusedSimpArgs false
namespace Go.Ev

theorem has_u8 (n : Int) : IntKind.u8.has n ↔ 0 ≤ n ∧ n ≤ 255 := by simp [IntKind.has, IntKind.min, IntKind.max, IntKind.signed, IntKind.bits]
theorem has_u32 (n : Int) : IntKind.u32.has n ↔ 0 ≤ n ∧ n ≤ 4294967295 := by simp [IntKind.has, IntKind.min, IntKind.max, IntKind.signed, IntKind.bits]
theorem has_u64 (n : Int) : IntKind.u64.has n ↔ 0 ≤ n ∧ n ≤ 18446744073709551615 := by simp [IntKind.has, IntKind.min, IntKind.max, IntKind.signed, IntKind.bits]
theorem has_i64 (n : Int) : IntKind.i64.has n ↔ -9223372036854775808 ≤ n ∧ n ≤ 9223372036854775807 := by simp [IntKind.has, IntKind.min, IntKind.max, IntKind.signed, IntKind.bits]
theorem has_i32 (n : Int) : IntKind.i32.has n ↔ -2147483648 ≤ n ∧ n ≤ 2147483647 := by simp [IntKind.has, IntKind.min, IntKind.max, IntKind.signed, IntKind.bits]

theorem wrap_u8 (n : Int) : IntKind.u8.wrap n = n % 256 := by simp [IntKind.wrap, IntKind.signed, IntKind.bits]
theorem wrap_u32 (n : Int) : IntKind.u32.wrap n = n % 4294967296 := by simp [IntKind.wrap, IntKind.signed, IntKind.bits]
theorem wrap_id {k : IntKind} {n : Int} (h : k.has n) : k.wrap n = n := by
  cases k <;> simp [IntKind.has, IntKind.min, IntKind.max, IntKind.signed, IntKind.bits] at h <;> simp [IntKind.wrap, IntKind.signed, IntKind.bits] <;> (try split) <;> omega
theorem i64_id {n : Int} (h : -9223372036854775808 ≤ n) (h' : n ≤ 9223372036854775807) : IntKind.i64.wrap n = n := wrap_id ((has_i64 n).2 ⟨h, h'⟩)
theorem u64_id {n : Int} (h : 0 ≤ n) (h' : n ≤ 18446744073709551615) : IntKind.u64.wrap n = n := wrap_id ((has_u64 n).2 ⟨h, h'⟩)
theorem u32_id {n : Int} (h : 0 ≤ n) (h' : n ≤ 4294967295) : IntKind.u32.wrap n = n := wrap_id ((has_u32 n).2 ⟨h, h'⟩)
theorem u8_id {n : Int} (h : 0 ≤ n) (h' : n ≤ 255) : IntKind.u8.wrap n = n := wrap_id ((has_u8 n).2 ⟨h, h'⟩)

theorem ofInt_toNat {w : Nat} {n : Int} (h0 : 0 ≤ n) (h1 : n < 2 ^ w) : (BitVec.ofInt w n).toNat = n.toNat := by
  rw [BitVec.toNat_ofInt]
  have : n % (2 ^ w : Nat) = n := Int.emod_eq_of_lt h0 (by exact_mod_cast h1)
  rw [this]

theorem and_nat {k : IntKind} {a b : Int} (ha : 0 ≤ a) (ha' : a < 2 ^ k.bits) (hb : 0 ≤ b) (hb' : b < 2 ^ k.bits) (h : k.has (a.toNat &&& b.toNat : Nat)) : bitsOp .and k a b = ((a.toNat &&& b.toNat : Nat) : Int) := by
  unfold bitsOp
  simp only [BitVec.toNat_and, ofInt_toNat ha ha', ofInt_toNat hb hb']
  exact wrap_id h
theorem or_nat {k : IntKind} {a b : Int} (ha : 0 ≤ a) (ha' : a < 2 ^ k.bits) (hb : 0 ≤ b) (hb' : b < 2 ^ k.bits) (h : k.has (a.toNat ||| b.toNat : Nat)) : bitsOp .or k a b = ((a.toNat ||| b.toNat : Nat) : Int) := by
  unfold bitsOp
  simp only [BitVec.toNat_or, ofInt_toNat ha ha', ofInt_toNat hb hb']
  exact wrap_id h
end Go.Ev
/- A text's iterator, told of boxes. -/
set_option linter.unusedVariables false
set_option linter.unusedSimpArgs false
namespace Go.Ev
theorem decode_pos (s : ByteArray) (i : Nat) : 1 ≤ (Utf8.decode s i).2 ∧ (Utf8.decode s i).1 < 2097152 := by
  unfold Utf8.decode Utf8.runeError
  simp only
  repeat' split
  all_goals (first | exact ⟨by decide, by decide⟩ | exact ⟨Nat.le_of_ble_eq_true rfl, by simp only []; omega⟩)
theorem decL_lt (y : List UInt8) (i : Nat) : (decL y i).1 < 2097152 := (decode_pos _ _).2
section
variable {P : Program} {R : Ref} {M : Mem}
theorem After.newIter (I : InvM R M) (key : Nat) {y : List UInt8} (h : y.length ≤ maxStr) (n : Option Prop) :
    After R M ⟨.ptr key .unit [], [(key, true, .iter y 0)], n⟩ (.pointer (some ⟨M.w.heap.size, 0, none⟩)) (M.w.iter ⟨⟨y⟩⟩ 0) := by
  obtain ⟨I2, s2⟩ := I.newIter key h
  refine ⟨M.S, fun c => if c = key then .pointer (some ⟨M.w.heap.size, 0, none⟩) else M.β c, I2, s2.mono (fun b hb => killed_one.2 hb), ?_⟩
  simp only [RelV, applyB]
  exact ⟨M.w.heap.size, true, .iter y 0, lk_st_same _ _ _, ⟨rfl, rfl⟩, by simp [blkOf], by simp [offs]⟩
theorem next_sound (I : InvM R M) {ρ : Operand → Value} {x : Operand} {b : Nat} {g : GTy} {p : List PStep} {y : List UInt8} {pos : Nat} (h : RelV M (.ptr b g p) (ρ x)) (hbox : (lk b M.bs).map (·.2) = some (.iter y pos)) (nd : Option Prop) {o : Oper} (ho : o.op = .next x true) :
    Yields P ρ o M.w (After R M ⟨.nxt (Nat.blt pos (List.length (α := UInt8) y)) (pos : Int) ((decL y pos).1 : Int), [(b, false, .iter y (decN y pos))], nd⟩) := by
  simp only [RelV] at h
  obtain ⟨blk, d, B, h1, h2, h3, hu⟩ := h
  rw [h1] at hbox
  simp only [Option.map_some, Option.some.injEq] at hbox
  subst hbox
  obtain ⟨rfl, rfl⟩ := h2
  obtain ⟨blk', hv, q2, q3, q4, q5⟩ := I.boxes b d _ h1
  have hbb : blk' = blk := by rw [hv] at h3; simpa [blkOf] using h3
  subst hbb
  have hlt : blk' < M.w.heap.size := (Array.getElem?_eq_some_iff.1 q2).1
  have hu' : ρ x = .pointer (some ⟨blk', 0, none⟩) := hu
  have only : ∀ blk, M.β b = .pointer (some ⟨blk, 0, none⟩) → blk = blk' := fun blk hb => by rw [hv] at hb; simp at hb; exact hb.symm
  by_cases hpos : pos < y.length
  · have hs : pos < (ByteArray.mk ⟨y⟩).size := by show pos < y.length; exact hpos
    have hb : Nat.blt pos y.length = true := by rw [Nat.blt_eq]; exact hpos
    have hN : decN y pos = pos + (decL y pos).2 := by unfold decN; rw [hb]; rfl
    obtain ⟨J, st⟩ := I.nextIter h1 (pos + (decL y pos).2) (w' := { M.w with heap := M.w.heap.setIfInBounds blk' (.stringIter ⟨⟨y⟩⟩ (pos + (decL y pos).2)) }) rfl rfl rfl (by simp) (fun blk hblk => by
      rw [only blk hblk]
      exact ⟨by show (M.w.heap.setIfInBounds blk' _)[blk']? = _; simp [hlt], fun k hk => by simp [Array.getElem?_setIfInBounds, Ne.symm hk]⟩)
    refine .value (v := .tuple #[.bool true, .int .i64 (pos : Int), .int .i32 ((decL y pos).1 : Int)]) (w' := { M.w with heap := M.w.heap.setIfInBounds blk' (.stringIter ⟨⟨y⟩⟩ (pos + (decL y pos).2)) }) ?_ ?_
    · unfold execOp
      rw [ho]
      simp only [hu', Instr.next, getObj, setObj, Sem.run_bind, Sem.run, q2, Result.andThen, hs, if_true]
      simp [goInt, Sem.run, q2, decL]
    · rw [hb, hN]
      refine ⟨M.S, M.β, J, st.mono (fun c hc => hc.elim), ?_⟩
      simp only [RelV]
      have hr := decL_lt y pos
      have hm : y.length ≤ 4611686018427387904 := q3
      exact ⟨_, rfl, rfl, fun _ => ⟨rfl, rfl, (has_i64 _).2 ⟨by omega, by omega⟩, (has_i32 _).2 ⟨by omega, by omega⟩⟩⟩
  · have hs : ¬ pos < (ByteArray.mk ⟨y⟩).size := by show ¬ pos < y.length; exact hpos
    have hb : Nat.blt pos y.length = false := by cases hh : Nat.blt pos y.length with | false => rfl | true => exact absurd (by rw [Nat.blt_eq] at hh; exact hh) hpos
    have hN : decN y pos = pos := by unfold decN; rw [hb]; rfl
    obtain ⟨J, st⟩ := I.nextIter h1 pos (w' := M.w) rfl rfl rfl (Nat.le_refl _) (fun blk hblk => by
      rw [only blk hblk]
      exact ⟨q2, fun _ _ => rfl⟩)
    refine .value (v := .tuple #[.bool false]) (w' := M.w) ?_ ?_
    · unfold execOp
      rw [ho]
      simp [hu', Instr.next, getObj, Sem.run, q2, hs]
    · rw [hb, hN]
      refine ⟨M.S, M.β, J, st.mono (fun c hc => hc.elim), ?_⟩
      simp only [RelV]
      exact ⟨_, rfl, rfl, fun h => by cases h⟩
end
end Go.Ev
/- Windows over byte arrays: sliced, told as texts, copied into. -/
set_option linter.unusedVariables false
set_option linter.unusedSimpArgs false
namespace Go.Ev
def byCells (s : List UInt8) : List Value := s.map fun b => Value.int .u8 (b.toNat : Int)
theorem enc_by {w : World} {S : Stab} : ∀ s : List UInt8, encL (Enc w S (.int .u8)) (strToBytes s) (byCells s)
  | [] => rfl
  | b :: s => by
    have := b.toNat_lt
    exact ⟨[.int .u8 (b.toNat : Int)], byCells s, rfl, ⟨rfl, by simp only [IntKind.has, IntKind.min, IntKind.max, IntKind.signed, IntKind.bits]; simp; omega⟩, enc_by s⟩
section
variable {P : Program} {τ : Tys} {R : Ref} {M : Mem}
theorem winBox {b lo : Nat} {n : Nat} {x : den (.arr n (.int .u8))} {u : Value} (ha : RelV M (.win b lo) u) (hb : (lk b M.bs).map (·.2) = some (.var (.arr n (.int .u8)) x)) :
    ∃ d blk, lk b M.bs = some (d, .var (.arr n (.int .u8)) x) ∧ lo < n ∧ blkOf (M.β b) = some blk ∧ u = .slice (some ⟨blk, lo, none⟩) (n - lo) (n - lo) := by
  simp only [RelV] at ha
  obtain ⟨m, blk, d, B, h1, h2, h3, h4, h5⟩ := ha
  rw [h1] at hb
  simp only [Option.map_some, Option.some.injEq] at hb
  subst hb
  have e := h2.1
  simp only [GTy.arr.injEq] at e
  obtain ⟨rfl, _⟩ := e
  exact ⟨d, blk, h1, h3, h4, h5⟩
theorem winEff_sound (TOK : TysOK P τ) (I : InvM R M) {t : TypeId} {i : TInfo} (hi : τ t = some i) {va : AV} {u : Value} (ha : RelV M va u) {bs : Option Int × Option Int × Option Int} {lo hi' mx : Option Value} (hb : IntOpt bs.1 lo ∧ IntOpt bs.2.1 hi' ∧ IntOpt bs.2.2 mx) {e : Eff}
    (h : winEff i.g (argOf M.bs va) (some bs) = some e) (hn : e.ok) : ∃ v, (Instr.sliceAt t u lo hi' mx).run P M.w = .ok v M.w ∧ After R M e v M.w := by
  have hd := (TOK t i hi).desc
  obtain ⟨blo, bhi, bmx⟩ := bs
  obtain ⟨hb1, hb2, hb3⟩ := hb
  obtain ⟨g, nf, by_, el⟩ := i
  unfold winEff at h
  simp only at h hd
  split at h
  · rename_i _ _ _ m b g' n x lo0 hargeq hbs
    simp only [Option.some.injEq, Prod.mk.injEq] at hbs
    obtain ⟨rfl, rfl, rfl⟩ := hbs
    split at h
    · rename_i hmn _
      subst hmn
      simp only [Option.some.injEq] at h
      subst h
      obtain ⟨hlo0, hlo1⟩ := hn _ rfl
      have ha' := ArgR.of ha
      rw [hargeq] at ha'
      obtain ⟨blk, d, k1, _, k2, k3, rfl⟩ := boxVar ha'
      obtain ⟨rfl, hbox⟩ := argOf_eq hargeq
      simp only at hd
      obtain ⟨ee, j, r1, r2, r3⟩ := hd
      obtain ⟨ti', hti', hsz, _⟩ := (TOK _ _ r2).info
      rw [r3] at hsz
      have hloN : loOf blo = (blo.getD 0).toNat := by cases blo <;> rfl
      have hsb := sliceBounds_run (P := P) (isSlice := false) (n := m) (c := m) hb1 hb2 hb3 (Nat.le_refl _) (by rw [hloN]; simp only [hiOf]; omega) (by simp only [hiOf]; omega) (fun i hi => by subst hi; exact hlo0) (fun j hj => by cases hj) (fun m hm => by cases hm) M.w
      refine ⟨.slice (some ⟨blk, (blo.getD 0).toNat, none⟩) (m - (blo.getD 0).toNat) (m - (blo.getD 0).toNat), ?_, After.pure I ?_⟩
      · simp only [Instr.sliceAt, Sem.run_bind, run_underlying r1, Result.andThen_ok, Instr.sureAddr, Sem.run_pure, hsb, run_sizeOf' hti']
        simp only [offs, hloN, hiOf]
        rw [if_neg (by omega), hsz]
        simp [Addr.add_lit, ncell]
      · simp only [RelV]
        exact ⟨m, blk, d, _, k1, ⟨rfl, inB_nil _⟩, by omega, k3, rfl⟩
    · cases h
  · cases h
theorem varBytes (I : InvM R M) {b blk : Nat} {d : Bool} {n : Nat} {x : den (.arr n (.int .u8))} (hb : lk b M.bs = some (d, .var (.arr n (.int .u8)) x)) (hβ : blkOf (M.β b) = some blk) :
    ∃ cs e, M.w.heap[blk]? = some (.cells cs e (0, 0)) ∧ List.length (α := Int) x = n ∧ encL (Enc M.w M.S (.int .u8)) x cs.toList ∧ cs.toList = (show List Int from x).map (Value.int .u8) := by
  obtain ⟨blk', cs, e, hv', h2, h3, h4, h5⟩ := I.boxes b d _ hb
  have hbb : blk' = blk := by rw [hv'] at hβ; simpa [blkOf] using hβ
  subst hbb
  exact ⟨cs, e, h2, h3.1, h3.2, bytes_cells h3.2⟩
theorem winConv_sound (TOK : TysOK P τ) (I : InvM R M) {s d : TypeId} {j i : TInfo} (hj : τ s = some j) (hi : τ d = some i) {va : AV} {u : Value} (ha : RelV M va u) {e : Eff} (h : winConv j.g i.g (argOf M.bs va) = some e) :
    ∃ v, (convert s d u).run P M.w = .ok v M.w ∧ e.wr = [] ∧ RelV M e.av v := by
  have hd := (TOK d i hi).desc
  have hs := (TOK s j hj).desc
  obtain ⟨g, nf, by_, el⟩ := i
  obtain ⟨g', nf', by', el'⟩ := j
  unfold winConv at h
  simp only at h hd hs
  split at h
  · rename_i _ _ _ b lo n x hargeq
    split at h
    · rename_i hble
      simp only [v0, Option.some.injEq] at h
      subst h
      obtain ⟨rfl, hbox⟩ := argOf_eq hargeq
      obtain ⟨dd, blk, k1, k2, k3, rfl⟩ := winBox ha hbox
      obtain ⟨ee, jj, ti, q1, _, q2, q3, _⟩ := hs
      have he := (TOK _ _ q2).desc
      rw [q3] at he
      obtain ⟨cs, e0, hc, hl, henc, hcs⟩ := varBytes I k1 k3
      have hle : n ≤ 65536 := by simpa using hble
      have hdl : (List.drop (α := Int) lo x).length = n - lo := by rw [List.length_drop, hl]
      refine ⟨.string ⟨⟨bytesToStr (List.drop (α := Int) lo x)⟩⟩, ?_, rfl, mkStr ?_⟩
      · rw [run_convert_bytes_string _ s d ee _ _ _ q1 he hd]
        have := run_bytesToString (P := P) M.w ⟨blk, lo, none⟩ (n - lo) (n - lo) (List.drop (α := Int) lo x) (by
          have hlen2 : ((List.drop (α := Int) lo x).map (Value.int .u8)).length = n - lo := by rw [List.length_map, hdl]
          rw [← hlen2]
          refine loadCells_at (fun j v hv => ?_)
          have h1 : cs[lo + j]? = some v := by
            rw [← Array.getElem?_toList, hcs]
            rw [List.map_drop, List.getElem?_drop] at hv
            exact hv
          simp [World.cell?, hc, h1])
        rw [this, show ByteArray.empty = ⟨⟨[]⟩⟩ from rfl, foldl_push]
        rfl
      · have : (bytesToStr (List.drop (α := Int) lo x)).length = n - lo := by unfold bytesToStr; rw [List.length_map, hdl]
        simp only [maxStr]
        omega
    · cases h
  · cases h
theorem store_all {w : World} {blk : Nat} {cs : Array Value} {e : TypeId} {vs : List Value} (hc : w.heap[blk]? = some (.cells cs e (0, 0))) (hl : vs.length = cs.size) (h1 : ∀ v ∈ vs, v.oneCell' = true) : (storeCells ⟨blk, 0, none⟩ vs).run P w = .ok () (w.setRow blk vs.toArray) := by
  have hst := run_storeCells_at P blk 0 e vs 0 cs w hc (by omega) h1
  simp only [Nat.add_zero, Nat.zero_add, List.take_zero, List.nil_append] at hst
  rw [List.drop_eq_nil_of_le (by rw [hl]; simp), List.append_nil] at hst
  exact hst
theorem InvM.fillRow {P : Program} (I : InvM R M) {b : Nat} {d : Bool} {el : Nat} {g : GTy} {xs ys : List (den g)} (hb : lk b M.bs = some (d, .row el g xs false)) (hlen : ys.length = xs.length) {vs : List Value} (hv : encL (Enc M.w M.S g) ys vs) {blk cap : Nat} (hβ : M.β b = .slice (some ⟨blk, 0, none⟩) xs.length cap) :
    ∃ w', (storeCells ⟨blk, 0, none⟩ vs).run P M.w = .ok () w' ∧ InvM R { M with w := w', bs := st' b (true, .row el g ys false) M.bs } ∧ Step M { M with w := w', bs := st' b (true, .row el g ys false) M.bs } (fun _ => False) := by
  obtain ⟨cs, h1, h2, h3, h4, h5, h6⟩ := I.boxes b d _ hb
  have hbk : blkOf (M.β b) = some blk := by rw [hβ]; rfl
  rcases h1.2 with ⟨hn, _⟩ | ⟨blk', cap', cur, hv', r1, r2, r3, r4, r5, r6⟩
  · rw [hn] at hβ; cases hβ
  have hbb : blk' = blk := by rw [hv'] at hβ; simp only [Value.slice.injEq, Option.some.injEq, Addr.mk.injEq, true_and] at hβ; exact hβ.1.1
  subst hbb
  have hvl : vs.length = xs.length * ncell g := by rw [← hlen]; exact encL_len (fun _ _ hh => hh.len) hv
  have hcl : cs.length = xs.length * ncell g := h1.1
  have hcap := Nat.mul_le_mul_right (ncell g) r3
  have hst := run_storeCells_at P blk' 0 el vs 0 cur M.w r2 (by rw [r5]; omega) (fun u hu => encL_one (fun _ _ hh => hh.one) hv u hu)
  simp only [Nat.zero_add, Nat.add_zero, List.take_zero, List.nil_append] at hst
  have hk : Keeps M.S M.S M.w (M.w.setRow blk' (vs ++ cur.toList.drop vs.length).toArray) := fun y o hs => ⟨hs, cell_of_heap (setRow_other _ _ _ _ (fun hy => by
    subst hy
    have := ((h6 _ hbk).2 o hs).1
    cases this))⟩
  have hB : RelB R (M.w.setRow blk' (vs ++ cur.toList.drop vs.length).toArray) M.S (M.β b) (.row el g ys false) := by
    refine ⟨vs, ⟨by rw [hlen, hvl], .inr ⟨blk', cap', _, by rw [hv', hlen], r1, setRow_heap _ _ _ _ _ _ r2, by rw [hlen]; exact r3, r4, ?_, ?_⟩⟩, encL_mono (fun _ _ hh => hh.keeps hk) hv, by rw [hlen]; exact h3, by rw [hlen]; exact h4, h5, fun y hy => ⟨(h6 y hy).1, fun o ho => by rw [hlen]; exact (h6 y hy).2 o ho⟩⟩
    · have e1 : cur.toList.length = cap' * ncell g := by rw [← r5]; rfl
      have e2 : (vs ++ cur.toList.drop vs.length).length = cap' * ncell g := by
        rw [List.length_append, List.length_drop, e1]
        omega
      exact e2
    · rw [hlen, ← hvl]
      exact List.take_left' rfl
  have J := I.setBox (w' := M.w.setRow blk' (vs ++ cur.toList.drop vs.length).toArray) (S' := M.S) (v' := M.β b) b (.row el g ys false) true rfl rfl rfl (by rw [setRow_size]; exact Nat.le_refl _)
    (fun k _ hne => setRow_other _ _ _ _ (fun hk => hne d _ hb (by rw [hbk, hk]))) hk (fun _ _ h => .inl h) hB (fun k h => .inr ⟨⟨d, _, hb⟩, h⟩)
  have hbeta : (fun c => if c = b then M.β b else M.β c) = M.β := by funext c; split; (rename_i hcb; rw [hcb]); rfl
  rw [hbeta] at J
  refine ⟨_, hst, J, hk, fun c' dc Bc hc _ => ?_⟩
  simp only [lk_st]
  by_cases hcb : c' = b
  · subst hcb
    rw [hb] at hc
    simp only [Option.some.injEq, Prod.mk.injEq] at hc
    obtain ⟨rfl, rfl⟩ := hc
    refine ⟨true, .row el g ys false, by simp, trivial, ⟨fun g' p hp => ?_, fun h => h⟩⟩
    obtain ⟨e1, i', q', e2, e3, e4⟩ := hp
    exact ⟨e1, i', q', e2, by rw [hlen]; exact e3, e4⟩
  · exact ⟨dc, Bc, by simp only [hcb, if_false]; exact hc, trivial, Box.le_refl _⟩
theorem copyEff_sound (TOK : TysOK P τ) (I : InvM R M) {t u ty : TypeId} {i : TInfo} (hi : τ t = some i) {va vx : AV} {a x : Value} (ha : RelV M va a) (hx : RelV M vx x) {e : Eff} (h : copyEff i.g (argOf M.bs va) (argOf M.bs vx) = some e) (hn : e.ok) :
    ∃ v w', (Builtin.copy_ #[t, u] ty #[a, x]).run P M.w = .ok v w' ∧ After R M e v w' := by
  have hd := (TOK t i hi).desc
  obtain ⟨g, nf, by_, el⟩ := i
  unfold copyEff at h
  simp only at h hd
  split at h
  · rename_i _ _ _ b lo n xs s bx hargeq hxeq
    simp only [Option.some.injEq] at h
    subst h
    have hfit := hn _ rfl
    obtain ⟨rfl, hbox⟩ := argOf_eq hargeq
    obtain ⟨rfl, _⟩ := argOf_eq hxeq
    obtain ⟨rfl, hls⟩ := relStr hx
    obtain ⟨dd, blk, k1, k2, k3, rfl⟩ := winBox ha hbox
    simp only at hd
    obtain ⟨ee, jj, ti, q1, _, q2, q3, q4, _⟩ := hd
    obtain ⟨ti', hti', hsz, _⟩ := (TOK _ _ q2).info
    rw [q3] at hsz
    have hz : P.info? ee = some ti' := hti'
    obtain ⟨cs, e0, hc, hl, henc, hcs⟩ := varBytes I k1 k3
    have hsize : cs.size = n := by
      have := congrArg List.length hcs
      rw [List.length_map] at this
      rw [show cs.size = cs.toList.length by simp, this]
      exact hl
    have hbl : (byCells s).length = List.length (α := UInt8) s := by simp [byCells]
    have hst := run_storeCells_at P blk lo e0 (byCells s) 0 cs M.w hc (by rw [hbl]; omega) (fun v hv => by
      obtain ⟨y, _, rfl⟩ := List.mem_map.1 hv
      rfl)
    simp only [Nat.add_zero] at hst
    rw [hbl] at hst
    have hnc : ncell (.int .u8) = 1 := rfl
    have hcopy : (Builtin.copy_ #[t, u] ty #[.slice (some ⟨blk, lo, none⟩) (n - lo) (n - lo), .string ⟨⟨s⟩⟩]).run P M.w = .ok (.int .i64 (List.length (α := UInt8) s : Int)) (M.w.setRow blk (cs.toList.take lo ++ byCells s ++ cs.toList.drop (lo + List.length (α := UInt8) s)).toArray) := by
      have hsz2 : (⟨⟨s⟩⟩ : ByteArray).size = List.length (α := UInt8) s := rfl
      have hmin : Nat.min (List.length (α := UInt8) s) (n - lo) = List.length (α := UInt8) s := Nat.min_eq_left (by omega)
      have htk : List.take (List.length (α := UInt8) s) (List.map (fun b : UInt8 => Value.int IntKind.u8 (b.toNat : Int)) s) = byCells s := List.take_of_length_le (by rw [List.length_map]; exact Nat.le_refl _)
      simp [Builtin.copy_, run_underlying q1, Builtin.lenOf, Builtin.firstCells, sizeOf, typeInfo, hz, hsz2, hmin, hsz, hnc]
      rw [htk, hst]
      simp [Result.andThen, goInt]
    -- the same as a store of the whole array
    have henc2 : encL (Enc M.w M.S (.int .u8)) (List.take (α := Int) lo xs ++ strToBytes s ++ List.drop (α := Int) (lo + List.length (α := UInt8) s) xs) (cs.toList.take lo ++ byCells s ++ cs.toList.drop (lo + List.length (α := UInt8) s)) := by
      have hsp := fun k => encL_split (f := Enc M.w M.S (.int .u8)) (n := 1) (fun x c hxc => by rw [hxc.1]; rfl) k henc
      have h1 := (hsp lo).1
      have h2 := (hsp (lo + List.length (α := UInt8) s)).2
      rw [Nat.mul_one] at h1 h2
      exact encL_append (encL_append h1 (enc_by s)) h2
    have hlen2 : (List.take (α := Int) lo xs ++ strToBytes s ++ List.drop (α := Int) (lo + List.length (α := UInt8) s) xs).length = n := by
      have : List.length (α := Int) xs = n := hl
      simp only [List.length_append, List.length_take, List.length_drop, strToBytes, List.length_map]
      omega
    have hE : Enc M.w M.S (.arr n (.int .u8)) (List.take (α := Int) lo xs ++ strToBytes s ++ List.drop (α := Int) (lo + List.length (α := UInt8) s) xs) (cs.toList.take lo ++ byCells s ++ cs.toList.drop (lo + List.length (α := UInt8) s)) := ⟨hlen2, henc2⟩
    have hupd : upd (.arr n (.int .u8)) xs [] ⟨.arr n (.int .u8), (List.take (α := Int) lo xs ++ strToBytes s ++ List.drop (α := Int) (lo + List.length (α := UInt8) s) xs)⟩ = some (List.take (α := Int) lo xs ++ strToBytes s ++ List.drop (α := Int) (lo + List.length (α := UInt8) s) xs) := by
      unfold upd
      split
      · rfl
      · rename_i hne _
        exact absurd rfl hne
    obtain ⟨w', r1, r2, r3⟩ := I.store (P := P) k1 hupd (inB_nil _) hE k3
    have hlen3 := hE.len
    simp only [ncell, Nat.mul_one] at hlen3
    have hst2 := store_all (P := P) hc (by omega) (fun v hv => hE.one v hv)
    have hw : w' = M.w.setRow blk (cs.toList.take lo ++ byCells s ++ cs.toList.drop (lo + List.length (α := UInt8) s)).toArray := by
      have := r1.symm.trans hst2
      simp only [Result.ok.injEq, true_and] at this
      exact this
    subst hw
    refine ⟨_, _, hcopy, M.S, M.β, by simpa [applyB] using r2, ?_, mkInt ?_⟩
    · have := r3.mono (K' := killed [(b, false, .var (.arr n (.int .u8)) (List.take (α := Int) lo xs ++ strToBytes s ++ List.drop (α := Int) (lo + List.length (α := UInt8) s) xs))]) (fun c hc => hc.elim)
      simpa [applyB] using this
    · simp only [IntKind.has, IntKind.min, IntKind.max, IntKind.signed, IntKind.bits, maxStr] at hls ⊢
      simp
      omega
  · split at h
    · rename_i g0 b e h' zs hargeq _ _ hg ys _ hrow
      subst hg
      simp only [Option.some.injEq] at h
      subst h
      obtain ⟨hneed, hpos⟩ := hn _ rfl
      obtain ⟨rfl, hbox⟩ := argOf_eq hargeq
      obtain ⟨⟨dd, hb⟩, rfl⟩ := relTip ha hbox
      obtain ⟨ad, c, ds, rfl, h1, h2, h3⟩ := rowOf_sound I hx hrow
      simp only at hd
      obtain ⟨el', j, ti, q1, q2, q3, q4, q5, q6, q7, q8, q9⟩ := hd
      obtain ⟨ti', hti', hsz, _⟩ := (TOK _ _ q3).info
      rw [q4] at hsz
      have hz : P.info? el' = some ti' := hti'
      obtain ⟨cs, r1, _⟩ := I.boxes b dd _ hb
      rcases r1.2 with ⟨hnil, hz0⟩ | ⟨blk, cap, cur, hv', p1, p2, p3, p4, p5, p6⟩
      · omega
      obtain ⟨w', s1, s2, s3⟩ := I.fillRow (P := P) hb hneed h1 hv'
      have hdl : ds.length = ys.length * ncell g0 := encL_len (fun _ _ hh => hh.len) h1
      have hcell : ∃ a, ad = some a ∧ ∀ (j : Nat) v, ds[j]? = some v → M.w.cell? (a.add j) = some v := by
        rcases h3 with h3 | h3
        · rw [h3] at hpos; simp at hpos
        · exact h3
      obtain ⟨sa, rfl, hsa⟩ := hcell
      have hload := run_loadCells_list (P := P) M.w sa ds hsa
      have hcopy : (Builtin.copy_ #[t, u] ty #[.slice (some ⟨blk, 0, none⟩) zs.length cap, .slice (some sa) ys.length c]).run P M.w = .ok (.int .i64 (ys.length : Int)) w' := by
        have hmin : Nat.min ys.length zs.length = ys.length := Nat.min_eq_left (by omega)
        have hl2 : (loadCells sa (ys.length * ncell g0)).run P M.w = .ok ds.toArray M.w := by rw [← hdl]; exact hload
        simp [Builtin.copy_, run_underlying q1, Builtin.lenOf, Builtin.firstCells, sizeOf, typeInfo, hz, hmin, hsz]
        rw [hl2]
        simp [s1, Result.andThen, goInt]
      rw [hv']
      refine ⟨_, _, hcopy, M.S, M.β, by simpa [applyB] using s2, ?_, mkInt ?_⟩
      · have := s3.mono (K' := killed [(b, false, .row e g0 ys false)]) (fun c hc => hc.elim)
        simpa [applyB] using this
      · simp only [IntKind.has, IntKind.min, IntKind.max, IntKind.signed, IntKind.bits, maxRow] at h2 ⊢
        simp
        omega
    · cases h
  · cases h
end
end Go.Ev
