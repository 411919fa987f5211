/- Equality; parts of a value. -/
import Derived.Test.YtohodbfoeejbjaaEvOp1
set_option linter.unusedVariables false
set_option linter.unusedSimpArgs false
namespace Go.Ev

theorem run_sizeOf' {P : Program} {t : TypeId} {ti : TypeInfo} (h : P.info? t = some ti) (w : World) : (sizeOf t).run P w = .ok ti.size w := by
  simp [sizeOf, typeInfo, h]

theorem run_isAgg' {P : Program} {τ : Tys} {t : TypeId} {i : TInfo} (T : TyOK P τ t i) (w : World) : (Go.isAgg t).run P w = .ok (isAgg i.g) w := by
  have ha := T.agg
  unfold Go.isAgg
  obtain ⟨g, nf, by_, el⟩ := i
  have hd := T.desc
  cases g <;> simp only at hd ha ⊢
  case bool => simp [run_underlying hd]; rfl
  case int k => simp [run_underlying hd]; rfl
  case str => simp [run_underlying hd]; rfl
  case prod a b => obtain ⟨fs, h1, _⟩ := hd; simp [run_underlying h1]; rfl
  case arr n a => obtain ⟨e, j, h1, _⟩ := hd; simp [run_underlying h1]; rfl
  case sl a => obtain ⟨e, j, ti, h1, _⟩ := hd; simp [run_underlying h1]; rfl

theorem cells_one {w : World} {S : Stab} {g : GTy} {x : den g} {c : List Value} (h : Enc w S g x c) (ha : isAgg g = false) : ∃ v, c = [v] := by
  have hl := h.len
  have h1 : c.length = 1 := by cases g <;> simp [isAgg] at ha <;> simpa [ncell] using hl
  match c, h1 with
  | [v], _ => exact ⟨v, rfl⟩

theorem part_sound {P : Program} {τ : Tys} {t : TypeId} {i : TInfo} (T : TyOK P τ t i) {w W : World} {S : Stab} {x : den i.g} {a c r : List Value} (he : Enc W S i.g x c) {cs : Array Value} (hcs : cs.toList = a ++ c ++ r) {off : Nat} (ho : a.length = off) :
    (part t cs off).run P w = .ok (toVal i.g c) w := by
  obtain ⟨ti, hi, hsz, _⟩ := T.info
  unfold part
  simp only [Sem.run_bind, run_isAgg' T, Result.andThen_ok]
  cases ha : isAgg i.g with
  | true =>
    simp only [if_true, Sem.run_bind, run_sizeOf' hi, Result.andThen_ok, Sem.run_pure, toVal, ha]
    congr 2
    apply Array.ext'
    rw [Array.toList_extract, hcs, ← ho, hsz, ← he.len]
    simp
  | false =>
    obtain ⟨v, rfl⟩ := cells_one he ha
    have : cs[off]? = some v := by
      rw [← Array.getElem?_toList, hcs, ← ho]
      simp
    simp [this, toVal, ha]

def EqAt (P : Program) (τ : Tys) (d N : Nat) : Prop :=
  ∀ t i, τ t = some i → i.g.sz < N → ∀ (W w : World) (S : Stab) (x y : den i.g) (c c' : List Value), Enc W S i.g x c → Enc W S i.g y c' → cmp i.g = true → (Op.equalIn d t (toVal i.g c) (toVal i.g c')).run P w = .ok (geq i.g x y) w

theorem eqFields_sound {P : Program} {τ : Tys} (TOK : TysOK P τ) {d N : Nat} (IH : EqAt P τ d N) {w W : World} {S : Stab} : ∀ (l : List Field) (g : GTy) (x y : den g) (a c a' c' : List Value) (cs cs' : Array Value) (off : Nat), g.sz ≤ N → Chain l.length g → cmp g = true →
    Enc W S g x c → Enc W S g y c' → cs.toList = a ++ c → cs'.toList = a' ++ c' → a.length = off → a'.length = off →
    (∀ (k : Nat) f, l[k]? = some f → f.name ≠ "_" ∧ f.offset = off + offs g (fieldPath l.length k) ∧ ∃ j, τ f.type = some j ∧ pathTy g (fieldPath l.length k) = some j.g) →
    (Op.eqFields d cs cs' l).run P w = .ok (geq g x y) w
  | [f], .prod g1 .unit, x, y, a, c, a', c', cs, cs', off, hN, _, hcmp, ⟨c1, c2, e1, h1, h2⟩, ⟨d1, d2, k1, k2, k3⟩, hc, hc', ha, ha', hf => by
    obtain ⟨hnm, hof, j, hj, hp⟩ := hf 0 f rfl
    simp only [List.length_singleton, fieldPath, pathTy, Option.some.injEq] at hp
    subst hp
    simp only [List.length_singleton, fieldPath] at hof
    have hof : f.offset = off := by rw [hof]; cases j.g <;> rfl
    have T := TOK _ _ hj
    have p1 := part_sound (P := P) (w := w) T h1 (cs := cs) (a := a) (c := c1) (r := c2) (by rw [hc, e1]; simp) (off := off) ha
    have p2 := part_sound (P := P) (w := w) T k2 (cs := cs') (a := a') (c := d1) (r := d2) (by rw [hc', k1]; simp) (off := off) ha'
    simp only [cmp, Bool.and_eq_true] at hcmp
    have q := IH f.type j hj (by simp only [GTy.sz] at hN; omega) W w S x.1 y.1 c1 d1 h1 k2 hcmp.1
    simp only [Op.eqFields, hnm, ne_eq, not_false_eq_true, if_true, Sem.run_bind, hof, p1, p2, q, Result.andThen_ok, geq, Bool.and_true]
    cases geq j.g x.1 y.1 <;> simp
  | [f, f'], .prod g1 g2, x, y, a, c, a', c', cs, cs', off, hN, _, hcmp, ⟨c1, c2, e1, h1, h2⟩, ⟨d1, d2, k1, k2, k3⟩, hc, hc', ha, ha', hf => by
    obtain ⟨hnm, hof, j, hj, hp⟩ := hf 0 f rfl
    obtain ⟨hnm', hof', j', hj', hp'⟩ := hf 1 f' rfl
    simp only [List.length_cons, List.length_nil, Nat.zero_add, Nat.reduceAdd, fieldPath, pathTy, Option.some.injEq] at hp hp'
    subst hp
    have hp'' : g2 = j'.g := by cases g2 <;> simpa [pathTy] using hp'
    subst hp''
    have hof : f.offset = off := by rw [hof]; simp only [List.length_cons, List.length_nil, Nat.zero_add, Nat.reduceAdd, fieldPath, offs]; cases j.g <;> rfl
    have hof' : f'.offset = off + ncell j.g := by rw [hof']; simp only [List.length_cons, List.length_nil, Nat.zero_add, Nat.reduceAdd, fieldPath, offs]; cases j'.g <;> rfl
    have T := TOK _ _ hj
    have T' := TOK _ _ hj'
    have p1 := part_sound (P := P) (w := w) T h1 (cs := cs) (a := a) (c := c1) (r := c2) (by rw [hc, e1]; simp) (off := off) ha
    have p2 := part_sound (P := P) (w := w) T k2 (cs := cs') (a := a') (c := d1) (r := d2) (by rw [hc', k1]; simp) (off := off) ha'
    have p3 := part_sound (P := P) (w := w) T' h2 (cs := cs) (a := a ++ c1) (c := c2) (r := []) (by rw [hc, e1]; simp) (off := off + ncell j.g) (by rw [List.length_append, ha, h1.len])
    have p4 := part_sound (P := P) (w := w) T' k3 (cs := cs') (a := a' ++ d1) (c := d2) (r := []) (by rw [hc', k1]; simp) (off := off + ncell j.g) (by rw [List.length_append, ha', k2.len])
    simp only [cmp, Bool.and_eq_true] at hcmp
    have q := IH f.type j hj (by simp only [GTy.sz] at hN; omega) W w S x.1 y.1 c1 d1 h1 k2 hcmp.1
    have q' := IH f'.type j' hj' (by simp only [GTy.sz] at hN; omega) W w S x.2 y.2 c2 d2 h2 k3 hcmp.2
    simp only [Op.eqFields, hnm, hnm', ne_eq, not_false_eq_true, if_true, Sem.run_bind, hof, hof', p1, p2, p3, p4, q, q', Result.andThen_ok, geq]
    cases geq j.g x.1 y.1 <;> cases hq : geq j'.g x.2 y.2 <;> simp [p3, p4, q', hq]
  | f :: f' :: f'' :: l, .prod g1 g2, x, y, a, c, a', c', cs, cs', off, hN, hch, hcmp, ⟨c1, c2, e1, h1, h2⟩, ⟨d1, d2, k1, k2, k3⟩, hc, hc', ha, ha', hf => by
    obtain ⟨hnm, hof, j, hj, hp⟩ := hf 0 f rfl
    simp only [List.length_cons, fieldPath, pathTy, Option.some.injEq] at hp
    subst hp
    have hof : f.offset = off := by rw [hof]; simp only [List.length_cons, fieldPath, offs]; cases j.g <;> rfl
    have T := TOK _ _ hj
    have p1 := part_sound (P := P) (w := w) T h1 (cs := cs) (a := a) (c := c1) (r := c2) (by rw [hc, e1]; simp) (off := off) ha
    have p2 := part_sound (P := P) (w := w) T k2 (cs := cs') (a := a') (c := d1) (r := d2) (by rw [hc', k1]; simp) (off := off) ha'
    simp only [cmp, Bool.and_eq_true] at hcmp
    have q := IH f.type j hj (by simp only [GTy.sz] at hN; omega) W w S x.1 y.1 c1 d1 h1 k2 hcmp.1
    have hrec := eqFields_sound TOK IH (w := w) (f' :: f'' :: l) g2 x.2 y.2 (a ++ c1) c2 (a' ++ d1) d2 cs cs' (off + ncell j.g) (by simp only [GTy.sz] at hN; omega) hch hcmp.2 h2 k3 (by rw [hc, e1]; simp) (by rw [hc', k1]; simp) (by rw [List.length_append, ha, h1.len]) (by rw [List.length_append, ha', k2.len])
      (fun k g hg => by
        obtain ⟨r1, r2, jj, r3, r4⟩ := hf (k + 1) g (by simpa using hg)
        simp only [List.length_cons, fieldPath, offs, pathTy] at r2 r4
        exact ⟨r1, by rw [r2]; show _ = off + ncell j.g + offs g2 (fieldPath (l.length + 2) k); omega, jj, r3, by simpa using r4⟩)
    rw [Op.eqFields]
    simp only [hnm, ne_eq, not_false_eq_true, if_true, Sem.run_bind, hof, p1, p2, q, Result.andThen_ok, geq]
    cases geq j.g x.1 y.1
    · simp
    · simp [hrec]
  | [], g, _, _, _, _, _, _, _, _, _, _, hch, _, _, _, _, _, _, _, _ => by cases g <;> simp [Chain] at hch
  | [_], .prod _ (.bool), _, _, _, _, _, _, _, _, _, _, hch, _, _, _, _, _, _, _, _ | [_], .prod _ (.int _), _, _, _, _, _, _, _, _, _, _, hch, _, _, _, _, _, _, _, _ | [_], .prod _ (.str), _, _, _, _, _, _, _, _, _, _, hch, _, _, _, _, _, _, _, _
  | [_], .prod _ (.prod ..), _, _, _, _, _, _, _, _, _, _, hch, _, _, _, _, _, _, _, _ | [_], .prod _ (.arr ..), _, _, _, _, _, _, _, _, _, _, hch, _, _, _, _, _, _, _, _ | [_], .prod _ (.sl _), _, _, _, _, _, _, _, _, _, _, hch, _, _, _, _, _, _, _, _ => by simp [Chain] at hch
  | [_], .bool, _, _, _, _, _, _, _, _, _, _, hch, _, _, _, _, _, _, _, _ | [_], .int _, _, _, _, _, _, _, _, _, _, _, hch, _, _, _, _, _, _, _, _ | [_], .str, _, _, _, _, _, _, _, _, _, _, hch, _, _, _, _, _, _, _, _ | [_], .unit, _, _, _, _, _, _, _, _, _, _, hch, _, _, _, _, _, _, _, _ | [_], .arr .., _, _, _, _, _, _, _, _, _, _, hch, _, _, _, _, _, _, _, _ | [_], .sl _, _, _, _, _, _, _, _, _, _, _, hch, _, _, _, _, _, _, _, _ => by simp [Chain] at hch
  | _ :: _ :: l, .bool, _, _, _, _, _, _, _, _, _, _, hch, _, _, _, _, _, _, _, _ | _ :: _ :: l, .int _, _, _, _, _, _, _, _, _, _, _, hch, _, _, _, _, _, _, _, _ | _ :: _ :: l, .str, _, _, _, _, _, _, _, _, _, _, hch, _, _, _, _, _, _, _, _ | _ :: _ :: l, .unit, _, _, _, _, _, _, _, _, _, _, hch, _, _, _, _, _, _, _, _ | _ :: _ :: l, .arr .., _, _, _, _, _, _, _, _, _, _, hch, _, _, _, _, _, _, _, _ | _ :: _ :: l, .sl _, _, _, _, _, _, _, _, _, _, _, hch, _, _, _, _, _, _, _, _ => by cases l <;> simp [Chain] at hch

theorem geq_go_cons {α : Type} (f : α → α → Bool) (x y : α) (xs ys : List α) : geq.go f (x :: xs) (y :: ys) = (f x y && geq.go f xs ys) := rfl

theorem run_arr {P : Program} {τ : Tys} {d : Nat} {e : TypeId} {j : TInfo} (T : TyOK P τ e j) {w W : World} {S : Stab} (IH : ∀ (x y : den j.g) (c c' : List Value), Enc W S j.g x c → Enc W S j.g y c' → (Op.equalIn d e (toVal j.g c) (toVal j.g c')).run P w = .ok (geq j.g x y) w) {cs cs' : Array Value} {n : Nat} (hn : n = ncell j.g) :
    ∀ (xs ys : List (den j.g)) (a c a' c' : List Value) (k : Nat), xs.length = ys.length → encL (Enc W S j.g) xs c → encL (Enc W S j.g) ys c' → cs.toList = a ++ c → cs'.toList = a' ++ c' → a.length = k * n → a'.length = k * n →
    (forIn (List.range' k xs.length 1) ((none : Option Bool), ()) (fun i (r : Option Bool × Unit) => do
        let u ← part e cs (i * n)
        let v ← part e cs' (i * n)
        let q ← Op.equalIn d e u v
        if (!q) = true then pure (ForInStep.done (some false, ())) else pure (ForInStep.yield (none, ()))) : Sem (Option Bool × Unit)).run P w = .ok ((bif geq.go (geq j.g) xs ys then none else some false), ()) w
  | [], [], a, c, a', c', k, _, _, _, _, _, _, _ => by simp [geq.go]
  | x :: xs, y :: ys, a, c, a', c', k, hl, ⟨c1, c2, e1, h1, h2⟩, ⟨d1, d2, k1, k2, k3⟩, hc, hc', ha, ha' => by
    have p1 := part_sound (P := P) (w := w) T h1 (cs := cs) (a := a) (c := c1) (r := c2) (by rw [hc, e1]; simp) (off := k * n) ha
    have p2 := part_sound (P := P) (w := w) T k2 (cs := cs') (a := a') (c := d1) (r := d2) (by rw [hc', k1]; simp) (off := k * n) ha'
    have q := IH x y c1 d1 h1 k2
    have hrec := run_arr (w := w) T IH hn xs ys (a ++ c1) c2 (a' ++ d1) d2 (k + 1) (by simpa using hl) h2 k3 (by rw [hc, e1]; simp) (by rw [hc', k1]; simp) (by rw [List.length_append, ha, h1.len, hn, Nat.add_mul, Nat.one_mul]) (by rw [List.length_append, ha', k2.len, hn, Nat.add_mul, Nat.one_mul])
    rw [List.length_cons, List.range'_succ, List.forIn_cons, geq_go_cons]
    simp only [Sem.run_bind, p1, p2, q, Result.andThen_ok, Sem.run_ite]
    cases hq : geq j.g x y
    · simp
    · simp only [Bool.not_true, Bool.false_eq_true, if_false, Sem.run_bind, Sem.run_pure, Result.andThen_ok, Bool.true_and]
      exact hrec
  | [], _ :: _, _, _, _, _, _, hl, _, _, _, _, _, _ => by simp at hl
  | _ :: _, [], _, _, _, _, _, hl, _, _, _, _, _, _ => by simp at hl

theorem equalIn_sound {P : Program} {τ : Tys} (TOK : TysOK P τ) : ∀ (d N : Nat), N ≤ d → EqAt P τ d N
  | 0, N, hN => fun t i _ hs => by omega
  | d + 1, N, hN => fun t i hi hs W w S x y c c' hx hy hcmp => by
    have IH := equalIn_sound TOK d (N - 1) (by omega)
    have T := TOK t i hi
    have hd := T.desc
    obtain ⟨g, nf, by_, el⟩ := i
    cases g <;> simp only at hd hx hy hcmp hs x y ⊢
    case bool =>
      have hx' : c = [.bool x] := hx
      have hy' : c' = [.bool y] := hy
      subst hx'; subst hy'
      simp only [toVal, isAgg, List.headD_cons, Op.equalIn, Sem.run_bind, run_underlying hd, Result.andThen_ok]
      rfl
    case int k =>
      obtain ⟨hx', _⟩ := hx
      obtain ⟨hy', _⟩ := hy
      subst hx'; subst hy'
      simp only [toVal, isAgg, List.headD_cons, Op.equalIn, Sem.run_bind, run_underlying hd, Result.andThen_ok, if_true]
      rfl
    case str =>
      obtain ⟨hx', _⟩ := hx
      obtain ⟨hy', _⟩ := hy
      subst hx'; subst hy'
      simp only [toVal, isAgg, List.headD_cons, Op.equalIn, Sem.run_bind, run_underlying hd, Result.andThen_ok, beq_toListBytes, ByteArray.toList_eq]
      rfl
    case prod a b =>
      obtain ⟨fs, h1, h2, h3, h4, h5⟩ := hd
      have hfo : P.fieldsOf t = fs := by simp [Program.fieldsOf, h1]
      show (Op.equalIn (d + 1) t (.agg c.toArray) (.agg c'.toArray)).run P w = _
      rw [run_equalIn_struct w d t _ _ (by rw [hfo]; exact h1) h4, hfo]
      refine eqFields_sound TOK (IH) fs.toList _ x y [] c [] c' _ _ 0 (by omega) (by simpa [h2] using h3) hcmp hx hy (by simp) (by simp) rfl rfl (fun k f hf => ?_)
      obtain ⟨q1, q2, q3, j, q4, q5, q6⟩ := h5 k f (by simpa using hf)
      have hl : fs.toList.length = nf := by simpa using h2
      rw [hl]
      exact ⟨q1, by rw [q2]; omega, j, q4, q5⟩
    case arr n a =>
      obtain ⟨e, j, h1, h2, rfl⟩ := hd
      obtain ⟨hx1, hx2⟩ := hx
      obtain ⟨hy1, hy2⟩ := hy
      have Te := TOK e j h2
      obtain ⟨ti, hti, hsz, _⟩ := Te.info
      have IHe : ∀ (x y : den j.g) (c c' : List Value), Enc W S j.g x c → Enc W S j.g y c' → (Op.equalIn d e (toVal j.g c) (toVal j.g c')).run P w = .ok (geq j.g x y) w :=
        fun x y c c' q1 q2 => IH e j h2 (by simp only [GTy.sz] at hs; omega) W w S x y c c' q1 q2 hcmp
      have hxy : List.length (α := den j.g) x = List.length (α := den j.g) y := by rw [hx1, hy1]
      have := run_arr (P := P) (w := w) Te IHe (cs := c.toArray) (cs' := c'.toArray) (n := ti.size) hsz x y [] c [] c' 0 hxy hx2 hy2 (by simp) (by simp) (by simp) (by simp)
      rw [hx1] at this
      show (Op.equalIn (d + 1) t (.agg c.toArray) (.agg c'.toArray)).run P w = _
      simp only [Op.equalIn, Sem.run_bind, run_underlying h1, Result.andThen_ok, run_sizeOf' hti]
      simp only [Std.Legacy.Range.forIn_eq_forIn_range', Std.Legacy.Range.size, Nat.sub_zero, Nat.add_sub_cancel, Nat.div_one]
      simp only [geq]
      erw [this]
      show _ = Result.ok (geq.go (geq j.g) x y) w
      cases geq.go (geq j.g) x y <;> rfl
    case sl a => simp [cmp] at hcmp

theorem eqGuard_agg {P : Program} {t : TypeId} (h : P.eqGuardType P.depth t = false) {w : World} (op : BinOp) (x y : Operand) (c c' : Array Value) : (eqGuard op t x y (.agg c) (.agg c')).run P w = .ok () w := by
  unfold eqGuard
  cases op <;> simp [h]
theorem eqGuard_int {P : Program} {t : TypeId} {w : World} (op : BinOp) (x y : Operand) (k k' : IntKind) (a b : Int) : (eqGuard op t x y (.int k a) (.int k' b)).run P w = .ok () w := by
  unfold eqGuard
  cases op <;> simp
theorem eqGuard_str {P : Program} {t : TypeId} {w : World} (op : BinOp) (x y : Operand) (a b : ByteArray) : (eqGuard op t x y (.string a) (.string b)).run P w = .ok () w := by
  unfold eqGuard
  cases op <;> simp
theorem eqGuard_bool {P : Program} {t : TypeId} {w : World} (op : BinOp) (x y : Operand) (a b : Bool) : (eqGuard op t x y (.bool a) (.bool b)).run P w = .ok () w := by
  unfold eqGuard
  cases op <;> simp

theorem eqBin_sound {P : Program} {τ : Tys} (TOK : TysOK P τ) {M : Mem} {op : BinOp} {t : TypeId} {i : TInfo} (hi : τ t = some i) {a b : den i.g} {e : Eff} {u v : Value} (ha : RelV M (.val i.g a) u) (hb : RelV M (.val i.g b) v) (h : eqBin i.g op a b = some e)
    (hne : ∀ k, i.g ≠ .int k) (hns : i.g ≠ .str) (xo yo : Operand) :
    ∃ r, ((do eqGuard op t xo yo u v; binOp op t u v) : Sem Value).run P M.w = .ok r M.w ∧ e.wr = [] ∧ RelV M e.av r := by
  have T := TOK t i hi
  simp only [RelV] at ha hb
  obtain ⟨c, hc, rfl⟩ := ha
  obtain ⟨c', hc', rfl⟩ := hb
  have hcmp : cmp i.g = true := by
    unfold eqBin at h
    split at h <;> first | assumption | cases h
  have heq : (Op.equal t (toVal i.g c) (toVal i.g c')).run P M.w = .ok (geq i.g a b) M.w := equalIn_sound TOK 10000 10000 (Nat.le_refl _) t i hi (by have := T.small.1; omega) M.w M.w M.S a b c c' hc hc' hcmp
  have hg : (eqGuard op t xo yo (toVal i.g c) (toVal i.g c')).run P M.w = .ok () M.w ∧ (binOp .eql t (toVal i.g c) (toVal i.g c') = (do pure (.bool (← Op.equal t (toVal i.g c) (toVal i.g c'))))) ∧ (binOp .neq t (toVal i.g c) (toVal i.g c') = (do pure (.bool (!(← Op.equal t (toVal i.g c) (toVal i.g c')))))) := by
    have hagg : isAgg i.g = true → (eqGuard op t xo yo (toVal i.g c) (toVal i.g c')).run P M.w = .ok () M.w ∧ (binOp .eql t (toVal i.g c) (toVal i.g c') = (do pure (.bool (← Op.equal t (toVal i.g c) (toVal i.g c'))))) ∧ (binOp .neq t (toVal i.g c) (toVal i.g c') = (do pure (.bool (!(← Op.equal t (toVal i.g c) (toVal i.g c')))))) := by
      intro hh
      simp only [toVal, hh]
      exact ⟨eqGuard_agg T.plain _ _ _ _ _, rfl, rfl⟩
    generalize i.g = g at *
    cases g with
    | bool =>
      have h1 : c = [.bool a] := hc
      have h2 : c' = [.bool b] := hc'
      subst h1; subst h2
      exact ⟨eqGuard_bool _ _ _ _ _, rfl, rfl⟩
    | int k => exact absurd rfl (hne k)
    | str => exact absurd rfl hns
    | unit => exact hagg rfl
    | prod _ _ => exact hagg rfl
    | arr _ _ => exact hagg rfl
    | sl _ => simp [cmp] at hcmp
  unfold eqBin at h
  split at h
  · simp only [v0, Option.some.injEq] at h
    subst h
    exact ⟨_, by simp only [Sem.run_bind, hg.1, Result.andThen_ok, hg.2.1, heq, Sem.run_pure], rfl, mkBool⟩
  · simp only [v0, Option.some.injEq] at h
    subst h
    exact ⟨_, by simp only [Sem.run_bind, hg.1, Result.andThen_ok, hg.2.2, heq, Sem.run_pure], rfl, mkBool⟩
  · cases h
end Go.Ev
