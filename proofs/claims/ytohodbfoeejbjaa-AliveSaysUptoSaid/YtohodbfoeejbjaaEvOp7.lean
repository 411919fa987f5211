/- Conversions, operators, picks; operations that make memory; calls; and all of them. -/
import Derived.Test.YtohodbfoeejbjaaEvOp6
set_option linter.unusedVariables false
set_option linter.unusedSimpArgs false
namespace Go.Ev
section
variable {P : Program} {τ : Tys} {R : Ref} {M : Mem}

theorem bytes_cells {w : World} {S : Stab} : ∀ {l : List Int} {cs : List Value}, encL (Enc w S (.int .u8)) l cs → cs = l.map (Value.int .u8)
  | [], _, h => h
  | n :: l, _, ⟨c, d, e, h1, h2⟩ => by
    have hc : c = [.int .u8 n] := h1.1
    rw [e, hc, bytes_cells h2]
    rfl

theorem foldl_push : ∀ (ns : List Int) (s : List UInt8), (ns.foldl (fun (r : ByteArray) n => r.push (UInt8.ofNat n.toNat)) ⟨⟨s⟩⟩) = ⟨⟨s ++ bytesToStr ns⟩⟩
  | [], s => by simp [bytesToStr]
  | n :: ns, s => by
    rw [List.foldl_cons]
    have : (⟨⟨s⟩⟩ : ByteArray).push (UInt8.ofNat n.toNat) = ⟨⟨s ++ [UInt8.ofNat n.toNat]⟩⟩ := by
      apply ByteArray.ext
      rw [ByteArray.data_push]
      simp
    rw [this, foldl_push ns]
    simp [bytesToStr]

theorem convEff_sound (TOK : TysOK P τ) (I : InvM R M) {s d : TypeId} {j i : TInfo} (hj : τ s = some j) (hi : τ d = some i) {va : AV} {u : Value} (ha : RelV M va u) {e : Eff} (h : convEff j.g i.g (argOf M.bs va) = some e) :
    ∃ v, (convert s d u).run P M.w = .ok v M.w ∧ e.wr = [] ∧ RelV M e.av v := by
  have hd := (TOK d i hi).desc
  have Ts := TOK s j hj
  have hs := Ts.desc
  have hus : ∃ ds, P.underlying s = some ds := by
    obtain ⟨g, _, _, _⟩ := j
    cases g <;> simp only at hs
    · exact ⟨_, hs⟩
    · exact ⟨_, hs⟩
    · exact ⟨_, hs⟩
    · obtain ⟨fs, h1, _⟩ := hs; exact ⟨_, h1⟩
    · obtain ⟨e, j, h1, _⟩ := hs; exact ⟨_, h1⟩
    · obtain ⟨e, j, ti, h1, _⟩ := hs; exact ⟨_, h1⟩
  obtain ⟨ds, hds⟩ := hus
  obtain ⟨g, nf, by_, el⟩ := i
  obtain ⟨g', nf', by', el'⟩ := j
  unfold convEff at h
  simp only at h hd hs
  split at h
  · rename_i _ _ k k' n b hargeq
    obtain ⟨rfl, hbox⟩ := argOf_eq hargeq
    obtain ⟨rfl, hk⟩ := relInt ha
    simp only [v0, Option.some.injEq] at h
    subst h
    exact ⟨.int k (k.wrap n), by simp [convert, run_underlying hds, run_underlying hd, Conv.intToInt], rfl, mkInt (wrap_has _ _)⟩
  · rename_i _ _ s' b hargeq
    obtain ⟨rfl, hbox⟩ := argOf_eq hargeq
    obtain ⟨rfl, hk⟩ := relStr ha
    simp only [v0, Option.some.injEq] at h
    subst h
    exact ⟨.string ⟨⟨s'⟩⟩, by simp [convert, run_underlying hds, run_underlying hd], rfl, mkStr hk⟩
  · rename_i _ _ l b hargeq
    obtain ⟨rfl, hbox⟩ := argOf_eq hargeq
    simp only [v0, Option.some.injEq] at h
    subst h
    obtain ⟨ee, jj, ti, q1, _, q2, q3, _⟩ := hs
    have he := (TOK _ _ q2).desc
    rw [q3] at he
    obtain ⟨ad, cap, rfl, h2, h3, h4, h5⟩ := relSl ha
    have hlen : (bytesToStr l).length ≤ maxStr := by
      simp only [bytesToStr, List.length_map]
      have : List.length (α := Int) l ≤ maxRow := h4
      simp only [maxRow] at this; simp only [maxStr]; omega
    rcases h5 with rfl | ⟨blk, off, cs, rfl, h6, h7⟩
    · cases ad with
      | none => exact ⟨.string .empty, by rw [run_convert_bytes_string _ s d ee _ _ _ q1 he hd]; simp [Conv.bytesToString], rfl, mkStr (by simp [bytesToStr])⟩
      | some a =>
        refine ⟨.string ⟨⟨bytesToStr []⟩⟩, ?_, rfl, mkStr (by simp [bytesToStr])⟩
        rw [run_convert_bytes_string _ s d ee _ _ _ q1 he hd]
        have := run_bytesToString (P := P) M.w a 0 cap [] (by simp [loadCells, loadCellsFrom])
        exact this
    · refine ⟨.string ⟨⟨bytesToStr l⟩⟩, ?_, rfl, mkStr hlen⟩
      rw [run_convert_bytes_string _ s d ee _ _ _ q1 he hd]
      have hb := bytes_cells h6
      have hl : cs.length = List.length (α := Int) l := by rw [hb]; simp
      have := run_bytesToString (P := P) M.w ⟨blk, off, none⟩ (List.length (α := Int) l) cap l (by rw [← hl, ← hb]; exact loadCells_at (fun j v hv => (h7 j v hv).1))
      rw [this, show ByteArray.empty = ⟨⟨[]⟩⟩ from rfl, foldl_push]
      rfl
  · rename_i _ _ b el2 l fz hargeq
    obtain ⟨rfl, hbox⟩ := argOf_eq hargeq
    simp only [v0, Option.some.injEq] at h
    subst h
    obtain ⟨ee, jj, ti, q1, _, q2, q3, _⟩ := hs
    have he := (TOK _ _ q2).desc
    rw [q3] at he
    obtain ⟨⟨dd, hb⟩, rfl⟩ := relTip ha hbox
    have hlen : (bytesToStr l).length ≤ maxStr := by
      simp only [bytesToStr, List.length_map]
      obtain ⟨_, _, _, _, this, _⟩ := I.boxes b dd _ hb
      have : List.length (α := Int) l ≤ maxRow := this
      simp only [maxRow] at this; simp only [maxStr]; omega
    rcases rowCells I hb with ⟨hn, rfl⟩ | ⟨blk, cap, cs, hβ, hcap, h6, h7⟩
    · exact ⟨.string .empty, by rw [hn, run_convert_bytes_string _ s d ee _ _ _ q1 he hd]; simp [Conv.bytesToString], rfl, mkStr (by simp [bytesToStr])⟩
    · refine ⟨.string ⟨⟨bytesToStr l⟩⟩, ?_, rfl, mkStr hlen⟩
      rw [hβ, run_convert_bytes_string _ s d ee _ _ _ q1 he hd]
      have hbc := bytes_cells h6
      have hl : cs.length = List.length (α := Int) l := by rw [hbc]; simp
      have := run_bytesToString (P := P) M.w ⟨blk, 0, none⟩ (List.length (α := Int) l) cap l (by rw [← hl, ← hbc]; exact loadCells_at (fun j v hv => by rw [Nat.zero_add]; exact h7 j v hv))
      have e2 : List.length (α := den (.int .u8)) l = List.length (α := Int) l := rfl
      rw [e2, this, show ByteArray.empty = ⟨⟨[]⟩⟩ from rfl, foldl_push]
      rfl
  · cases h

theorem unEff_sound {op : UnOp} {va : AV} {u : Value} (ha : RelV M va u) {e : Eff} (h : unEff op va = some e) : ∃ v, (Op.unary op u).run P M.w = .ok v M.w ∧ e.wr = [] ∧ RelV M e.av v := by
  unfold unEff at h
  split at h
  · rename_i b
    simp only [v0, Option.some.injEq] at h
    subst h
    rw [relBool ha]
    exact ⟨_, rfl, rfl, mkBool⟩
  · rename_i k n
    simp only [v0, Option.some.injEq] at h
    subst h
    obtain ⟨rfl, hk⟩ := relInt ha
    exact ⟨_, rfl, rfl, mkInt (wrap_has _ _)⟩
  · rename_i k n
    simp only [v0, Option.some.injEq] at h
    subst h
    obtain ⟨rfl, hk⟩ := relInt ha
    exact ⟨_, rfl, rfl, mkInt (bitsOp_has _ _ _ _)⟩
  · cases h

theorem pickEff_sound {vc va vb : AV} {c a b : Value} (hc : RelV M vc c) (ha : c = .bool true → RelV M va a) (hb : c = .bool false → RelV M vb b) {e : Eff} (h : pickEff vc va vb = some e) :
    ∃ x, c = .bool x ∧ e.wr = [] ∧ RelV M e.av (if x then a else b) := by
  unfold pickEff at h
  split at h
  · rename_i x g u g' v
    have hx := relBool hc
    split at h
    · rename_i he _
      subst he
      simp only [v0, Option.some.injEq] at h
      subst h
      refine ⟨x, hx, rfl, ?_⟩
      cases x with
      | true => simpa using ha hx
      | false => simpa using hb hx
    · cases h
  · rename_i x _
    have hx := relBool hc
    refine ⟨x, hx, ?_⟩
    cases x with
    | true =>
      simp only at h
      split at h
      · simp only [v0, Option.some.injEq] at h
        subst h
        exact ⟨rfl, by simpa using ha hx⟩
      · cases h
    | false =>
      simp only at h
      split at h
      · simp only [v0, Option.some.injEq] at h
        subst h
        exact ⟨rfl, by simpa using hb hx⟩
      · cases h
  · cases h

theorem binEff_sound (TOK : TysOK P τ) {op : BinOp} {t : TypeId} {known : Bool} {vx vy : AV} {x y : Value} (hx : RelV M vx x) (hy : RelV M vy y) {e : Eff} (h : binEff (τ t) op known vx vy = some e) (hn : e.ok) (xo yo : Operand) :
    ∃ r, ((do eqGuard op t xo yo x y; binOp op t x y) : Sem Value).run P M.w = .ok r M.w ∧ e.wr = [] ∧ RelV M e.av r := by
  unfold binEff at h
  split at h
  · rename_i k a k' b
    obtain ⟨rfl, ha⟩ := relInt hx
    obtain ⟨rfl, hb⟩ := relInt hy
    have : (0 : Int) ≤ b ∧ e.wr = [] ∧ e.av = .val (.int k) (k.wrap ((a : Int) * 2 ^ (min (b : Int).toNat k.bits))) := by
      rcases needIf_spec h with ⟨_, h⟩ | ⟨hp, h⟩
      · simp only [Option.some.injEq] at h; subst h; exact ⟨hn _ rfl, rfl, rfl⟩
      · simp only [Option.some.injEq] at h; subst h; exact ⟨hp, rfl, rfl⟩
    obtain ⟨h1, h2, h3⟩ := this
    refine ⟨.int k (k.wrap ((a : Int) * 2 ^ (min (b : Int).toNat k.bits))), ?_, h2, by rw [h3]; exact mkInt (wrap_has _ _)⟩
    simp only [Sem.run_bind, eqGuard_int, Result.andThen_ok, binOp, Op.shift]
    rw [if_neg (by omega)]
    rfl
  · rename_i k a k' b
    obtain ⟨rfl, ha⟩ := relInt hx
    obtain ⟨rfl, hb⟩ := relInt hy
    have : (0 : Int) ≤ b ∧ e.wr = [] ∧ e.av = .val (.int k) ((a : Int).fdiv (2 ^ (min (b : Int).toNat k.bits))) := by
      rcases needIf_spec h with ⟨_, h⟩ | ⟨hp, h⟩
      · simp only [Option.some.injEq] at h; subst h; exact ⟨hn _ rfl, rfl, rfl⟩
      · simp only [Option.some.injEq] at h; subst h; exact ⟨hp, rfl, rfl⟩
    obtain ⟨h1, h2, h3⟩ := this
    refine ⟨.int k ((a : Int).fdiv (2 ^ (min (b : Int).toNat k.bits))), ?_, h2, by rw [h3]; exact mkInt (fdiv_has ha)⟩
    simp only [Sem.run_bind, eqGuard_int, Result.andThen_ok, binOp, Op.shift]
    rw [if_neg (by omega)]
    rfl
  · rename_i op' k a k' b hs1 hs2
    split at h
    · rename_i hk _
      subst hk
      obtain ⟨rfl, ha⟩ := relInt hx
      obtain ⟨rfl, hb⟩ := relInt hy
      obtain ⟨v, h1, h2, h3⟩ := intBin_sound (P := P) (M := M) ha hb h hn ⟨hs1, hs2⟩ t
      exact ⟨v, by simp only [Sem.run_bind, eqGuard_int, Result.andThen_ok, h1], h2, h3⟩
    · cases h
  · rename_i op' a b
    obtain ⟨rfl, ha⟩ := relStr hx
    obtain ⟨rfl, hb⟩ := relStr hy
    obtain ⟨v, h1, h2, h3⟩ := strBin_sound (P := P) (M := M) ha hb h hn t
    exact ⟨v, by simp only [Sem.run_bind, eqGuard_str, Result.andThen_ok, h1], h2, h3⟩
  · rename_i op' g a g' b hi hs
    split at h
    · rename_i he i _ hti
      subst he
      split at h
      · rename_i hg _
        subst hg
        exact eqBin_sound TOK hti hx hy h (fun k hk => by obtain ⟨g, _, _, _⟩ := i; cases hk; exact g' k _ k _ rfl HEq.rfl rfl HEq.rfl) (fun hk => by obtain ⟨g, _, _, _⟩ := i; cases hk; exact b _ _ rfl HEq.rfl rfl HEq.rfl) xo yo
      · cases h
    · cases h
  · cases h
end
end Go.Ev
