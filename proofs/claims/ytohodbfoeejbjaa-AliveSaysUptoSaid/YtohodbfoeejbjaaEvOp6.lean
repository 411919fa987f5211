/- Slice expressions, len, conversions, operators, picks. -/
import Derived.Test.YtohodbfoeejbjaaEvOp5
set_option linter.unusedVariables false
set_option linter.unusedSimpArgs false
namespace Go.Ev
section
variable {P : Program} {τ : Tys} {R : Ref} {M : Mem}

theorem str_extract (s : List UInt8) (l h : Nat) (h1 : l ≤ h) (h2 : h ≤ s.length) : (⟨⟨s⟩⟩ : ByteArray).extract l h = ⟨⟨(s.take h).drop l⟩⟩ := by
  apply ByteArray.ext
  rw [ByteArray.data_extract]
  apply Array.ext'
  rw [Array.toList_extract]
  simp [List.extract_eq_take_drop, List.drop_take]

/-- A piece of a slice that lies somewhere. -/
theorem relPiece {g : GTy} {xs : List (den g)} {ad : Option Addr} {cap : Nat} {S : Stab} {lo hi : Nat} (h1 : lo ≤ hi) (h2 : hi ≤ xs.length) (hcap : xs.length ≤ cap) {m : Nat} (hm : hi ≤ m) (hb : xs.length * lbytes g ≤ maxRow) (hl : xs.length ≤ maxRow)
    (hx : xs = [] ∨ ∃ blk off cs, ad = some ⟨blk, off, none⟩ ∧ encL (Enc M.w S g) xs cs ∧ ∀ (j : Nat) v, cs[j]? = some v → M.w.cell? ⟨blk, off + j, none⟩ = some v ∧ S blk (off + j)) (size : Nat) (hsz : size = ncell g) (a' : Option Addr) (ha' : m ≠ lo → a' = ad.map (·.add (lo * size))) :
    Enc M.w S (.sl g) ((xs.take hi).drop lo) [.slice a' (hi - lo) (m - lo)] := by
  have hlen : ((xs.take hi).drop lo).length = hi - lo := by simp; omega
  refine ⟨a', m - lo, by rw [show List.length (α := den g) ((xs.take hi).drop lo) = hi - lo from hlen], by show ((xs.take hi).drop lo).length ≤ _; rw [hlen]; omega, ?_, ?_, ?_⟩
  · show ((xs.take hi).drop lo).length * lbytes g ≤ maxRow
    rw [hlen]
    exact Nat.le_trans (Nat.mul_le_mul_right _ (by omega)) hb
  · show ((xs.take hi).drop lo).length ≤ maxRow
    rw [hlen]; omega
  · by_cases he : lo = hi
    · left
      apply List.eq_nil_of_length_eq_zero
      show ((xs.take hi).drop lo).length = 0
      rw [hlen]; omega
    · right
      rcases hx with rfl | ⟨blk, off, cs, rfl, e1, e2⟩
      · simp at h2; omega
      · have hs1 := (encL_split (f := Enc M.w S g) (fun _ _ hh => Enc.len hh) hi e1).1
        have hs2 := (encL_split (f := Enc M.w S g) (fun _ _ hh => Enc.len hh) lo hs1).2
        refine ⟨blk, off + lo * ncell g, _, ?_, hs2, fun j v hj => ?_⟩
        · rw [ha' (by omega), hsz]
          simp [Addr.add_lit]
        · rw [List.getElem?_drop] at hj
          have hj' : cs[lo * ncell g + j]? = some v := by
            rw [List.getElem?_take] at hj
            split at hj
            · exact hj
            · cases hj
          rw [Nat.add_assoc]
          exact e2 _ v hj'

theorem sliceEff_sound (TOK : TysOK P τ) (I : InvM R M) {t : TypeId} {i : TInfo} (hi : τ t = some i) {va : AV} {u : Value} (ha : RelV M va u) {bs : Option Int × Option Int × Option Int} {lo hi' mx : Option Value} (hb : IntOpt bs.1 lo ∧ IntOpt bs.2.1 hi' ∧ IntOpt bs.2.2 mx) {e : Eff} (h : sliceEff i.g (argOf M.bs va) (some bs) = some e) (hn : e.ok) :
    ∃ v, (Instr.sliceAt t u lo hi' mx).run P M.w = .ok v M.w ∧ After R M e v M.w := by
  have T := TOK t i hi
  have hd := T.desc
  obtain ⟨blo, bhi, bmx⟩ := bs
  obtain ⟨hb1, hb2, hb3⟩ := hb
  unfold sliceEff at h
  obtain ⟨g, nf, by_, el⟩ := i
  simp only at h hd
  split at h
  · rename_i s b hargeq
    obtain ⟨rfl, hbox⟩ := argOf_eq hargeq
    split at h
    · simp only [Option.some.injEq] at h
      subst h
      obtain ⟨rfl, hs⟩ := relStr ha
      obtain ⟨p1, p2, p3, p4⟩ := piece_ok (l := s) (lo := blo) (hi := bhi) (fun p hp => hn p hp)
      have hsb := sliceBounds_run (P := P) (isSlice := false) (n := s.length) (c := s.length) hb1 hb2 hb3 (Nat.le_refl _) p1 p2 p3 p4 (fun m hm => by cases hm) M.w
      simp only at hd
      have hmx : mx = none := by cases mx with | none => rfl | some _ => exact hb3.elim
      subst hmx
      refine ⟨.string ⟨⟨(s.take (hiOf bhi s.length)).drop (loOf blo)⟩⟩, ?_, ?_⟩
      · have hsz : (⟨⟨s⟩⟩ : ByteArray).size = s.length := rfl
        simp only [Instr.sliceAt, Instr.slice, Sem.run_bind, run_underlying hd, Result.andThen_ok, hsz, hsb, Option.isSome_none, Bool.false_eq_true, if_false, Sem.run_pure, str_extract s _ _ p1 p2]
      · refine After.pure I ?_
        show RelV M (.val .str (piece s blo bhi).1) _
        rw [piece_list]
        refine mkStr ?_
        simp; omega
    · cases h
  · rename_i gg xs b hargeq
    obtain ⟨rfl, hbox⟩ := argOf_eq hargeq
    obtain ⟨ad, cap, rfl, h2, h3, h4, h5⟩ := relSl ha
    have fin : ∀ (m : Nat), hiOf bhi (List.length (α := den gg) xs) ≤ m → g = .sl gg → e = ⟨.val (.sl gg) (piece (show List (den gg) from xs) blo bhi).1, [], e.need⟩ → loOf blo ≤ hiOf bhi (List.length (α := den gg) xs) → hiOf bhi (List.length (α := den gg) xs) ≤ List.length (α := den gg) xs →
        (Instr.sliceBounds true (List.length (α := den gg) xs) cap lo hi' mx).run P M.w = .ok (loOf blo, hiOf bhi (List.length (α := den gg) xs), m) M.w →
        ∃ v, (Instr.sliceAt t (.slice ad (List.length (α := den gg) xs) cap) lo hi' mx).run P M.w = .ok v M.w ∧ After R M e v M.w := by
      intro m hm hg he q1 q2 hrun
      subst hg
      simp only at hd
      obtain ⟨ee, j, ti, r1, _, r2, rfl, hti, _⟩ := hd
      obtain ⟨ti', hti', hsz, _⟩ := (TOK _ _ r2).info
      refine ⟨.slice (if m = loOf blo then ad else ad.map (·.add (loOf blo * ti'.size))) (hiOf bhi (List.length (α := den j.g) xs) - loOf blo) (m - loOf blo), ?_, ?_⟩
      · simp only [Instr.sliceAt, Instr.slice, Sem.run_bind, run_underlying r1, Result.andThen_ok, hrun, run_sizeOf' hti', Sem.run_pure]
      · rw [he]
        refine After.pure I ?_
        simp only [RelV]
        rw [piece_list]
        exact ⟨_, relPiece (M := M) (S := M.S) q1 q2 h2 hm h3 h4 h5 ti'.size hsz _ (fun hne => by rw [if_neg hne]), rfl⟩
    split at h
    · rename_i bhi _ _ _ hgd _
      simp only [Option.some.injEq] at h
      have hneed : ∀ p, (piece (show List (den gg) from xs) blo bhi).2 = some p → p := fun p hp => hn p (by rw [← h]; exact hp)
      obtain ⟨p1, p2, p3, p4⟩ := piece_ok hneed
      have hsb := sliceBounds_run (P := P) (isSlice := true) (n := List.length (α := den gg) xs) (c := cap) hb1 hb2 hb3 h2 p1 p2 p3 p4 (fun m hm => by cases hm) M.w
      exact fin cap (Nat.le_trans p2 h2) hgd (by rw [← h]) p1 p2 hsb
    · rename_i hgd m j _
      simp only [Option.some.injEq] at h
      have hneed : ∀ p, both (piece (show List (den gg) from xs) blo (some j)).2 (j ≤ m ∧ m ≤ List.length (α := den gg) xs) = some p → p := fun p hp => hn p (by rw [← h]; exact hp)
      have hn2 : (∀ p, (piece (show List (den gg) from xs) blo (some j)).2 = some p → p) ∧ j ≤ m ∧ m ≤ List.length (α := den gg) xs := by
        cases hp : (piece (show List (den gg) from xs) blo (some j)).2 with
        | none => rw [hp] at hneed; exact ⟨fun p hp => (by cases hp), hneed _ rfl⟩
        | some q => rw [hp] at hneed; have := hneed _ rfl; exact ⟨fun p hp => (by injection hp with hp; rw [← hp]; exact this.1), this.2⟩
      obtain ⟨p1, p2, p3, p4⟩ := piece_ok hn2.1
      have j0 := p4 j rfl
      have hc3 : ∀ m', some m = some m' → (some j).isSome = true ∧ 0 ≤ m' ∧ (hiOf (some j) (List.length (α := den gg) xs) : Int) ≤ m' ∧ m' ≤ cap := by
        intro m' hm
        injection hm with hm; subst hm
        simp only [hiOf] at p2 ⊢
        exact ⟨rfl, by omega, by omega, by omega⟩
      have hsb := sliceBounds_run (P := P) (isSlice := true) (n := List.length (α := den gg) xs) (c := cap) hb1 hb2 hb3 h2 p1 p2 p3 p4 hc3 M.w
      exact fin m.toNat (by simp only [hiOf]; omega) hgd (by rw [← h]) p1 p2 hsb
    · cases h
  · rename_i b el' gg xs fz hargeq
    obtain ⟨rfl, hbox⟩ := argOf_eq hargeq
    split at h
    · rename_i hgd _
      subst hgd
      simp only [Option.some.injEq] at h
      subst h
      obtain ⟨⟨d, hb⟩, rfl⟩ := relTip ha hbox
      obtain ⟨p1, p2, p3, p4⟩ := piece_ok (l := xs) (lo := blo) (hi := bhi) (fun p hp => hn p hp)
      obtain ⟨S', J, s, en⟩ := I.freeze hb
      obtain ⟨ad, cap, hv, h2, h3, h4, h5⟩ := en
      have hv : M.β b = .slice ad xs.length cap := by simpa using hv
      have hsb := sliceBounds_run (P := P) (isSlice := true) (n := xs.length) (c := cap) hb1 hb2 hb3 h2 p1 p2 p3 p4 (fun m hm => by cases hm) M.w
      simp only at hd
      obtain ⟨ee, j, ti, r1, _, r2, rfl, hti, _⟩ := hd
      obtain ⟨ti', hti', hsz, _⟩ := (TOK _ _ r2).info
      refine ⟨.slice (if cap = loOf blo then ad else ad.map (·.add (loOf blo * ti'.size))) (hiOf bhi xs.length - loOf blo) (cap - loOf blo), ?_, S', M.β, J, s.mono (fun _ h => h.elim), ?_⟩
      · rw [hv]
        simp only [Instr.sliceAt, Instr.slice, Sem.run_bind, run_underlying r1, Result.andThen_ok, hsb, run_sizeOf' hti', Sem.run_pure]
      · simp only [RelV]
        rw [piece_list]
        exact ⟨_, relPiece (M := M) (S := S') p1 p2 h2 (by omega) h3 h4 h5 ti'.size hsz _ (fun hne => by rw [if_neg hne]), rfl⟩
    · cases h
  · cases h

theorem lenEff_sound (TOK : TysOK P τ) (I : InvM R M) {t : TypeId} {i : TInfo} (hi : τ t = some i) {va : AV} {u : Value} (ha : RelV M va u) {e : Eff} (h : lenEff i.g (argOf M.bs va) = some e) (ty : TypeId) :
    ∃ v, (Builtin.len_ #[t] ty #[u]).run P M.w = .ok v M.w ∧ e.wr = [] ∧ RelV M e.av v := by
  have T := TOK t i hi
  have hd := T.desc
  have big : ∀ n : Nat, n ≤ maxRow → IntKind.i64.has n := by
    intro n hn
    simp only [maxRow] at hn
    refine ⟨?_, ?_⟩
    · have : IntKind.i64.min = -9223372036854775808 := by decide
      omega
    · have : IntKind.i64.max = 9223372036854775807 := by decide
      omega
  obtain ⟨g, nf, by_, el⟩ := i
  unfold lenEff at h
  simp only at h hd
  split at h
  · rename_i _ s b hargeq
    obtain ⟨rfl, hbox⟩ := argOf_eq hargeq
    obtain ⟨rfl, hs⟩ := relStr ha
    simp only [v0, Option.some.injEq] at h
    subst h
    refine ⟨goInt s.length, by simp [Builtin.len_, run_underlying hd]; rfl, rfl, mkInt ?_⟩
    refine ⟨?_, ?_⟩
    · have : IntKind.i64.min = -9223372036854775808 := by decide
      show IntKind.i64.min ≤ _; omega
    · have : IntKind.i64.max = 9223372036854775807 := by decide
      simp only [maxStr] at hs
      show _ ≤ IntKind.i64.max
      have hs' : List.length s ≤ 4611686018427387904 := hs
      omega
  · rename_i _ n gg m g2 xs b hargeq
    obtain ⟨rfl, hbox⟩ := argOf_eq hargeq
    split at h
    case h_2 => cases h
    rename_i hble
    simp only [v0, Option.some.injEq] at h
    subst h
    obtain ⟨ee, j, q1, q2, rfl⟩ := hd
    exact ⟨goInt n, by simp [Builtin.len_, run_underlying q1], rfl, mkInt (big _ (Nat.le_of_ble_eq_true hble))⟩
  · rename_i _ gg g2 xs b hargeq
    obtain ⟨rfl, hbox⟩ := argOf_eq hargeq
    simp only [v0, Option.some.injEq] at h
    subst h
    obtain ⟨ad, cap, rfl, h2, h3, h4, h5⟩ := relSl ha
    obtain ⟨ee, j, ti, q1, _⟩ := hd
    exact ⟨goInt (List.length (α := den g2) xs), by simp [Builtin.len_, run_underlying q1], rfl, mkInt (big _ h4)⟩
  · rename_i _ gg b el' g2 xs fz hargeq
    obtain ⟨rfl, hbox⟩ := argOf_eq hargeq
    simp only [v0, Option.some.injEq] at h
    subst h
    obtain ⟨⟨d, hb⟩, rfl⟩ := relTip ha hbox
    obtain ⟨ee, j, ti, q1, _⟩ := hd
    obtain ⟨cs, r1, r2, r3, r4, _⟩ := I.boxes b d _ hb
    refine ⟨goInt xs.length, ?_, rfl, mkInt (big _ r4)⟩
    rcases r1.2 with ⟨hn, h0⟩ | ⟨blk, cap, cur, hv, _⟩
    · rw [hn, h0]; simp [Builtin.len_, run_underlying q1]
    · rw [hv]; simp [Builtin.len_, run_underlying q1]
  · rename_i _ gg b hargeq
    obtain ⟨rfl, hbox⟩ := argOf_eq hargeq
    simp only [v0, Option.some.injEq] at h
    subst h
    simp only [RelV] at ha
    subst ha
    obtain ⟨ee, j, ti, q1, _⟩ := hd
    exact ⟨goInt 0, by simp [Builtin.len_, run_underlying q1], rfl, mkInt (has_zero _)⟩
  · cases h
end
end Go.Ev
