/- Indexes, pieces, lengths, conversions. -/
import Derived.Test.YtohodbfoeejbjaaEvOp3
import Derived.Laws.BytesString
set_option linter.unusedVariables false
set_option linter.unusedSimpArgs false
namespace Go.Ev
section
variable {P : Program} {τ : Tys} {R : Ref} {M : Mem}

theorem inB_nil (g : GTy) : inB g [] := by cases g <;> trivial

theorem asIntAV_spec {v : AV} {i : Int} {u : Value} (h : asIntAV v = some i) (hr : RelV M v u) : ∃ k, u = .int k i ∧ k.has i := by
  unfold asIntAV at h
  split at h
  · rename_i k n
    simp only [Option.some.injEq] at h
    subst h
    obtain ⟨h1, h2⟩ := relInt hr
    exact ⟨k, h1, h2⟩
  · cases h

theorem ix_spec {i n : Int} {known : Bool} {f : Option Prop → Eff} {e : Eff} (h : ix i n known (fun q => some (f q)) = some e) (hn : e.ok) (hf : ∀ q, (f q).need = q) : 0 ≤ i ∧ i < n ∧ ∃ q, e = f q := by
  rcases needIf_spec h with ⟨_, h⟩ | ⟨hp, h⟩
  · simp only [Option.some.injEq] at h
    subst h
    have := hn _ (hf _)
    exact ⟨this.1, this.2, _, rfl⟩
  · simp only [Option.some.injEq] at h
    subst h
    exact ⟨hp.1, hp.2, _, rfl⟩

theorem encL_at {g : GTy} {w : World} {S : Stab} {xs : List (den g)} {cs : List Value} (h : encL (Enc w S g) xs cs) {i : Nat} (hi : i < xs.length) :
    ∃ a c r, cs = a ++ c ++ r ∧ a.length = i * ncell g ∧ Enc w S g (xs.getD i (zero g)) c :=
  encL_get (f := Enc w S g) (fun _ _ => Enc.len) i _ h (getD_some xs i (zero g) hi)

theorem argOf_eq {bs : Bxs} {va v : AV} {B : Option Box} (h : argOf bs va = (v, B)) : va = v ∧ (match boxOf v with | some b => (lk b bs).map (·.2) | none => none) = B := by
  simp only [argOf, Prod.mk.injEq] at h
  obtain ⟨rfl, h⟩ := h
  exact ⟨rfl, h⟩

theorem relTip {b : Nat} {u : Value} {B : Box} (ha : RelV M (.tip b) u) (hb : (lk b M.bs).map (·.2) = some B) : (∃ d, lk b M.bs = some (d, B)) ∧ u = M.β b := by
  simp only [RelV] at ha
  cases hl : lk b M.bs with
  | none => rw [hl] at hb; cases hb
  | some x =>
    rw [hl] at hb
    simp at hb
    exact ⟨⟨x.1, by rw [← hb]⟩, ha.2⟩

/-- A slice's elements lie where it says. -/
theorem rowCells (I : InvM R M) {b : Nat} {d : Bool} {e : Nat} {g : GTy} {xs : List (den g)} {fz : Bool} (hb : lk b M.bs = some (d, .row e g xs fz)) :
    (M.β b = .slice none 0 0 ∧ xs = []) ∨ ∃ blk cap cs, M.β b = .slice (some ⟨blk, 0, none⟩) xs.length cap ∧ xs.length ≤ cap ∧ encL (Enc M.w M.S g) xs cs ∧ ∀ (j : Nat) v, cs[j]? = some v → M.w.cell? ⟨blk, j, none⟩ = some v := by
  obtain ⟨cs, q1, q2, q3, q4, q5, q6⟩ := I.boxes b d _ hb
  rcases q1.2 with ⟨hn, h0⟩ | ⟨blk, cap, cur, hv, r1, r2, r3, r4, r5, r6⟩
  · exact .inl ⟨hn, List.eq_nil_of_length_eq_zero h0⟩
  · refine .inr ⟨blk, cap, cs, hv, r3, q2, fun j v hj => ?_⟩
    have hcur : cur.toList = [] ++ cs ++ cur.toList.drop (xs.length * ncell g) := by
      conv => lhs; rw [← List.take_append_drop (xs.length * ncell g) cur.toList, r6]
      simp
    have := cells_of r2 hcur (off := 0) rfl j v hj
    simpa using this

theorem relSl {g : GTy} {xs : List (den g)} {u : Value} (ha : RelV M (.val (.sl g) xs) u) : ∃ ad cap, u = .slice ad xs.length cap ∧ xs.length ≤ cap ∧ xs.length * lbytes g ≤ maxRow ∧ xs.length ≤ maxRow ∧
    (xs = [] ∨ ∃ blk off cs, ad = some ⟨blk, off, none⟩ ∧ encL (Enc M.w M.S g) xs cs ∧ ∀ (j : Nat) v, cs[j]? = some v → M.w.cell? ⟨blk, off + j, none⟩ = some v ∧ M.S blk (off + j)) := by
  simp only [RelV, Enc] at ha
  obtain ⟨cs, ⟨ad, cap, rfl, h1, h2, h3, h4⟩, rfl⟩ := ha
  exact ⟨ad, cap, rfl, h1, h2, h3, h4⟩

theorem indexAddrEff_sound (TOK : TysOK P τ) (I : InvM R M) {t : TypeId} {i : TInfo} (hi : τ t = some i) {known : Bool} {va vi : AV} {u ui : Value} (ha : RelV M va u) (hvi : RelV M vi ui) {e : Eff} (h : indexAddrEff i.g known (argOf M.bs va) (argOf M.bs vi) = some e) (hn : e.ok) :
    ∃ v, (Instr.indexAt t u ui).run P M.w = .ok v M.w ∧ e.wr = [] ∧ RelV M e.av v := by
  have T := TOK t i hi
  have hd := T.desc
  unfold indexAddrEff at h
  split at h
  · cases h
  rename_i n hii
  obtain ⟨k, rfl, hk⟩ := asIntAV_spec hii hvi
  obtain ⟨g, nf, by_, el⟩ := i
  simp only at h hd
  split at h
  · rename_i _ len hh b g' p gg xx hargeq
    obtain ⟨rfl, hbox⟩ := argOf_eq hargeq
    split at h
    · rename_i kk hp
      split at h
      · rename_i hgd _
        subst hgd
        obtain ⟨h0, h1, q, rfl⟩ := ix_spec (f := fun q => ⟨.ptr b g' (p ++ [.idx n.toNat]), [], q⟩) h hn (fun _ => rfl)
        simp only at hd
        obtain ⟨ee, j, q1, q2, rfl⟩ := hd
        obtain ⟨ti, hti, hsz, _⟩ := (TOK _ _ q2).info
        simp only [RelV] at ha
        obtain ⟨blk, d, B', r1, r2, r3, rfl⟩ := ha
        refine ⟨.pointer (some ⟨blk, offs g' p + n.toNat * ncell j.g, none⟩), ?_, rfl, ?_⟩
        · simp only [Instr.indexAt, asIntOf, Sem.run_bind, Sem.run_pure, Result.andThen_ok, run_underlying q1, Instr.sureAddr, h0, h1, and_self, if_true, run_sizeOf' hti, Addr.add_lit, hsz]
        · simp only [RelV]
          have hin : inB (.arr len j.g) [.idx n.toNat] := by simp only [inB, and_true]; omega
          refine ⟨blk, d, B', r1, ?_, r3, by rw [offs_append hp]; simp [offs]⟩
          cases B' with
          | var g2 x => exact ⟨r2.1, inB_append hp r2.2 hin⟩
          | row e' h' xs fz =>
            obtain ⟨rfl, ii, q, rfl, s1, s2⟩ := r2
            exact ⟨rfl, ii, q ++ [.idx n.toNat], by simp, s1, inB_append (by simpa [pathTy] using hp) s2 hin⟩
      · cases h
    · cases h
  · rename_i _ kk b el' hh xs fz hargeq
    obtain ⟨rfl, hbox⟩ := argOf_eq hargeq
    split at h
    · rename_i hgd _
      subst hgd
      obtain ⟨h0, h1, q, rfl⟩ := ix_spec (f := fun q => ⟨.ptr b (.arr 0 kk) [.idx n.toNat], [], q⟩) h hn (fun _ => rfl)
      simp only at hd
      obtain ⟨ee, j, ti, q1, _, q2, rfl, hti, _⟩ := hd
      obtain ⟨ti', hti', hsz, _⟩ := (TOK _ _ q2).info
      obtain ⟨⟨d, hb⟩, rfl⟩ := relTip ha hbox
      rcases rowCells I hb with ⟨_, rfl⟩ | ⟨blk, cap, cs, hβ, hcap, _⟩
      · simp at h1; omega
      refine ⟨.pointer (some ⟨blk, n.toNat * ncell j.g, none⟩), ?_, rfl, ?_⟩
      · rw [hβ]
        simp only [Instr.indexAt, asIntOf, Sem.run_bind, Sem.run_pure, Result.andThen_ok, run_underlying q1, h0, h1, and_self, if_true, run_sizeOf' hti', Addr.add_lit, hsz, Nat.zero_add]
      · simp only [RelV]
        refine ⟨blk, d, _, hb, ⟨rfl, n.toNat, [], rfl, by omega, inB_nil _⟩, by rw [hβ]; rfl, by simp [offs]⟩
    · cases h
  · rename_i _ kk hh xs b hargeq
    obtain ⟨rfl, hbox⟩ := argOf_eq hargeq
    split at h
    · rename_i hgd _
      subst hgd
      obtain ⟨h0, h1, q, rfl⟩ := ix_spec (f := fun q => ⟨.ref kk (List.getD (α := den kk) xs n.toNat (zero kk)), [], q⟩) h hn (fun _ => rfl)
      simp only at hd
      obtain ⟨ee, j, ti, q1, _, q2, rfl, hti, _⟩ := hd
      obtain ⟨ti', hti', hsz, _⟩ := (TOK _ _ q2).info
      obtain ⟨ad, cap, rfl, h2, h3, h4, h5⟩ := relSl ha
      rcases h5 with rfl | ⟨blk, off, cs, rfl, h6, h7⟩
      · simp at h1; omega
      have hlt : n.toNat < List.length (α := den j.g) xs := by omega
      obtain ⟨a1, c1, r1, k1, k2, k3⟩ := encL_at h6 hlt
      refine ⟨.pointer (some ⟨blk, off + n.toNat * ncell j.g, none⟩), ?_, rfl, ?_⟩
      · simp only [Instr.indexAt, asIntOf, Sem.run_bind, Sem.run_pure, Result.andThen_ok, run_underlying q1, h0, h1, and_self, if_true, run_sizeOf' hti', Addr.add_lit, hsz]
      · simp only [RelV]
        refine ⟨blk, off + n.toNat * ncell j.g, c1, k3, fun jj v hv => ?_, rfl⟩
        have hl := (List.getElem?_eq_some_iff.1 hv).1
        have := h7 (n.toNat * ncell j.g + jj) v (by rw [k1, ← k2, List.append_assoc, List.getElem?_append_right (by omega), show a1.length + jj - a1.length = jj by omega, List.getElem?_append_left hl]; exact hv)
        rw [Nat.add_assoc]
        exact this
    · cases h
  · rename_i _ m kk len hh xs b hargeq
    obtain ⟨rfl, hbox⟩ := argOf_eq hargeq
    split at h
    · rename_i hgd _
      injection hgd with e1 e2
      subst e1; subst e2
      obtain ⟨h0, h1, q, rfl⟩ := ix_spec (f := fun q => ⟨.ref kk (List.getD (α := den kk) xs n.toNat (zero kk)), [], q⟩) h hn (fun _ => rfl)
      simp only at hd
      obtain ⟨ee, j, q1, q2, rfl⟩ := hd
      obtain ⟨ti', hti', hsz, _⟩ := (TOK _ _ q2).info
      simp only [RelV] at ha
      obtain ⟨blk, off, cs, ⟨hlen, h6⟩, h7, rfl⟩ := ha
      have hlt : n.toNat < List.length (α := den j.g) xs := by omega
      obtain ⟨a1, c1, r1, k1, k2, k3⟩ := encL_at h6 hlt
      refine ⟨.pointer (some ⟨blk, off + n.toNat * ncell j.g, none⟩), ?_, rfl, ?_⟩
      · simp only [Instr.indexAt, asIntOf, Sem.run_bind, Sem.run_pure, Result.andThen_ok, run_underlying q1, Instr.sureAddr, h0, h1, and_self, if_true, run_sizeOf' hti', Addr.add_lit, hsz]
      · simp only [RelV]
        refine ⟨blk, off + n.toNat * ncell j.g, c1, k3, fun jj v hv => ?_, rfl⟩
        have hl := (List.getElem?_eq_some_iff.1 hv).1
        have := h7 (n.toNat * ncell j.g + jj) v (by rw [k1, ← k2, List.append_assoc, List.getElem?_append_right (by omega), show a1.length + jj - a1.length = jj by omega, List.getElem?_append_left hl]; exact hv)
        rw [Nat.add_assoc]
        exact this
    · cases h
  · cases h

theorem indexEff_sound (TOK : TysOK P τ) {t : TypeId} {i : TInfo} (hi : τ t = some i) {known : Bool} {va vi : AV} {u ui : Value} (ha : RelV M va u) (hvi : RelV M vi ui) {e : Eff} (h : indexEff i.g known (argOf M.bs va) (argOf M.bs vi) = some e) (hn : e.ok) :
    ∃ v, (Instr.index t u ui).run P M.w = .ok v M.w ∧ e.wr = [] ∧ RelV M e.av v := by
  have T := TOK t i hi
  have hd := T.desc
  unfold indexEff at h
  split at h
  · cases h
  rename_i n hii
  obtain ⟨k, rfl, hk⟩ := asIntAV_spec hii hvi
  obtain ⟨g, nf, by_, el⟩ := i
  simp only at h hd
  split at h
  · rename_i _ m kk len hh xs b hargeq
    obtain ⟨rfl, hbox⟩ := argOf_eq hargeq
    split at h
    · rename_i hgd _
      injection hgd with e1 e2
      subst e1; subst e2
      obtain ⟨h0, h1, q, rfl⟩ := ix_spec (f := fun q => ⟨.val kk (List.getD (α := den kk) xs n.toNat (zero kk)), [], q⟩) h hn (fun _ => rfl)
      simp only at hd
      obtain ⟨ee, j, q1, q2, rfl⟩ := hd
      obtain ⟨ti', hti', hsz, _⟩ := (TOK _ _ q2).info
      simp only [RelV] at ha
      obtain ⟨cs, ⟨hlen, h6⟩, rfl⟩ := ha
      have hlt : n.toNat < List.length (α := den j.g) xs := by omega
      obtain ⟨a1, c1, r1, k1, k2, k3⟩ := encL_at h6 hlt
      have hps := part_sound (P := P) (w := M.w) (TOK _ _ q2) k3 (cs := cs.toArray) (a := a1) (c := c1) (r := r1) (by simpa using k1) (off := n.toNat * ncell j.g) k2
      refine ⟨toVal j.g c1, ?_, rfl, ?_⟩
      · show (Instr.index t (.agg cs.toArray) _).run P M.w = _
        simp only [Instr.index, asIntOf, Sem.run_bind, Sem.run_pure, Result.andThen_ok, run_underlying q1, h0, h1, and_self, if_true, run_sizeOf' hti', hsz]
        exact hps
      · simp only [RelV]; exact ⟨c1, k3, rfl⟩
    · cases h
  · rename_i _ s b hargeq
    obtain ⟨rfl, hbox⟩ := argOf_eq hargeq
    obtain ⟨h0, h1, q, rfl⟩ := ix_spec (f := fun q => ⟨.val (.int .u8) ((List.getD (α := UInt8) s n.toNat 0).toNat : Int), [], q⟩) h hn (fun _ => rfl)
    obtain ⟨rfl, _⟩ := relStr ha
    simp only at hd
    have hlt : n.toNat < List.length (α := UInt8) s := by omega
    refine ⟨.int .u8 ((List.getD (α := UInt8) s n.toNat 0).toNat : Int), ?_, rfl, mkInt ?_⟩
    · have hg : (⟨⟨s⟩⟩ : ByteArray)[n.toNat]? = some (List.getD (α := UInt8) s n.toNat 0) := by
        rw [← getD_some (α := UInt8) s n.toNat 0 hlt, getElem?_pos (⟨⟨s⟩⟩ : ByteArray) n.toNat hlt, List.getElem?_eq_getElem hlt]
        rfl
      simp only [Instr.index, asIntOf, Sem.run_bind, Sem.run_pure, Result.andThen_ok, run_underlying hd, h0, if_true, hg]
    · have := UInt8.toNat_lt (List.getD (α := UInt8) s n.toNat 0)
      refine ⟨?_, ?_⟩
      · show (0 : Int) ≤ _; omega
      · show _ ≤ (255 : Int); omega
  · cases h
end
end Go.Ev
