/- Literals, 'append', 'max' and 'min'. -/
import Derived.Test.YtohodbfoeejbjaaEvOp8
set_option linter.unusedVariables false
set_option linter.unusedSimpArgs false
namespace Go.Ev
section
variable {P : Program} {τ : Tys} {R : Ref} {M : Mem}

theorem places_of : ∀ (fs : List Field), (∀ f ∈ fs, ∃ ti, P.info? f.type = some ti) → ∃ places, fs.mapM (fun f => (P.info? f.type).map fun i => (f.offset, i.size)) = some places ∧
    ∀ (k : Nat) (f : Field) (ti : TypeInfo), fs[k]? = some f → P.info? f.type = some ti → places[k]? = some (f.offset, ti.size)
  | [], _ => ⟨[], by simp, by simp⟩
  | f :: fs, h => by
    obtain ⟨places, h1, h2⟩ := places_of fs (fun g hg => h g (by simp [hg]))
    obtain ⟨ti, h3⟩ := h f (by simp)
    refine ⟨(f.offset, ti.size) :: places, by simp [List.mapM_cons, h3, h1], fun k g ti' hk hg => ?_⟩
    cases k with
    | zero =>
      simp only [List.getElem?_cons_zero, Option.some.injEq] at hk ⊢
      subst hk
      rw [h3] at hg
      simp only [Option.some.injEq] at hg
      rw [hg]
    | succ k =>
      simp only [List.getElem?_cons_succ] at hk ⊢
      exact h2 k g ti' hk hg

theorem build_sound (TOK : TysOK P τ) (I : InvM R M) {t : TypeId} {i : TInfo} (hi : τ t = some i) {l : List (Nat × Arg)} {us : List Value} (hu : ArgsR M (l.map (·.2)) us) {x : den i.g} {ws : List (Nat × Bool × Box)}
    (hin : partsIn i (l.map (·.1)) = true) (h : parts i.g (partPath i) l (zero i.g) = some (x, ws)) (nd : Option Prop) (ps : Array (Nat × Value)) (hps : ps.toList = (l.map (·.1)).zip us) :
    ∃ v, (Instr.build t ps).run P M.w = .ok v M.w ∧ After R M ⟨.val i.g x, ws, nd⟩ v M.w := by
  have T := TOK t _ hi
  have hd := T.desc
  obtain ⟨ti, p1, p2, p3⟩ := T.info
  obtain ⟨g, nf, by_, el⟩ := i
  have hz : (toVal g (zeroCells g)).cells = (zeroCells g).toArray := by
    apply Array.toList_inj.1
    rw [toVal_cells (Enc.zero M.w M.S g)]
  simp only at hd p2 p3
  cases g with
  | arr n a =>
    obtain ⟨e, j, q1, q2, q3⟩ := hd
    obtain ⟨tj, r1, r2, r3⟩ := (TOK e j q2).info
    rw [q3] at r2
    simp only [partsIn, List.all_eq_true, List.mem_map, Nat.blt_eq] at hin
    obtain ⟨hk, S', f, ds, he, hf⟩ := parts_sound (g := .arr n a) (path := partPath ⟨.arr n a, nf, by_, el⟩) (place := fun i => some (i * tj.size, tj.size)) (ok := fun _ => True) (fun i h _ hp => by
        simp only [partPath, pathTy, Option.some.injEq] at hp
        subst hp
        simp [partPath, offs, r2]) I hu (fun y hy => ⟨trivial, by simp only [partPath, inB]; exact ⟨hin _ ⟨y, hy, rfl⟩, trivial⟩⟩) (Enc.zero M.w M.S (.arr n a)) h
    refine ⟨.agg ds.toArray, run_build M.w t ps ds.toArray ?_, After.froze hk f ?_⟩
    · unfold Program.built
      rw [p1, q1]
      simp only [p3, r1]
      rw [hps, hz]
      exact hf
    · simp only [RelV]
      exact ⟨ds, he, rfl⟩
  | prod a b =>
    obtain ⟨fs, q1, q2, q3, q4, q5⟩ := hd
    simp only [partsIn, List.all_eq_true, List.mem_map, Nat.blt_eq] at hin
    have hinfo : ∀ f ∈ fs.toList, ∃ ti, P.info? f.type = some ti := by
      intro f hf
      obtain ⟨k, hk⟩ := List.mem_iff_getElem?.1 hf
      obtain ⟨_, _, _, j, r1, _, _⟩ := q5 k f (by simpa using hk)
      obtain ⟨tj, s1, _⟩ := (TOK _ _ r1).info
      exact ⟨tj, s1⟩
    obtain ⟨places, k1, k2⟩ := places_of fs.toList hinfo
    have hplace : ∀ (i : Nat) h, i < nf → pathTy (.prod a b) (fieldPath nf i) = some h → places.toArray[i]? = some (offs (.prod a b) (fieldPath nf i), ncell h) ∧ inB (.prod a b) (fieldPath nf i) := by
      intro i h hlt hp
      have hlt' : i < fs.size := by omega
      obtain ⟨r1, r2, r3, j, r4, r5, r6⟩ := q5 i fs[i] (by simp [hlt'])
      obtain ⟨tj, s1, s2, _⟩ := (TOK _ _ r4).info
      rw [hp] at r5
      simp only [Option.some.injEq] at r5
      have := k2 i fs[i] tj (by simp [hlt']) s1
      rw [r2, s2, ← r5] at this
      exact ⟨by simpa using this, r3⟩
    have hpt : ∀ y ∈ l, inB (.prod a b) (fieldPath nf y.1) := by
      intro y hy
      have hlt := hin _ ⟨y, hy, rfl⟩
      have hlt' : y.1 < fs.size := by omega
      obtain ⟨r1, r2, r3, j, r4, r5, r6⟩ := q5 y.1 fs[y.1] (by simp [hlt'])
      exact r3
    obtain ⟨hk, S', f, ds, he, hf⟩ := parts_sound (g := .prod a b) (path := partPath ⟨.prod a b, nf, by_, el⟩) (place := (places.toArray[·]?)) (ok := fun i => i < nf) (fun i h hlt hp => by
        exact (hplace i h hlt hp).1) I hu (fun y hy => ⟨hin _ ⟨y, hy, rfl⟩, hpt y hy⟩) (Enc.zero M.w M.S (.prod a b)) h
    refine ⟨.agg ds.toArray, run_build M.w t ps ds.toArray ?_, After.froze hk f ?_⟩
    · unfold Program.built
      rw [p1, q1]
      simp only [p3, k1]
      rw [hps, hz]
      exact hf
    · simp only [RelV]
      exact ⟨ds, he, rfl⟩
  | bool => simp [partsIn] at hin
  | int _ => simp [partsIn] at hin
  | str => simp [partsIn] at hin
  | unit => simp [partsIn] at hin
  | sl _ => simp [partsIn] at hin

theorem rowOf_sound (I : InvM R M) {g : GTy} {va : AV} {u : Value} (ha : RelV M va u) {ys : List (den g)} (h : rowOf g (argOf M.bs va) = some ys) :
    ∃ ad c ds, u = .slice ad ys.length c ∧ encL (Enc M.w M.S g) ys ds ∧ ys.length ≤ maxRow ∧ (ys = [] ∨ ∃ a, ad = some a ∧ ∀ (j : Nat) v, ds[j]? = some v → M.w.cell? (a.add j) = some v) := by
  have hadd : ∀ (blk off j : Nat), (⟨blk, off, none⟩ : Addr).add j = ⟨blk, off + j, none⟩ := by
    intro blk off j
    unfold Addr.add
    split
    · rename_i hj; subst hj; rfl
    · rfl
  unfold rowOf at h
  split at h
  · rename_i b t h' xs fz hargeq
    obtain ⟨rfl, hbox⟩ := argOf_eq hargeq
    split at h
    · rename_i e _
      subst e
      simp only [Option.some.injEq] at h
      subst h
      obtain ⟨⟨d, hb⟩, rfl⟩ := relTip ha hbox
      obtain ⟨_, _, _, _, hmax, _⟩ := I.boxes b d _ hb
      rcases rowCells I hb with ⟨hn, rfl⟩ | ⟨blk, cap, cs, hβ, hcap, h6, h7⟩
      · exact ⟨none, 0, [], by rw [hn]; rfl, rfl, by simp [maxRow], .inl rfl⟩
      · exact ⟨_, cap, cs, hβ, h6, hmax, .inr ⟨_, rfl, fun j v hv => by rw [hadd, Nat.zero_add]; exact h7 j v hv⟩⟩
    · cases h
  · rename_i h' xs b hargeq
    obtain ⟨rfl, hbox⟩ := argOf_eq hargeq
    split at h
    · rename_i e _
      subst e
      simp only [Option.some.injEq] at h
      subst h
      obtain ⟨ad, cap, rfl, h2, h3, h4, h5⟩ := relSl ha
      rcases h5 with rfl | ⟨blk, off, cs, rfl, h6, h7⟩
      · exact ⟨ad, cap, [], rfl, rfl, h4, .inl rfl⟩
      · exact ⟨_, cap, cs, rfl, h6, h4, .inr ⟨_, rfl, fun j v hv => by rw [hadd]; exact (h7 j v hv).1⟩⟩
    · cases h
  · rename_i b hargeq
    obtain ⟨rfl, hbox⟩ := argOf_eq hargeq
    simp only [Option.some.injEq] at h
    subst h
    simp only [RelV] at ha
    subst ha
    exact ⟨none, 0, [], rfl, rfl, by simp [maxRow], .inl rfl⟩
  · cases h

/-- Fewer boxes. -/
theorem InvM.sub (I : InvM R M) {bs : Bxs} (h : ∀ b x, lk b bs = some x → lk b M.bs = some x) : InvM R { M with bs := bs } :=
  ⟨I.os, I.tape, I.output, I.size, I.frame, I.old, I.here, fun b d B hb => I.boxes b d B (h b _ hb), fun b c d B d' B' hne hb hc => I.sep b c d B d' B' hne (h b _ hb) (h c _ hc)⟩

theorem lk_drop {α : Type} (key : Nat) : ∀ (l : List (Nat × α)) (b : Nat), lk b (l.filter fun x => !(Nat.beq x.1 key)) = if b = key then none else lk b l
  | [], b => by simp [lk]
  | (j, v) :: l, b => by
    have ih := lk_drop key l b
    by_cases hj : j = key
    · subst hj
      have : Nat.beq j j = true := Nat.beq_refl j
      simp only [List.filter_cons, this, Bool.not_true, Bool.false_eq_true, if_false, ih]
      by_cases hb : b = j
      · simp [hb]
      · have : Nat.beq j b = false := by
          cases hh : Nat.beq j b with
          | false => rfl
          | true => exact absurd (Nat.eq_of_beq_eq_true hh).symm hb
        simp [hb, lk, this]
    · have hk : Nat.beq j key = false := by
        cases hh : Nat.beq j key with
        | false => rfl
        | true => exact absurd (Nat.eq_of_beq_eq_true hh) hj
      simp only [List.filter_cons, hk, Bool.not_false, if_true, lk]
      cases hjb : Nat.beq j b with
      | true =>
        have := Nat.eq_of_beq_eq_true hjb
        subst this
        simp [hj]
      | false => exact ih

theorem appendEff_sound (TOK : TysOK P τ) (I : InvM R M) {t ty : TypeId} {g : GTy} {nf b el : Nat} (hi : τ t = some ⟨.sl g, nf, b, el⟩) {va vx : AV} {u ux : Value} (ha : RelV M va u) (hx : RelV M vx ux) {key : Nat} {e : Eff}
    (h : appendEff key ⟨.sl g, nf, b, el⟩ g (argOf M.bs va) (argOf M.bs vx) = some e) (hn : e.ok) :
    ∃ v w', (Builtin.append_ #[t, t] ty #[u, ux]).run P M.w = .ok v w' ∧ After R M e v w' := by
  have T := TOK t _ hi
  have hd := T.desc
  simp only at hd
  obtain ⟨el', j, ti, q1, q2, q3, q4, q5, q6, q7, q8, q9⟩ := hd
  subst q2
  obtain ⟨ti', p1, p2, p3⟩ := (TOK el' j q3).info
  rw [q5] at p1
  simp only [Option.some.injEq] at p1
  subst p1
  rw [q4] at p2 p3
  have hzs : (toVal g (zeroCells g)).cells.size = ncell g := by
    have := toVal_cells (Enc.zero M.w M.S g)
    rw [← Array.length_toList, this, zeroCells_len]
  have hone : ∀ n : Nat, n * b ≤ maxRow → n ≤ maxRow := fun n hn => Nat.le_trans (Nat.le_mul_of_pos_right n (by omega)) hn
  unfold appendEff at h
  simp only at h
  split at h
  · cases h
  rename_i ys hys
  obtain ⟨ad, c, ds, rfl, h1, h2, h3⟩ := rowOf_sound I hx hys
  split at h
  · rename_i b' t' h' xs fz hargeq
    obtain ⟨rfl, hbox⟩ := argOf_eq hargeq
    split at h
    · rename_i e1 e2 c1 c2
      clear c1 c2
      simp only at e1
      subst e1
      subst e2
      simp only [Option.some.injEq] at h
      subst h
      obtain ⟨⟨d, hb⟩, rfl⟩ := relTip ha hbox
      obtain ⟨cs, r1, r2, r3, r4, r5, r6⟩ := I.boxes b' d _ hb
      have hneed := hn _ rfl
      obtain ⟨v', w', k1, k2, k3⟩ := I.append (P := P) q1 q5 p3 p2 hzs q9 q7 r1 r2 b' (.inr ⟨d, fz, hb, rfl⟩) fz (fun d' fz' hb' => by
          rw [hb] at hb'
          simp only [Option.some.injEq, Prod.mk.injEq, Box.row.injEq] at hb'
          exact hb'.2.2.2.2) (ty := ty) (c := c) h1 h3 (by rw [q6]; exact hneed) (hone _ hneed)
      refine ⟨v', w', k1, M.S, _, k2, k3.mono (fun x hx => killed_one.2 hx), ?_⟩
      simp only [RelV, applyB]
      exact ⟨⟨true, _, lk_st_same _ _ _, trivial⟩, by simp⟩
    · cases h
  · rename_i bx hargeq
    obtain ⟨rfl, hbox⟩ := argOf_eq hargeq
    simp only [Option.some.injEq] at h
    subst h
    simp only [RelV] at ha
    subst ha
    have hneed := hn _ rfl
    have I0 : InvM R { M with bs := M.bs.filter fun x => !(Nat.beq x.1 key) } := I.sub (fun b x hb => by
      rw [lk_drop] at hb
      split at hb
      · cases hb
      · exact hb)
    obtain ⟨v', w', k1, k2, k3⟩ := I0.append (P := P) (g := g) (xs := []) (cs := []) q1 q5 p3 p2 hzs q9 q7 (World.ownsRow_nil _ _ _ _) rfl key (.inl ⟨rfl, fun d B hb => by
        rw [lk_drop] at hb
        simp at hb⟩) false (fun d' fz' hb' => by
        rw [lk_drop] at hb'
        simp at hb') (ty := ty) (c := c) h1 h3 (by simpa [q6] using hneed) (by simpa using hone _ hneed)
    have hlook : ∀ b x, lk b (st' key (true, Box.row el' g ys false) M.bs) = some x → lk b (st' key (true, Box.row el' g ([] ++ ys) false) (M.bs.filter fun x => !(Nat.beq x.1 key))) = some x := by
      intro b x hb
      rw [lk_st] at hb ⊢
      split
      · rename_i hbk
        rw [if_pos hbk] at hb
        exact hb
      · rename_i hbk
        rw [if_neg hbk] at hb
        rw [lk_drop, if_neg hbk]
        exact hb
    refine ⟨v', w', k1, M.S, _, k2.sub hlook, ⟨k3.keeps, fun b' d B hb hK => ?_⟩, ?_⟩
    · have hne : b' ≠ key := fun hh => hK (killed_one.2 hh)
      refine ⟨d, B, ?_, by simp [hne], Box.le_refl B⟩
      simp only [applyB, lk_st, if_neg hne]
      exact hb
    · simp only [RelV, applyB]
      exact ⟨⟨true, _, lk_st_same _ _ _, trivial⟩, by simp⟩
  · cases h

theorem maxmin_sound (isMax : Bool) {k : IntKind} : ∀ {l : List AV} {us : List Value} {acc m : Int}, k.has acc → RelL M l us → maxmin isMax k (l.map (argOf M.bs)) acc = some m →
    (us.foldlM (if isMax then Builtin.max2 else Builtin.min2) (.int k acc)).run P M.w = .ok (.int k m) M.w ∧ k.has m
  | [], us, acc, m, ha, hr, h => by
    cases us with
    | nil =>
      simp only [List.map_nil, maxmin, Option.some.injEq] at h
      subst h
      exact ⟨by simp, ha⟩
    | cons _ _ => simp [RelL] at hr
  | v :: l, us, acc, m, ha, hr, h => by
    cases us with
    | nil => simp [RelL] at hr
    | cons u us =>
      simp only [RelL] at hr
      simp only [List.map_cons, argOf] at h
      unfold maxmin at h
      split at h
      · rename_i heq; simp at heq
      · rename_i acc' k' n bx l' heq
        simp only [List.cons.injEq, Prod.mk.injEq] at heq
        obtain ⟨⟨rfl, _⟩, rfl⟩ := heq
        split at h
        · rename_i hk _
          subst hk
          obtain ⟨rfl, hn⟩ := relInt hr.1
          cases isMax with
          | true =>
            simp only [if_true] at h ⊢
            have ih := maxmin_sound true (by split <;> assumption) hr.2 h
            simp only [if_true] at ih
            refine ⟨?_, ih.2⟩
            rw [← ih.1]
            simp [List.foldlM_cons, Builtin.max2]
          | false =>
            simp only [Bool.false_eq_true, if_false] at h ⊢
            have ih := maxmin_sound false (by split <;> assumption) hr.2 h
            simp only [Bool.false_eq_true, if_false] at ih
            refine ⟨?_, ih.2⟩
            rw [← ih.1]
            simp [List.foldlM_cons, Builtin.min2]
        · cases h
      · cases h
end
end Go.Ev
