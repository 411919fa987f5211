/- Stores and appends, told of boxes. -/
import Derived.Test.YtohodbfoeejbjaaEvMem
set_option linter.unusedVariables false
namespace Go.Ev

theorem setRow_size (w : World) (g : Nat) (cs : Array Value) : (w.setRow g cs).heap.size = w.heap.size := by simp [World.setRow]

theorem InvM.store {R : Ref} {P : Program} {M : Mem} (I : InvM R M) {b : Nat} {d : Bool} {g : GTy} {x : den g} (hb : lk b M.bs = some (d, .var g x)) {p : List PStep} {h : GTy} {v : den h} {z : den g} {vs : List Value} {blk : Nat}
    (hu : upd g x p ⟨h, v⟩ = some z) (hp : inB g p) (hv : Enc M.w M.S h v vs) (hβ : blkOf (M.β b) = some blk) :
    ∃ w', (storeCells ⟨blk, offs g p, none⟩ vs).run P M.w = .ok () w' ∧ InvM R { M with w := w', bs := st' b (true, .var g z) M.bs } ∧ Step M { M with w := w', bs := st' b (true, .var g z) M.bs } (fun _ => False) := by
  obtain ⟨blk', cs, e, hv', h2, h3, h4, h5⟩ := I.boxes b d _ hb
  have hbb : blk' = blk := by rw [hv'] at hβ; simpa [blkOf] using hβ
  subst hbb
  obtain ⟨a, c, r, k1, k2, k3, k4⟩ := Enc.upd p h3 hu hp hv
  have hlen := hv.len
  have hsz : cs.size = (a ++ c ++ r).length := by rw [← k1]; simp
  have hst := run_storeCells_at P blk' (offs g p) e vs 0 cs M.w h2 (by rw [hsz, ← k2]; simp; omega) (fun u hu => hv.one u hu)
  simp only [Nat.add_zero] at hst
  have hcells : (cs.toList.take (offs g p) ++ vs ++ cs.toList.drop (offs g p + vs.length)).toArray = (a ++ vs ++ r).toArray := by
    congr 1
    rw [k1, ← k2, hlen, ← k3]
    have e1 : (a ++ c ++ r).take a.length = a := by rw [List.append_assoc, List.take_left' rfl]
    have e2 : (a ++ c ++ r).drop (a.length + c.length) = r := by rw [← List.length_append, List.drop_left' rfl]
    rw [e1, e2]
  rw [hcells] at hst
  have hk : Keeps M.S M.S M.w (M.w.setRow blk' (a ++ vs ++ r).toArray) := fun y o hs => ⟨hs, cell_of_heap (setRow_other _ _ _ _ (fun hy => by subst hy; exact h4 o hs))⟩
  have hB : RelB R (M.w.setRow blk' (a ++ vs ++ r).toArray) M.S (M.β b) (.var g z) :=
    ⟨blk', _, e, hv', setRow_heap _ _ _ _ _ _ h2, by simpa using k4.keeps hk, h4, h5⟩
  have J := I.setBox (w' := M.w.setRow blk' (a ++ vs ++ r).toArray) (S' := M.S) (v' := M.β b) b (.var g z) true rfl rfl rfl (by rw [setRow_size]; exact Nat.le_refl _)
    (fun k _ hne => setRow_other _ _ _ _ (fun hk => hne d _ hb (by rw [hβ, hk]))) hk (fun _ _ h => .inl h) hB (fun k h => .inr ⟨⟨d, _, hb⟩, h⟩)
  have hbeta : (fun c => if c = b then M.β b else M.β c) = M.β := by funext c; split; (rename_i hcb; rw [hcb]); rfl
  rw [hbeta] at J
  refine ⟨_, hst, J, hk, fun c' dc Bc hc _ => ?_⟩
  simp only [lk_st]
  by_cases hcb : c' = b
  · subst hcb
    rw [hb] at hc
    simp only [Option.some.injEq, Prod.mk.injEq] at hc
    obtain ⟨rfl, rfl⟩ := hc
    exact ⟨true, .var g z, by simp, trivial, ⟨fun g' p hp => hp, fun h => h⟩⟩
  · exact ⟨dc, Bc, by simp only [hcb, if_false]; exact hc, trivial, Box.le_refl _⟩

theorem upd_len {a : GTy} {n m : Nat} {x : den (.arr n a)} {p : List PStep} {v : (h : GTy) × den h} {z : den (.arr n a)} (hp : p ≠ []) (h : upd (.arr n a) x p v = some z) : List.length (α := den a) z = List.length (α := den a) x ∧ upd (.arr m a) x p v = some z := by
  match p, hp with
  | .idx i :: p, _ =>
    simp only [upd] at h ⊢
    split at h
    · rename_i y hy
      simp only [Option.some.injEq] at h
      subst h
      exact ⟨by simp, rfl⟩
    · cases h
  | .fst :: p, _ => simp [upd] at h
  | .snd :: p, _ => simp [upd] at h

theorem sub_any {a : GTy} {n m : Nat} {x : den (.arr n a)} {p : List PStep} {v : (h : GTy) × den h} (hp : p ≠ []) (h : Ev.sub (.arr n a) x p = some v) : Ev.sub (.arr m a) x p = some v := by
  match p, hp with
  | .idx i :: p, _ => simpa only [Ev.sub] using h
  | .fst :: p, _ => simp [Ev.sub] at h
  | .snd :: p, _ => simp [Ev.sub] at h

theorem offs_any {a : GTy} {n m : Nat} {p : List PStep} : offs (.arr n a) p = offs (.arr m a) p := by
  match p with
  | [] => rfl
  | .idx i :: p => rfl
  | .fst :: p => rfl
  | .snd :: p => rfl

theorem InvM.storeRow {R : Ref} {P : Program} {M : Mem} (I : InvM R M) {b : Nat} {d : Bool} {el : Nat} {g : GTy} {xs : List (den g)} (hb : lk b M.bs = some (d, .row el g xs false)) {p : List PStep} {h : GTy} {v : den h} {z : List (den g)} {vs : List Value} {blk : Nat}
    (hu : upd (.arr 0 g) xs p ⟨h, v⟩ = some z) (hp : okPath (.row el g xs false) (.arr 0 g) p) (hv : Enc M.w M.S h v vs) (hβ : blkOf (M.β b) = some blk) :
    ∃ w', (storeCells ⟨blk, offs (.arr 0 g) p, none⟩ vs).run P M.w = .ok () w' ∧ InvM R { M with w := w', bs := st' b (true, .row el g z false) M.bs } ∧ Step M { M with w := w', bs := st' b (true, .row el g z false) M.bs } (fun _ => False) := by
  obtain ⟨cs, h1, h2, h3, h4, h5, h6⟩ := I.boxes b d _ hb
  obtain ⟨_, i, q, hpq, hi, hq⟩ := hp
  have hpne : p ≠ [] := by rw [hpq]; simp
  obtain ⟨hzl, hu'⟩ := upd_len (m := xs.length) hpne hu
  have henc : Enc M.w M.S (.arr xs.length g) xs cs := ⟨rfl, h2⟩
  have hin : inB (.arr xs.length g) p := by rw [hpq]; exact ⟨hi, hq⟩
  obtain ⟨a, c, r, k1, k2, k3, k4⟩ := Enc.upd p henc hu' hin hv
  have hlen := hv.len
  rcases h1.2 with ⟨hn, _⟩ | ⟨blk', cap, cur, hv', r1, r2, r3, r4, r5, r6⟩
  · rw [hn] at hβ; simp [blkOf] at hβ
  have hbb : blk' = blk := by rw [hv'] at hβ; simpa [blkOf] using hβ
  subst hbb
  have hcur : cur.toList = cs ++ cur.toList.drop (xs.length * ncell g) := by conv => lhs; rw [← List.take_append_drop (xs.length * ncell g) cur.toList, r6]
  have hcl : cs.length = xs.length * ncell g := h1.1
  have hol : offs (.arr xs.length g) p + vs.length + r.length = cs.length := by rw [k1, ← k2]; simp; omega
  have hsz : cs.length ≤ cur.size := by rw [hcl, r5]; exact Nat.mul_le_mul_right _ r3
  have hst := run_storeCells_at P blk' (offs (.arr 0 g) p) el vs 0 cur M.w r2 (by rw [offs_any (m := xs.length)]; omega) (fun u hu => hv.one u hu)
  simp only [Nat.add_zero] at hst
  have hcells : (cur.toList.take (offs (.arr 0 g) p) ++ vs ++ cur.toList.drop (offs (.arr 0 g) p + vs.length)) = (a ++ vs ++ r) ++ cur.toList.drop (xs.length * ncell g) := by
    rw [offs_any (m := xs.length), hcur, k1, ← k2, hlen, ← k3]
    have e1 : (a ++ c ++ r ++ cur.toList.drop (xs.length * ncell g)).take a.length = a := by rw [List.append_assoc, List.append_assoc, List.take_left' rfl]
    have e2 : (a ++ c ++ r ++ cur.toList.drop (xs.length * ncell g)).drop (a.length + c.length) = r ++ cur.toList.drop (xs.length * ncell g) := by rw [← List.length_append, List.append_assoc, List.drop_left' rfl]
    have e3 : (a ++ c ++ r ++ cur.toList.drop (xs.length * ncell g)).drop (xs.length * ncell g) = cur.toList.drop (xs.length * ncell g) := by
      rw [← k1]; rw [← hcl]; exact List.drop_left' rfl
    rw [e1, e2, e3]; simp
  rw [hcells] at hst
  have hk : Keeps M.S M.S M.w (M.w.setRow blk' (a ++ vs ++ r ++ cur.toList.drop (xs.length * ncell g)).toArray) := fun y o hs => ⟨hs, cell_of_heap (setRow_other _ _ _ _ (fun hy => by
    subst hy
    have := ((h6 _ hβ).2 o hs).1
    cases this))⟩
  have hnl : (a ++ vs ++ r).length = xs.length * ncell g := by rw [← hcl, k1]; simp; omega
  have hB : RelB R (M.w.setRow blk' (a ++ vs ++ r ++ cur.toList.drop (xs.length * ncell g)).toArray) M.S (M.β b) (.row el g z false) := by
    have hzl' : List.length z = xs.length := hzl
    refine ⟨a ++ vs ++ r, ⟨by rw [hzl', hnl], .inr ⟨blk', cap, _, by rw [hv', hzl'], r1, setRow_heap _ _ _ _ _ _ r2, by rw [hzl']; exact r3, r4, ?_, ?_⟩⟩, encL_mono (fun _ _ hh => hh.keeps hk) k4.2, by rw [hzl']; exact h3, by rw [hzl']; exact h4, h5, fun y hy => ⟨(h6 y hy).1, fun o ho => by rw [hzl']; exact (h6 y hy).2 o ho⟩⟩
    · have e1 : cur.toList.length = cap * ncell g := by rw [← r5]; rfl
      have e2 : (a ++ vs ++ r ++ cur.toList.drop (xs.length * ncell g)).length = cap * ncell g := by
        rw [List.length_append, hnl, List.length_drop, e1]
        have := Nat.mul_le_mul_right (ncell g) r3
        omega
      exact e2
    · rw [hzl', ← hnl]
      exact List.take_left' rfl
  have J := I.setBox (w' := M.w.setRow blk' (a ++ vs ++ r ++ cur.toList.drop (xs.length * ncell g)).toArray) (S' := M.S) (v' := M.β b) b (.row el g z false) true rfl rfl rfl (by rw [setRow_size]; exact Nat.le_refl _)
    (fun k _ hne => setRow_other _ _ _ _ (fun hk => hne d _ hb (by rw [hβ, hk]))) hk (fun _ _ h => .inl h) hB (fun k h => .inr ⟨⟨d, _, hb⟩, h⟩)
  have hbeta : (fun c => if c = b then M.β b else M.β c) = M.β := by funext c; split; (rename_i hcb; rw [hcb]); rfl
  rw [hbeta] at J
  refine ⟨_, hst, J, hk, fun c' dc Bc hc _ => ?_⟩
  simp only [lk_st]
  by_cases hcb : c' = b
  · subst hcb
    rw [hb] at hc
    simp only [Option.some.injEq, Prod.mk.injEq] at hc
    obtain ⟨rfl, rfl⟩ := hc
    refine ⟨true, .row el g z false, by simp, trivial, ⟨fun g' p hp => ?_, fun h => h⟩⟩
    obtain ⟨e1, i', q', e2, e3, e4⟩ := hp
    exact ⟨e1, i', q', e2, by rw [show List.length z = xs.length from hzl]; exact e3, e4⟩
  · exact ⟨dc, Bc, by simp only [hcb, if_false]; exact hc, trivial, Box.le_refl _⟩

section
variable {P : Program} (w : World)
theorem run_append_nothing (t ty e : TypeId) (i : TypeInfo) (size : Nat) (ht : P.underlying t = some (.slice e)) (hi : P.info? e = some i)
    (base : Nat) (v : Value) (n c : Nat) (xs : List Value) (hown : w.ownsRow base e size v n xs) :
    (Builtin.append_ #[t, t] ty #[v, .slice none 0 c]).run P w = .ok v w := by
  rcases hown.2 with ⟨rfl, rfl⟩ | ⟨g, cap, cur, rfl, _, _, hnc, _⟩
  · simp [Builtin.append_, run_underlying ht, sizeOf, typeInfo, hi, Builtin.lenOf, Builtin.firstCells]
  · simp [Builtin.append_, run_underlying ht, sizeOf, typeInfo, hi, Builtin.lenOf, Builtin.firstCells, hnc, storeCells]
end

theorem encL_append {α : Type} {f : α → List Value → Prop} : ∀ {xs ys : List α} {cs ds : List Value}, encL f xs cs → encL f ys ds → encL f (xs ++ ys) (cs ++ ds)
  | [], _, _, _, h, k => by rw [show _ = [] from h]; exact k
  | _ :: _, _, _, _, ⟨c, d, e, a, b⟩, k => ⟨c, d ++ _, by rw [e, List.append_assoc], a, encL_append b k⟩

/-- 'append' onto a row (or onto nothing). -/
theorem InvM.append {R : Ref} {P : Program} {M : Mem} (I : InvM R M) {t ty e : TypeId} {ti : TypeInfo} {z : Value} {g : GTy} (ht : P.underlying t = some (.slice e)) (hi : P.info? e = some ti) (hz : ti.zero = some z) (hs : ti.size = ncell g)
    (hzs : z.cells.size = ncell g) (h0 : 0 < ncell g) (hlb : lbytes g ≤ ti.bytes)
    {v : Value} {xs : List (den g)} {cs : List Value} (hown : M.w.ownsRow 0 e (ncell g) v xs.length cs) (henc : encL (Enc M.w M.S g) xs cs)
    (b : Nat) (hv : (v = .slice none 0 0 ∧ ∀ d B, lk b M.bs = some (d, B) → M.β b = v) ∨ (∃ d fz, lk b M.bs = some (d, .row e g xs fz) ∧ M.β b = v)) (fz' : Bool) (hfz : ∀ d fz, lk b M.bs = some (d, .row e g xs fz) → fz' = fz)
    {ad : Option Addr} {c : Nat} {ys : List (den g)} {ds : List Value} (hys : encL (Enc M.w M.S g) ys ds) (hsrc : ys = [] ∨ ∃ a, ad = some a ∧ ∀ (j : Nat) u, ds[j]? = some u → M.w.cell? (a.add j) = some u)
    (hbytes : (xs.length + ys.length) * ti.bytes ≤ maxRow) (hlen : xs.length + ys.length ≤ maxRow) :
    ∃ v' w', (Builtin.append_ #[t, t] ty #[v, .slice ad ys.length c]).run P M.w = .ok v' w' ∧
      InvM R { w := w', S := M.S, β := fun k => if k = b then v' else M.β k, bs := st' b (true, .row e g (xs ++ ys) fz') M.bs } ∧
      Step M { w := w', S := M.S, β := fun k => if k = b then v' else M.β k, bs := st' b (true, .row e g (xs ++ ys) fz') M.bs } (fun k => k = b) := by
  have hdl : ds.length = ys.length * ncell g := encL_len (fun _ _ hh => hh.len) hys
  have hmax : xs.length + ys.length ≤ maxLen := by simp only [maxRow] at hlen; simp only [maxLen]; omega
  -- either all that was there is as it was, and the row lies in a new block; or it lies where it lay, and its head is as it was
  let Two (v' : Value) (w' : World) : Prop := ((∀ k, v'.ownBlock = some k → M.w.heap.size ≤ k) ∧ Grows M.w w') ∨
    (v'.ownBlock = v.ownBlock ∧ ∀ k o, v.ownBlock = some k → o < xs.length * ncell g → w'.cell? ⟨k, o, none⟩ = M.w.cell? ⟨k, o, none⟩)
  have key : ∀ a, (∀ (j : Nat) u, ds[j]? = some u → M.w.cell? (a.add j) = some u) → ∃ v' w', (Builtin.append_ #[t, t] ty #[v, .slice (some a) ys.length c]).run P M.w = .ok v' w' ∧ w'.ownsRow 0 e (ncell g) v' (xs.length + ys.length) (cs ++ ds) ∧ M.w.grownBy w' v.ownBlock ∧ Two v' w' := by
    intro a ha
    have h1 : ∀ u ∈ ds, u.oneCell' = true := fun u hu => encL_one (fun _ _ hh => hh.one) hys u hu
    obtain ⟨v', w', r1, r2, r3, r4⟩ := run_append_own (P := P) M.w 0 t ty e ti z (ncell g) ti.bytes ht hi hz hs rfl hzs h0 v xs.length cs hown a ys.length c ds hdl ha h1 hmax hbytes (Nat.zero_le _)
    refine ⟨v', w', r1, r2, r3, ?_⟩
    rcases hown.2 with ⟨hn, hz0⟩ | ⟨blk, cap, cur, hvv, q1, q2, q3, q4, q5, q6⟩
    · have hcs : cs = [] := List.eq_nil_of_length_eq_zero (by rw [hown.1, hz0]; simp)
      have hown' : M.w.ownsRow M.w.heap.size e (ncell g) v xs.length cs := by rw [hn, hz0, hcs]; exact World.ownsRow_nil _ _ _ _
      obtain ⟨v2, w2, s1, s2, _⟩ := run_append_own (P := P) M.w M.w.heap.size t ty e ti z (ncell g) ti.bytes ht hi hz hs rfl hzs h0 v xs.length cs hown' a ys.length c ds hdl ha h1 hmax hbytes (Nat.le_refl _)
      rw [r1] at s1
      injection s1 with e1 e2
      subst e1; subst e2
      exact .inl ⟨fun k hk => (s2.lt k hk).1, ⟨r3.os, r3.tape, r3.output, r3.size, fun k hk => r3.block k hk (by rw [hn]; simp [Value.ownBlock])⟩⟩
    · subst hvv
      by_cases hroom : xs.length + ys.length ≤ cap
      · have hfit : xs.length * ti.size + ds.length ≤ cur.size := by rw [hdl, q5, hs, ← Nat.add_mul]; exact Nat.mul_le_mul_right _ hroom
        have s1 := run_append_room (P := P) M.w t ty e ti ht hi blk xs.length cap cur q2 a ys.length c ds (by rw [hs]; exact hdl) ha h1 hroom hfit
        rw [r1] at s1
        injection s1 with e1 e2
        subst e1
        refine .inr ⟨rfl, fun k o hk ho => ?_⟩
        have hkb : blk = k := by simpa [Value.ownBlock] using hk
        subst hkb
        rw [cell_of_row M.w blk o cur e (0, 0) q2, e2, cell_of_row _ blk o _ e (0, 0) (setRow_heap M.w blk cur _ e _ q2)]
        have hlen1 : xs.length * ncell g ≤ cur.toList.length := by
          have := Nat.mul_le_mul_right (ncell g) q3
          rw [← q5] at this
          exact this
        simp only [hs, List.getElem?_toArray, List.append_assoc]
        rw [List.getElem?_append_left (by rw [List.length_take]; omega), List.getElem?_take, if_pos ho]
        simp
      · have holds : ∀ (j : Nat) u, cs[j]? = some u → M.w.cell? ((⟨blk, 0, none⟩ : Addr).add j) = some u := hown.cells (g := blk) rfl
        have s1 := run_append_grow (P := P) M.w t ty e ti z ht hi hz ⟨blk, 0, none⟩ xs.length cap cs (by rw [hs]; exact hown.1) holds a ys.length c ds (by rw [hs]; exact hdl) ha (by omega) (by simp only [maxLen] at hmax; omega) (growslice_fits (by omega) hbytes)
        rw [r1] at s1
        injection s1 with e1 e2
        subst e1
        refine .inl ⟨fun k hk => ?_, by rw [e2]; exact (Grows.drew _).trans (Grows.alloc _ _)⟩
        simp [Value.ownBlock] at hk
        omega
  have hrun : ∃ v' w', (Builtin.append_ #[t, t] ty #[v, .slice ad ys.length c]).run P M.w = .ok v' w' ∧ w'.ownsRow 0 e (ncell g) v' (xs.length + ys.length) (cs ++ ds) ∧ M.w.grownBy w' v.ownBlock ∧ Two v' w' := by
    rcases hsrc with hy | ⟨a, ha, hcell⟩
    · subst hy
      have hd0 : ds = [] := hys
      subst hd0
      cases ad with
      | none => exact ⟨v, M.w, run_append_nothing (P := P) M.w t ty e ti (ncell g) ht hi 0 v xs.length c cs hown, by simpa using hown, ⟨rfl, rfl, rfl, Nat.le_refl _, fun _ _ _ => rfl⟩, .inr ⟨rfl, fun _ _ _ _ => rfl⟩⟩
      | some a => exact key a (fun j u hu => by simp at hu)
    · subst ha; exact key a hcell
  obtain ⟨v', w', r1, r2, r3, r4⟩ := hrun
  have hob : ∀ (u : Value) (n : Nat) (zs : List Value) (W : World), W.ownsRow 0 e (ncell g) u n zs → ∀ k, blkOf u = some k ↔ u.ownBlock = some k := by
    intro u n zs W hu k
    rcases hu.2 with ⟨hn, _⟩ | ⟨blk, cap, cur, hvv, _⟩
    · rw [hn]; simp [blkOf, Value.ownBlock]
    · rw [hvv]; simp [blkOf, Value.ownBlock]
  have hvb := hob v _ _ _ hown
  have hvb' := hob v' _ _ _ r2
  -- what was stable in the row's block lies in its head, and it was frozen
  have hS : ∀ k o, v.ownBlock = some k → M.S k o → fz' = true ∧ o < xs.length * ncell g := by
    intro k o hk hs'
    rcases hv with ⟨hn, _⟩ | ⟨d, fz, hb, hβ⟩
    · rw [hn] at hk; simp [Value.ownBlock] at hk
    · obtain ⟨_, _, _, _, _, _, h6⟩ := I.boxes b d _ hb
      rw [hfz d fz hb]
      exact (h6 k (by rw [hβ]; exact (hvb k).2 hk)).2 o hs'
  have hkeep : Keeps M.S M.S M.w w' := by
    intro k o hs'
    refine ⟨hs', ?_⟩
    rcases r4 with ⟨_, hg⟩ | ⟨_, hh⟩
    · exact cell_of_heap (hg.block k (I.here k o hs').2)
    · by_cases hk : v.ownBlock = some k
      · exact hh k o hk (hS k o hk hs').2
      · exact cell_of_heap (r3.block k (I.here k o hs').2 (fun he => hk he.symm))
  have hnewv : ∀ k, v.ownBlock = some k → R.new k := by
    intro k hk
    rcases hv with ⟨hn, _⟩ | ⟨d, fz, hb, hβ⟩
    · rw [hn] at hk; simp [Value.ownBlock] at hk
    · exact (I.boxes b d _ hb).new k (by rw [hβ]; exact (hvb k).2 hk)
  have hB : RelB R w' M.S v' (.row e g (xs ++ ys) fz') := by
    refine ⟨cs ++ ds, by simpa using r2, encL_append (encL_mono (fun _ _ hh => hh.keeps hkeep) henc) (encL_mono (fun _ _ hh => hh.keeps hkeep) hys), ?_, by simpa using hlen, h0, fun blk hblk => ?_⟩
    · rw [List.length_append]
      exact Nat.le_trans (Nat.mul_le_mul_left _ hlb) hbytes
    · have hblk' := (hvb' blk).1 hblk
      rcases r4 with ⟨hnew, hg⟩ | ⟨hsame, hh⟩
      · have := hnew blk hblk'
        exact ⟨.inl (Nat.le_trans I.size this), fun o ho => absurd (I.here _ o ho).2 (Nat.not_lt.2 this)⟩
      · rw [hsame] at hblk'
        refine ⟨hnewv blk hblk', fun o ho => ?_⟩
        have := hS blk o hblk' ho
        refine ⟨this.1, Nat.lt_of_lt_of_le this.2 (Nat.mul_le_mul_right _ (by simp))⟩
  refine ⟨v', w', r1, I.setBox b _ true r3.os r3.tape r3.output r3.size ?_ hkeep (fun _ _ h => .inl h) hB ?_, hkeep, fun c' dc Bc hc hcb => ?_⟩
  · intro k hk hne
    refine r3.block k hk (fun he => ?_)
    rcases hv with ⟨hn, _⟩ | ⟨d, fz, hb, hβ⟩
    · rw [hn] at he; simp [Value.ownBlock] at he
    · exact hne d _ hb (by rw [hβ]; exact (hvb k).2 he.symm)
  · intro k hk
    have hk' := (hvb' k).1 hk
    rcases r4 with ⟨hnew, hg⟩ | ⟨hsame, hh⟩
    · exact .inl (hnew k hk')
    · rw [hsame] at hk'
      rcases hv with ⟨hn, _⟩ | ⟨d, fz, hb, hβ⟩
      · rw [hn] at hk'; simp [Value.ownBlock] at hk'
      · exact .inr ⟨⟨d, _, hb⟩, by rw [hβ]; exact (hvb k).2 hk'⟩
  · exact ⟨dc, Bc, by simp only [lk_st]; simp [show c' ≠ b from hcb, hc], by simp [show c' ≠ b from hcb], Box.le_refl Bc⟩
end Go.Ev
