/- Stores and appends, told of boxes. -/
import Derived.Laws.StructEq
import Derived.Laws.BytesString
import Derived.Test.YtohodbfoeejbjaaDoorTextConfAll1

set_option linter.unusedVariables false
namespace Go.Ev

theorem setRow_size (w : World) (g : Nat) (cs : Array Value) : (w.setRow g cs).heap.size = w.heap.size := by simp [World.setRow]

theorem InvM.store {R : Ref} {P : Program} {M : Mem} (I : InvM R M) {b : Nat} {d : Bool} {g : GTy} {x : den g} (hb : lk b M.bs = some (d, .var g x)) {p : List PStep} {h : GTy} {v : den h} {z : den g} {vs : List Value} {blk : Nat}
    (hu : upd g x p ⟨h, v⟩ = some z) (hp : inB g p) (hv : Enc M.w M.S h v vs) (hβ : blkOf (M.β b) = some blk) :
    ∃ w', (storeCells ⟨blk, offs g p, none⟩ vs).run P M.w = .ok () w' ∧ InvM R { M with w := w', bs := st' b (true, .var g z) M.bs } ∧ Step M { M with w := w', bs := st' b (true, .var g z) M.bs } (fun _ => False) := by
  obtain ⟨blk', cs, e, hv', h2, h3, h4, h5⟩ := I.boxes b d _ hb
  have hbb : blk' = blk := by rw [hv'] at hβ; simpa [blkOf] using hβ
  subst hbb
  obtain ⟨a, c, r, k1, k2, k3, k4⟩ := Enc.upd p h3 hu hp hv
  have hlen := hv.len
  have hsz : cs.size = (a ++ c ++ r).length := by rw [← k1]; simp
  have hst := run_storeCells_at P blk' (offs g p) e vs 0 cs M.w h2 (by rw [hsz, ← k2]; simp; omega) (fun u hu => hv.one u hu)
  simp only [Nat.add_zero] at hst
  have hcells : (cs.toList.take (offs g p) ++ vs ++ cs.toList.drop (offs g p + vs.length)).toArray = (a ++ vs ++ r).toArray := by
    congr 1
    rw [k1, ← k2, hlen, ← k3]
    have e1 : (a ++ c ++ r).take a.length = a := by rw [List.append_assoc, List.take_left' rfl]
    have e2 : (a ++ c ++ r).drop (a.length + c.length) = r := by rw [← List.length_append, List.drop_left' rfl]
    rw [e1, e2]
  rw [hcells] at hst
  have hk : Keeps M.S M.S M.w (M.w.setRow blk' (a ++ vs ++ r).toArray) := fun y o hs => ⟨hs, cell_of_heap (setRow_other _ _ _ _ (fun hy => by subst hy; exact h4 o hs))⟩
  have hB : RelB R (M.w.setRow blk' (a ++ vs ++ r).toArray) M.S (M.β b) (.var g z) :=
    ⟨blk', _, e, hv', setRow_heap _ _ _ _ _ _ h2, by simpa using k4.keeps hk, h4, h5⟩
  have J := I.setBox (w' := M.w.setRow blk' (a ++ vs ++ r).toArray) (S' := M.S) (v' := M.β b) b (.var g z) true rfl rfl rfl (by rw [setRow_size]; exact Nat.le_refl _)
    (fun k _ hne => setRow_other _ _ _ _ (fun hk => hne d _ hb (by rw [hβ, hk]))) hk (fun _ _ h => .inl h) hB (fun k h => .inr ⟨⟨d, _, hb⟩, h⟩)
  have hbeta : (fun c => if c = b then M.β b else M.β c) = M.β := by funext c; split; (rename_i hcb; rw [hcb]); rfl
  rw [hbeta] at J
  refine ⟨_, hst, J, hk, fun c' dc Bc hc _ => ?_⟩
  simp only [lk_st]
  by_cases hcb : c' = b
  · subst hcb
    rw [hb] at hc
    simp only [Option.some.injEq, Prod.mk.injEq] at hc
    obtain ⟨rfl, rfl⟩ := hc
    exact ⟨true, .var g z, by simp, trivial, ⟨fun g' p hp => hp, fun h => h⟩⟩
  · exact ⟨dc, Bc, by simp only [hcb, if_false]; exact hc, trivial, Box.le_refl _⟩

theorem upd_len {a : GTy} {n m : Nat} {x : den (.arr n a)} {p : List PStep} {v : (h : GTy) × den h} {z : den (.arr n a)} (hp : p ≠ []) (h : upd (.arr n a) x p v = some z) : List.length (α := den a) z = List.length (α := den a) x ∧ upd (.arr m a) x p v = some z := by
  match p, hp with
  | .idx i :: p, _ =>
    simp only [upd] at h ⊢
    split at h
    · rename_i y hy
      simp only [Option.some.injEq] at h
      subst h
      exact ⟨by simp, rfl⟩
    · cases h
  | .fst :: p, _ => simp [upd] at h
  | .snd :: p, _ => simp [upd] at h

theorem sub_any {a : GTy} {n m : Nat} {x : den (.arr n a)} {p : List PStep} {v : (h : GTy) × den h} (hp : p ≠ []) (h : Ev.sub (.arr n a) x p = some v) : Ev.sub (.arr m a) x p = some v := by
  match p, hp with
  | .idx i :: p, _ => simpa only [Ev.sub] using h
  | .fst :: p, _ => simp [Ev.sub] at h
  | .snd :: p, _ => simp [Ev.sub] at h

theorem offs_any {a : GTy} {n m : Nat} {p : List PStep} : offs (.arr n a) p = offs (.arr m a) p := by
  match p with
  | [] => rfl
  | .idx i :: p => rfl
  | .fst :: p => rfl
  | .snd :: p => rfl

theorem InvM.storeRow {R : Ref} {P : Program} {M : Mem} (I : InvM R M) {b : Nat} {d : Bool} {el : Nat} {g : GTy} {xs : List (den g)} (hb : lk b M.bs = some (d, .row el g xs false)) {p : List PStep} {h : GTy} {v : den h} {z : List (den g)} {vs : List Value} {blk : Nat}
    (hu : upd (.arr 0 g) xs p ⟨h, v⟩ = some z) (hp : okPath (.row el g xs false) (.arr 0 g) p) (hv : Enc M.w M.S h v vs) (hβ : blkOf (M.β b) = some blk) :
    ∃ w', (storeCells ⟨blk, offs (.arr 0 g) p, none⟩ vs).run P M.w = .ok () w' ∧ InvM R { M with w := w', bs := st' b (true, .row el g z false) M.bs } ∧ Step M { M with w := w', bs := st' b (true, .row el g z false) M.bs } (fun _ => False) := by
  obtain ⟨cs, h1, h2, h3, h4, h5, h6⟩ := I.boxes b d _ hb
  obtain ⟨_, i, q, hpq, hi, hq⟩ := hp
  have hpne : p ≠ [] := by rw [hpq]; simp
  obtain ⟨hzl, hu'⟩ := upd_len (m := xs.length) hpne hu
  have henc : Enc M.w M.S (.arr xs.length g) xs cs := ⟨rfl, h2⟩
  have hin : inB (.arr xs.length g) p := by rw [hpq]; exact ⟨hi, hq⟩
  obtain ⟨a, c, r, k1, k2, k3, k4⟩ := Enc.upd p henc hu' hin hv
  have hlen := hv.len
  rcases h1.2 with ⟨hn, _⟩ | ⟨blk', cap, cur, hv', r1, r2, r3, r4, r5, r6⟩
  · rw [hn] at hβ; simp [blkOf] at hβ
  have hbb : blk' = blk := by rw [hv'] at hβ; simpa [blkOf] using hβ
  subst hbb
  have hcur : cur.toList = cs ++ cur.toList.drop (xs.length * ncell g) := by conv => lhs; rw [← List.take_append_drop (xs.length * ncell g) cur.toList, r6]
  have hcl : cs.length = xs.length * ncell g := h1.1
  have hol : offs (.arr xs.length g) p + vs.length + r.length = cs.length := by rw [k1, ← k2]; simp; omega
  have hsz : cs.length ≤ cur.size := by rw [hcl, r5]; exact Nat.mul_le_mul_right _ r3
  have hst := run_storeCells_at P blk' (offs (.arr 0 g) p) el vs 0 cur M.w r2 (by rw [offs_any (m := xs.length)]; omega) (fun u hu => hv.one u hu)
  simp only [Nat.add_zero] at hst
  have hcells : (cur.toList.take (offs (.arr 0 g) p) ++ vs ++ cur.toList.drop (offs (.arr 0 g) p + vs.length)) = (a ++ vs ++ r) ++ cur.toList.drop (xs.length * ncell g) := by
    rw [offs_any (m := xs.length), hcur, k1, ← k2, hlen, ← k3]
    have e1 : (a ++ c ++ r ++ cur.toList.drop (xs.length * ncell g)).take a.length = a := by rw [List.append_assoc, List.append_assoc, List.take_left' rfl]
    have e2 : (a ++ c ++ r ++ cur.toList.drop (xs.length * ncell g)).drop (a.length + c.length) = r ++ cur.toList.drop (xs.length * ncell g) := by rw [← List.length_append, List.append_assoc, List.drop_left' rfl]
    have e3 : (a ++ c ++ r ++ cur.toList.drop (xs.length * ncell g)).drop (xs.length * ncell g) = cur.toList.drop (xs.length * ncell g) := by
      rw [← k1]; rw [← hcl]; exact List.drop_left' rfl
    rw [e1, e2, e3]; simp
  rw [hcells] at hst
  have hk : Keeps M.S M.S M.w (M.w.setRow blk' (a ++ vs ++ r ++ cur.toList.drop (xs.length * ncell g)).toArray) := fun y o hs => ⟨hs, cell_of_heap (setRow_other _ _ _ _ (fun hy => by
    subst hy
    have := ((h6 _ hβ).2 o hs).1
    cases this))⟩
  have hnl : (a ++ vs ++ r).length = xs.length * ncell g := by rw [← hcl, k1]; simp; omega
  have hB : RelB R (M.w.setRow blk' (a ++ vs ++ r ++ cur.toList.drop (xs.length * ncell g)).toArray) M.S (M.β b) (.row el g z false) := by
    have hzl' : List.length z = xs.length := hzl
    refine ⟨a ++ vs ++ r, ⟨by rw [hzl', hnl], .inr ⟨blk', cap, _, by rw [hv', hzl'], r1, setRow_heap _ _ _ _ _ _ r2, by rw [hzl']; exact r3, r4, ?_, ?_⟩⟩, encL_mono (fun _ _ hh => hh.keeps hk) k4.2, by rw [hzl']; exact h3, by rw [hzl']; exact h4, h5, fun y hy => ⟨(h6 y hy).1, fun o ho => by rw [hzl']; exact (h6 y hy).2 o ho⟩⟩
    · have e1 : cur.toList.length = cap * ncell g := by rw [← r5]; rfl
      have e2 : (a ++ vs ++ r ++ cur.toList.drop (xs.length * ncell g)).length = cap * ncell g := by
        rw [List.length_append, hnl, List.length_drop, e1]
        have := Nat.mul_le_mul_right (ncell g) r3
        omega
      exact e2
    · rw [hzl', ← hnl]
      exact List.take_left' rfl
  have J := I.setBox (w' := M.w.setRow blk' (a ++ vs ++ r ++ cur.toList.drop (xs.length * ncell g)).toArray) (S' := M.S) (v' := M.β b) b (.row el g z false) true rfl rfl rfl (by rw [setRow_size]; exact Nat.le_refl _)
    (fun k _ hne => setRow_other _ _ _ _ (fun hk => hne d _ hb (by rw [hβ, hk]))) hk (fun _ _ h => .inl h) hB (fun k h => .inr ⟨⟨d, _, hb⟩, h⟩)
  have hbeta : (fun c => if c = b then M.β b else M.β c) = M.β := by funext c; split; (rename_i hcb; rw [hcb]); rfl
  rw [hbeta] at J
  refine ⟨_, hst, J, hk, fun c' dc Bc hc _ => ?_⟩
  simp only [lk_st]
  by_cases hcb : c' = b
  · subst hcb
    rw [hb] at hc
    simp only [Option.some.injEq, Prod.mk.injEq] at hc
    obtain ⟨rfl, rfl⟩ := hc
    refine ⟨true, .row el g z false, by simp, trivial, ⟨fun g' p hp => ?_, fun h => h⟩⟩
    obtain ⟨e1, i', q', e2, e3, e4⟩ := hp
    exact ⟨e1, i', q', e2, by rw [show List.length z = xs.length from hzl]; exact e3, e4⟩
  · exact ⟨dc, Bc, by simp only [hcb, if_false]; exact hc, trivial, Box.le_refl _⟩

section
variable {P : Program} (w : World)
theorem run_append_nothing (t ty e : TypeId) (i : TypeInfo) (size : Nat) (ht : P.underlying t = some (.slice e)) (hi : P.info? e = some i)
    (base : Nat) (v : Value) (n c : Nat) (xs : List Value) (hown : w.ownsRow base e size v n xs) :
    (Builtin.append_ #[t, t] ty #[v, .slice none 0 c]).run P w = .ok v w := by
  rcases hown.2 with ⟨rfl, rfl⟩ | ⟨g, cap, cur, rfl, _, _, hnc, _⟩
  · simp [Builtin.append_, run_underlying ht, sizeOf, typeInfo, hi, Builtin.lenOf, Builtin.firstCells]
  · simp [Builtin.append_, run_underlying ht, sizeOf, typeInfo, hi, Builtin.lenOf, Builtin.firstCells, hnc, storeCells]
end

theorem encL_append {α : Type} {f : α → List Value → Prop} : ∀ {xs ys : List α} {cs ds : List Value}, encL f xs cs → encL f ys ds → encL f (xs ++ ys) (cs ++ ds)
  | [], _, _, _, h, k => by rw [show _ = [] from h]; exact k
  | _ :: _, _, _, _, ⟨c, d, e, a, b⟩, k => ⟨c, d ++ _, by rw [e, List.append_assoc], a, encL_append b k⟩

/-- 'append' onto a row (or onto nothing). -/
theorem InvM.append {R : Ref} {P : Program} {M : Mem} (I : InvM R M) {t ty e : TypeId} {ti : TypeInfo} {z : Value} {g : GTy} (ht : P.underlying t = some (.slice e)) (hi : P.info? e = some ti) (hz : ti.zero = some z) (hs : ti.size = ncell g)
    (hzs : z.cells.size = ncell g) (h0 : 0 < ncell g) (hlb : lbytes g ≤ ti.bytes)
    {v : Value} {xs : List (den g)} {cs : List Value} (hown : M.w.ownsRow 0 e (ncell g) v xs.length cs) (henc : encL (Enc M.w M.S g) xs cs)
    (b : Nat) (hv : (v = .slice none 0 0 ∧ ∀ d B, lk b M.bs = some (d, B) → M.β b = v) ∨ (∃ d fz, lk b M.bs = some (d, .row e g xs fz) ∧ M.β b = v)) (fz' : Bool) (hfz : ∀ d fz, lk b M.bs = some (d, .row e g xs fz) → fz' = fz)
    {ad : Option Addr} {c : Nat} {ys : List (den g)} {ds : List Value} (hys : encL (Enc M.w M.S g) ys ds) (hsrc : ys = [] ∨ ∃ a, ad = some a ∧ ∀ (j : Nat) u, ds[j]? = some u → M.w.cell? (a.add j) = some u)
    (hbytes : (xs.length + ys.length) * ti.bytes ≤ maxRow) (hlen : xs.length + ys.length ≤ maxRow) :
    ∃ v' w', (Builtin.append_ #[t, t] ty #[v, .slice ad ys.length c]).run P M.w = .ok v' w' ∧
      InvM R { w := w', S := M.S, β := fun k => if k = b then v' else M.β k, bs := st' b (true, .row e g (xs ++ ys) fz') M.bs } ∧
      Step M { w := w', S := M.S, β := fun k => if k = b then v' else M.β k, bs := st' b (true, .row e g (xs ++ ys) fz') M.bs } (fun k => k = b) := by
  have hdl : ds.length = ys.length * ncell g := encL_len (fun _ _ hh => hh.len) hys
  have hmax : xs.length + ys.length ≤ maxLen := by simp only [maxRow] at hlen; simp only [maxLen]; omega
  -- either all that was there is aas it was, and the row lies in a new block; or it lies where it lay, and its head is aas it was
  let Two (v' : Value) (w' : World) : Prop := ((∀ k, v'.ownBlock = some k → M.w.heap.size ≤ k) ∧ Grows M.w w') ∨
    (v'.ownBlock = v.ownBlock ∧ ∀ k o, v.ownBlock = some k → o < xs.length * ncell g → w'.cell? ⟨k, o, none⟩ = M.w.cell? ⟨k, o, none⟩)
  have key : ∀ a, (∀ (j : Nat) u, ds[j]? = some u → M.w.cell? (a.add j) = some u) → ∃ v' w', (Builtin.append_ #[t, t] ty #[v, .slice (some a) ys.length c]).run P M.w = .ok v' w' ∧ w'.ownsRow 0 e (ncell g) v' (xs.length + ys.length) (cs ++ ds) ∧ M.w.grownBy w' v.ownBlock ∧ Two v' w' := by
    intro a ha
    have h1 : ∀ u ∈ ds, u.oneCell' = true := fun u hu => encL_one (fun _ _ hh => hh.one) hys u hu
    obtain ⟨v', w', r1, r2, r3, r4⟩ := run_append_own (P := P) M.w 0 t ty e ti z (ncell g) ti.bytes ht hi hz hs rfl hzs h0 v xs.length cs hown a ys.length c ds hdl ha h1 hmax hbytes (Nat.zero_le _)
    refine ⟨v', w', r1, r2, r3, ?_⟩
    rcases hown.2 with ⟨hn, hz0⟩ | ⟨blk, cap, cur, hvv, q1, q2, q3, q4, q5, q6⟩
    · have hcs : cs = [] := List.eq_nil_of_length_eq_zero (by rw [hown.1, hz0]; simp)
      have hown' : M.w.ownsRow M.w.heap.size e (ncell g) v xs.length cs := by rw [hn, hz0, hcs]; exact World.ownsRow_nil _ _ _ _
      obtain ⟨v2, w2, s1, s2, _⟩ := run_append_own (P := P) M.w M.w.heap.size t ty e ti z (ncell g) ti.bytes ht hi hz hs rfl hzs h0 v xs.length cs hown' a ys.length c ds hdl ha h1 hmax hbytes (Nat.le_refl _)
      rw [r1] at s1
      injection s1 with e1 e2
      subst e1; subst e2
      exact .inl ⟨fun k hk => (s2.lt k hk).1, ⟨r3.os, r3.tape, r3.output, r3.size, fun k hk => r3.block k hk (by rw [hn]; simp [Value.ownBlock])⟩⟩
    · subst hvv
      by_cases hroom : xs.length + ys.length ≤ cap
      · have hfit : xs.length * ti.size + ds.length ≤ cur.size := by rw [hdl, q5, hs, ← Nat.add_mul]; exact Nat.mul_le_mul_right _ hroom
        have s1 := run_append_room (P := P) M.w t ty e ti ht hi blk xs.length cap cur q2 a ys.length c ds (by rw [hs]; exact hdl) ha h1 hroom hfit
        rw [r1] at s1
        injection s1 with e1 e2
        subst e1
        refine .inr ⟨rfl, fun k o hk ho => ?_⟩
        have hkb : blk = k := by simpa [Value.ownBlock] using hk
        subst hkb
        rw [cell_of_row M.w blk o cur e (0, 0) q2, e2, cell_of_row _ blk o _ e (0, 0) (setRow_heap M.w blk cur _ e _ q2)]
        have hlen1 : xs.length * ncell g ≤ cur.toList.length := by
          have := Nat.mul_le_mul_right (ncell g) q3
          rw [← q5] at this
          exact this
        simp only [hs, List.getElem?_toArray, List.append_assoc]
        rw [List.getElem?_append_left (by rw [List.length_take]; omega), List.getElem?_take, if_pos ho]
        simp
      · have holds : ∀ (j : Nat) u, cs[j]? = some u → M.w.cell? ((⟨blk, 0, none⟩ : Addr).add j) = some u := hown.cells (g := blk) rfl
        have s1 := run_append_grow (P := P) M.w t ty e ti z ht hi hz ⟨blk, 0, none⟩ xs.length cap cs (by rw [hs]; exact hown.1) holds a ys.length c ds (by rw [hs]; exact hdl) ha (by omega) (by simp only [maxLen] at hmax; omega) (growslice_fits (by omega) hbytes)
        rw [r1] at s1
        injection s1 with e1 e2
        subst e1
        refine .inl ⟨fun k hk => ?_, by rw [e2]; exact (Grows.drew _).trans (Grows.alloc _ _)⟩
        simp [Value.ownBlock] at hk
        omega
  have hrun : ∃ v' w', (Builtin.append_ #[t, t] ty #[v, .slice ad ys.length c]).run P M.w = .ok v' w' ∧ w'.ownsRow 0 e (ncell g) v' (xs.length + ys.length) (cs ++ ds) ∧ M.w.grownBy w' v.ownBlock ∧ Two v' w' := by
    rcases hsrc with hy | ⟨a, ha, hcell⟩
    · subst hy
      have hd0 : ds = [] := hys
      subst hd0
      cases ad with
      | none => exact ⟨v, M.w, run_append_nothing (P := P) M.w t ty e ti (ncell g) ht hi 0 v xs.length c cs hown, by simpa using hown, ⟨rfl, rfl, rfl, Nat.le_refl _, fun _ _ _ => rfl⟩, .inr ⟨rfl, fun _ _ _ _ => rfl⟩⟩
      | some a => exact key a (fun j u hu => by simp at hu)
    · subst ha; exact key a hcell
  obtain ⟨v', w', r1, r2, r3, r4⟩ := hrun
  have hob : ∀ (u : Value) (n : Nat) (zs : List Value) (W : World), W.ownsRow 0 e (ncell g) u n zs → ∀ k, blkOf u = some k ↔ u.ownBlock = some k := by
    intro u n zs W hu k
    rcases hu.2 with ⟨hn, _⟩ | ⟨blk, cap, cur, hvv, _⟩
    · rw [hn]; simp [blkOf, Value.ownBlock]
    · rw [hvv]; simp [blkOf, Value.ownBlock]
  have hvb := hob v _ _ _ hown
  have hvb' := hob v' _ _ _ r2
  -- what was stable in the row's block lies in its head, and it was frozen
  have hS : ∀ k o, v.ownBlock = some k → M.S k o → fz' = true ∧ o < xs.length * ncell g := by
    intro k o hk hs'
    rcases hv with ⟨hn, _⟩ | ⟨d, fz, hb, hβ⟩
    · rw [hn] at hk; simp [Value.ownBlock] at hk
    · obtain ⟨_, _, _, _, _, _, h6⟩ := I.boxes b d _ hb
      rw [hfz d fz hb]
      exact (h6 k (by rw [hβ]; exact (hvb k).2 hk)).2 o hs'
  have hkeep : Keeps M.S M.S M.w w' := by
    intro k o hs'
    refine ⟨hs', ?_⟩
    rcases r4 with ⟨_, hg⟩ | ⟨_, hh⟩
    · exact cell_of_heap (hg.block k (I.here k o hs').2)
    · by_cases hk : v.ownBlock = some k
      · exact hh k o hk (hS k o hk hs').2
      · exact cell_of_heap (r3.block k (I.here k o hs').2 (fun he => hk he.symm))
  have hnewv : ∀ k, v.ownBlock = some k → R.new k := by
    intro k hk
    rcases hv with ⟨hn, _⟩ | ⟨d, fz, hb, hβ⟩
    · rw [hn] at hk; simp [Value.ownBlock] at hk
    · exact (I.boxes b d _ hb).new k (by rw [hβ]; exact (hvb k).2 hk)
  have hB : RelB R w' M.S v' (.row e g (xs ++ ys) fz') := by
    refine ⟨cs ++ ds, by simpa using r2, encL_append (encL_mono (fun _ _ hh => hh.keeps hkeep) henc) (encL_mono (fun _ _ hh => hh.keeps hkeep) hys), ?_, by simpa using hlen, h0, fun blk hblk => ?_⟩
    · rw [List.length_append]
      exact Nat.le_trans (Nat.mul_le_mul_left _ hlb) hbytes
    · have hblk' := (hvb' blk).1 hblk
      rcases r4 with ⟨hnew, hg⟩ | ⟨hsame, hh⟩
      · have := hnew blk hblk'
        exact ⟨.inl (Nat.le_trans I.size this), fun o ho => absurd (I.here _ o ho).2 (Nat.not_lt.2 this)⟩
      · rw [hsame] at hblk'
        refine ⟨hnewv blk hblk', fun o ho => ?_⟩
        have := hS blk o hblk' ho
        refine ⟨this.1, Nat.lt_of_lt_of_le this.2 (Nat.mul_le_mul_right _ (by simp))⟩
  refine ⟨v', w', r1, I.setBox b _ true r3.os r3.tape r3.output r3.size ?_ hkeep (fun _ _ h => .inl h) hB ?_, hkeep, fun c' dc Bc hc hcb => ?_⟩
  · intro k hk hne
    refine r3.block k hk (fun he => ?_)
    rcases hv with ⟨hn, _⟩ | ⟨d, fz, hb, hβ⟩
    · rw [hn] at he; simp [Value.ownBlock] at he
    · exact hne d _ hb (by rw [hβ]; exact (hvb k).2 he.symm)
  · intro k hk
    have hk' := (hvb' k).1 hk
    rcases r4 with ⟨hnew, hg⟩ | ⟨hsame, hh⟩
    · exact .inl (hnew k hk')
    · rw [hsame] at hk'
      rcases hv with ⟨hn, _⟩ | ⟨d, fz, hb, hβ⟩
      · rw [hn] at hk'; simp [Value.ownBlock] at hk'
      · exact .inr ⟨⟨d, _, hb⟩, by rw [hβ]; exact (hvb k).2 hk'⟩
  · exact ⟨dc, Bc, by simp only [lk_st]; simp [show c' ≠ b from hcb, hc], by simp [show c' ≠ b from hcb], Box.le_refl Bc⟩
end Go.Ev
/- Values that are kept. -/
set_option linter.unusedVariables false
namespace Go.Ev

def applyB : List (Nat × Bool × Box) → Bxs → Bxs
  | [], bs => bs
  | x :: l, bs => applyB l (st' x.1 (true, x.2.2) bs)

theorem applyB_append : ∀ (a b : List (Nat × Bool × Box)) (bs : Bxs), applyB (a ++ b) bs = applyB b (applyB a bs)
  | [], _, _ => rfl
  | x :: a, b, bs => applyB_append a b _

def killed (ws : List (Nat × Bool × Box)) (b : Nat) : Prop := ∃ B, (b, true, B) ∈ ws

def Box.fz : Box → Box
  | .var g x => .var g x
  | .row e g xs _ => .row e g xs true
  | .iter y p => .iter y p

def argOf (bs : Bxs) (v : AV) : Arg := (v, match boxOf v with | some b => (lk b bs).map (·.2) | none => none)

/-- Rows may have been frozen since; nothing else has turned. -/
structure Froze (R : Ref) (M M' : Mem) : Prop where
  w : M'.w = M.w
  β : M'.β = M.β
  inv : InvM R M'
  step : Step M M' (fun _ => False)
  same : ∀ b d B, lk b M.bs = some (d, B) → ∃ d' B', lk b M'.bs = some (d', B') ∧ B.fz = B'.fz

theorem Froze.refl {R : Ref} {M : Mem} (I : InvM R M) : Froze R M M := ⟨rfl, rfl, I, Step.refl _ _, fun b d B h => ⟨d, B, h, rfl⟩⟩
theorem Froze.trans {R : Ref} {M M' M'' : Mem} (h : Froze R M M') (k : Froze R M' M'') : Froze R M M'' :=
  ⟨k.w.trans h.w, k.β.trans h.β, k.inv, (h.step.trans k.step).mono (fun _ h => h.elim id id), fun b d B hb => by
    obtain ⟨d1, B1, h1, h2⟩ := h.same b d B hb
    obtain ⟨d2, B2, k1, k2⟩ := k.same b d1 B1 h1
    exact ⟨d2, B2, k1, h2.trans k2⟩⟩

/-- An argument, looked up in an elder memory. -/
structure ArgR (M : Mem) (a : Arg) (u : Value) : Prop where
  rel : RelV M a.1 u
  box : ∀ b B, boxOf a.1 = some b → a.2 = some B → ∃ d B', lk b M.bs = some (d, B') ∧ B.fz = B'.fz

theorem ArgR.of {M : Mem} {v : AV} {u : Value} (h : RelV M v u) : ArgR M (argOf M.bs v) u := ⟨h, fun b B hb hB => by
  simp only [argOf] at hb hB
  rw [hb] at hB
  cases hl : lk b M.bs with
  | none => simp [hl] at hB
  | some x =>
    simp [hl] at hB
    exact ⟨x.1, x.2, rfl, by rw [hB]⟩⟩

theorem ArgR.froze {R : Ref} {M M' : Mem} (h : Froze R M M') {a : Arg} {u : Value} (k : ArgR M a u) : ArgR M' a u :=
  ⟨k.rel.steps h.step, fun b B hb hB => by
    obtain ⟨d, B', h1, h2⟩ := k.box b B hb hB
    obtain ⟨d', B'', h3, h4⟩ := h.same b d B' h1
    exact ⟨d', B'', h3, h2.trans h4⟩⟩

theorem asVal_sound {M : Mem} {v : AV} {u : Value} {g : GTy} {x : den g} (h : RelV M v u) (ha : asVal g v = some x) : ∃ cs, Enc M.w M.S g x cs ∧ u = toVal g cs := by
  unfold asVal at ha
  split at ha
  · rename_i h' x'
    split at ha
    · rename_i e _
      subst e
      simp only [Option.some.injEq] at ha
      subst ha
      simpa [RelV] using h
    · cases ha
  · split at ha
    · rename_i a
      simp only [Option.some.injEq] at ha
      subst ha
      simp only [RelV] at h
      subst h
      exact ⟨[.slice none 0 0], ⟨none, 0, rfl, Nat.le_refl _, by simp, Nat.zero_le _, .inl rfl⟩, rfl⟩
    · cases ha
  · cases ha

theorem take_sound {R : Ref} {M : Mem} (I : InvM R M) {a : Arg} {u : Value} {g : GTy} {x : den g} {ws : List (Nat × Bool × Box)} (h : ArgR M a u) (ht : take g a = some (x, ws)) :
    (∀ b, ¬ killed ws b) ∧ ∃ S', Froze R M { M with S := S', bs := applyB ws M.bs } ∧ ∃ cs, Enc M.w S' g x cs ∧ u = toVal g cs := by
  unfold take at ht
  split at ht
  · rename_i b t hh xs f
    split at ht
    · rename_i e _
      subst e
      simp only [Option.some.injEq, Prod.mk.injEq] at ht
      obtain ⟨rfl, rfl⟩ := ht
      obtain ⟨d, B', h1, h2⟩ := h.box b _ rfl rfl
      have hB' : ∃ f', B' = .row t hh xs f' := by
        cases B' with
        | var _ _ => simp [Box.fz] at h2
        | iter _ _ => simp [Box.fz] at h2
        | row t' g' xs' f' =>
          simp only [Box.fz, Box.row.injEq] at h2
          obtain ⟨rfl, rfl, h3, _⟩ := h2
          cases eq_of_heq h3
          exact ⟨f', rfl⟩
      obtain ⟨f', rfl⟩ := hB'
      obtain ⟨S', J, s, en⟩ := I.freeze h1
      refine ⟨fun b' hk => by obtain ⟨B, hB⟩ := hk; simp at hB, S', ⟨rfl, rfl, J, s, fun c dc Bc hc => ?_⟩, [M.β b], en, ?_⟩
      · simp only [applyB, lk_st]
        by_cases hcb : c = b
        · subst hcb
          rw [h1] at hc
          simp only [Option.some.injEq, Prod.mk.injEq] at hc
          obtain ⟨rfl, rfl⟩ := hc
          exact ⟨true, .row t hh xs true, by simp, rfl⟩
        · exact ⟨dc, Bc, by simp only [hcb, if_false]; exact hc, rfl⟩
      · have := h.rel
        simp only [RelV] at this
        exact this.2
    · cases ht
  · rename_i v b' hne
    split at ht
    · rename_i x' hx
      simp only [Option.some.injEq, Prod.mk.injEq] at ht
      obtain ⟨rfl, rfl⟩ := ht
      obtain ⟨cs, h1, h2⟩ := asVal_sound h.rel hx
      exact ⟨fun b' hk => by obtain ⟨B, hB⟩ := hk; simp at hB, M.S, Froze.refl I, cs, h1, h2⟩
    · cases ht

theorem killed_append {a b : List (Nat × Bool × Box)} {c : Nat} : killed (a ++ b) c ↔ killed a c ∨ killed b c := by
  constructor
  · rintro ⟨B, hB⟩
    rw [List.mem_append] at hB
    exact hB.imp (fun h => ⟨B, h⟩) (fun h => ⟨B, h⟩)
  · rintro (⟨B, hB⟩ | ⟨B, hB⟩)
    · exact ⟨B, List.mem_append.2 (.inl hB)⟩
    · exact ⟨B, List.mem_append.2 (.inr hB)⟩

/-- Several values. -/
def EncD (w : World) (S : Stab) : (gs : List GTy) → dens gs → List Value → Prop
  | [], _, us => us = []
  | [g], x, us => ∃ cs, Enc w S g x cs ∧ us = [toVal g cs]
  | g :: h :: gs, x, us => ∃ cs us', Enc w S g x.1 cs ∧ us = toVal g cs :: us' ∧ EncD w S (h :: gs) x.2 us'

theorem EncD.keeps {S S' : Stab} {w w' : World} (h : Keeps S S' w w') : ∀ {gs : List GTy} {x : dens gs} {us : List Value}, EncD w S gs x us → EncD w' S' gs x us
  | [], _, _, e => e
  | [_], _, _, ⟨cs, h1, h2⟩ => ⟨cs, h1.keeps h, h2⟩
  | _ :: _ :: _, _, _, ⟨cs, us', h1, h2, h3⟩ => ⟨cs, us', h1.keeps h, h2, EncD.keeps h h3⟩

def ArgsR (M : Mem) : List Arg → List Value → Prop
  | [], [] => True
  | a :: l, u :: us => ArgR M a u ∧ ArgsR M l us
  | _, _ => False

theorem ArgsR.froze {R : Ref} {M M' : Mem} (h : Froze R M M') : ∀ {l : List Arg} {us : List Value}, ArgsR M l us → ArgsR M' l us
  | [], [], _ => trivial
  | _ :: _, _ :: _, k => ⟨k.1.froze h, ArgsR.froze h k.2⟩
  | [], _ :: _, k => k.elim
  | _ :: _, [], k => k.elim

theorem ArgsR.of {M : Mem} : ∀ {l : List AV} {us : List Value}, RelL M l us → ArgsR M (l.map (argOf M.bs)) us
  | [], [], _ => trivial
  | _ :: _, _ :: _, k => by simp only [RelL] at k; exact ⟨ArgR.of k.1, ArgsR.of k.2⟩
  | [], _ :: _, k => by simp [RelL] at k
  | _ :: _, [], k => by simp [RelL] at k

theorem takes_sound {R : Ref} : ∀ {gs : List GTy} {M : Mem} {aas : List Arg} {us : List Value} {x : dens gs} {ws : List (Nat × Bool × Box)}, InvM R M → ArgsR M aas us → takes gs aas = some (x, ws) →
    (∀ b, ¬ killed ws b) ∧ ∃ S', Froze R M { M with S := S', bs := applyB ws M.bs } ∧ EncD M.w S' gs x us
  | [], M, [], us, x, ws, I, h, ht => by
    simp only [takes, Option.some.injEq, Prod.mk.injEq] at ht
    obtain ⟨_, rfl⟩ := ht
    refine ⟨fun b hk => by obtain ⟨B, hB⟩ := hk; simp at hB, M.S, Froze.refl I, ?_⟩
    cases us with
    | nil => rfl
    | cons _ _ => exact h.elim
  | [g], M, [a], us, x, ws, I, h, ht => by
    match us, h with
    | [u], h =>
      obtain ⟨h1, S', h2, cs, h3, h4⟩ := take_sound I h.1 (by simpa [takes] using ht)
      exact ⟨h1, S', h2, cs, h3, by rw [h4]⟩
  | g :: h :: gs, M, a :: aas, us, x, ws, I, hr, ht => by
    match us, hr with
    | u :: us, hr =>
      simp only [takes] at ht
      split at ht
      · rename_i x1 w1 x2 w2 e1 e2
        simp only [Option.some.injEq, Prod.mk.injEq] at ht
        obtain ⟨rfl, rfl⟩ := ht
        obtain ⟨h1, S1, f1, cs, h3, h4⟩ := take_sound I hr.1 e1
        obtain ⟨k1, S2, f2, k3⟩ := takes_sound f1.inv (hr.2.froze f1) e2
        refine ⟨fun b hk => (killed_append.1 hk).elim (h1 b) (k1 b), S2, ?_, cs, us, ?_, by rw [h4], k3⟩
        · rw [applyB_append]
          exact f1.trans f2
        · exact h3.keeps f2.step.keeps
      · cases ht
  | [], _, _ :: _, _, _, _, _, _, ht => by simp [takes] at ht
  | [_], _, [], _, _, _, _, _, ht => by simp [takes] at ht
  | [_], _, _ :: _ :: _, _, _, _, _, _, ht => by simp [takes] at ht
  | _ :: _ :: _, _, [], _, _, _, _, _, ht => by simp [takes] at ht

/-! Building -/

theorem foldl_set : ∀ (vs : List Value) (off k : Nat) (cs : Array Value), off + k + vs.length ≤ cs.size →
    ((vs.zipIdx k).foldl (fun (cs : Array Value) (x : Value × Nat) => cs.setIfInBounds (off + x.2) x.1) cs).toList = cs.toList.take (off + k) ++ vs ++ cs.toList.drop (off + k + vs.length)
  | [], off, k, cs, _ => by simp
  | v :: vs, off, k, cs, h => by
    simp only [List.length_cons] at h
    rw [List.zipIdx_cons, List.foldl_cons, foldl_set vs off (k + 1) _ (by simp; omega)]
    have hlt : off + k < cs.toList.length := by simp; omega
    simp only [Array.toList_setIfInBounds]
    rw [show off + (k + 1) = off + k + 1 by omega, List.take_succ_eq_append_getElem (by simpa using hlt), List.getElem_set_self, List.take_set_of_le (Nat.le_refl _), List.drop_set_of_lt (by omega)]
    simp only [List.length_cons, List.append_assoc, List.singleton_append]
    congr 2
    rw [show off + k + 1 + vs.length = off + k + (vs.length + 1) by omega]

theorem fill_step {place : Nat → Option (Nat × Nat)} {i off size : Nat} {a c r : List Value} {vs : List Value} {v : Value} {rest : List (Nat × Value)} (hp : place i = some (off, size)) (hv : v.cells.toList = vs) (hs : vs.length = size) (ha : a.length = off) (hc : c.length = size) :
    Instr.fill place (a ++ c ++ r).toArray ((i, v) :: rest) = Instr.fill place (a ++ vs ++ r).toArray rest := by
  have hsz : v.cells.size = size := by rw [← hs, ← hv]; simp
  simp only [Instr.fill, hp]
  have h1 : (decide (v.cells.size ≠ size) || decide (off + v.cells.size > (a ++ c ++ r).toArray.size)) = false := by
    simp [hsz, ← ha, ← hc]
  rw [h1]
  simp only [Bool.false_eq_true, if_false]
  congr 1
  apply Array.ext'
  rw [← Array.foldl_toList, Array.toList_zipIdx, hv]
  have := foldl_set vs off 0 (a ++ c ++ r).toArray (by simp; omega)
  simp only [Nat.add_zero] at this
  rw [this]
  simp only [← ha]
  rw [List.append_assoc a c r, List.take_left' rfl, ← List.append_assoc, ← List.length_append, show (a ++ vs).length = (a ++ c).length from by simp; omega, List.drop_left' rfl]

theorem parts_sound {R : Ref} {g : GTy} {path : Nat → List PStep} {place : Nat → Option (Nat × Nat)} {ok : Nat → Prop} (hp : ∀ (i : Nat) h, ok i → pathTy g (path i) = some h → place i = some (offs g (path i), ncell h)) :
    ∀ {l : List (Nat × Arg)} {M : Mem} {us : List Value} {x z : den g} {cs : List Value} {ws : List (Nat × Bool × Box)}, InvM R M → ArgsR M (l.map (·.2)) us → (∀ y ∈ l, ok y.1 ∧ inB g (path y.1)) → Enc M.w M.S g x cs → parts g path l x = some (z, ws) →
    (∀ b, ¬ killed ws b) ∧ ∃ S', Froze R M { M with S := S', bs := applyB ws M.bs } ∧ ∃ ds, Enc M.w S' g z ds ∧ Instr.fill place cs.toArray ((l.map (·.1)).zip us) = some ds.toArray
  | [], M, us, x, z, cs, ws, I, h, hb, he, ht => by
    simp only [parts, Option.some.injEq, Prod.mk.injEq] at ht
    obtain ⟨rfl, rfl⟩ := ht
    exact ⟨fun b hk => by obtain ⟨B, hB⟩ := hk; simp at hB, M.S, Froze.refl I, cs, he, by simp [Instr.fill]⟩
  | (i, a) :: l, M, us, x, z, cs, ws, I, h, hb, he, ht => by
    match us, h with
    | u :: us, h =>
      simp only [parts] at ht
      split at ht
      · cases ht
      rename_i h' hh'
      split at ht
      · cases ht
      rename_i v w1 e1
      split at ht
      · cases ht
      rename_i y e2
      split at ht
      · cases ht
      rename_i z' w2 e3
      simp only [Option.some.injEq, Prod.mk.injEq] at ht
      obtain ⟨rfl, rfl⟩ := ht
      have hin := hb (i, a) (by simp)
      obtain ⟨h1, S1, f1, vs, h3, h4⟩ := take_sound I h.1 e1
      obtain ⟨p, c, r, k1, k2, k3, k4⟩ := Enc.upd (path i) (he.keeps f1.step.keeps) e2 hin.2 h3
      obtain ⟨q1, S2, f2, ds, q3, q4⟩ := parts_sound hp f1.inv (h.2.froze f1) (fun y hy => hb y (by simp [hy])) k4 e3
      refine ⟨fun b hk => (killed_append.1 hk).elim (h1 b) (q1 b), S2, ?_, ds, q3, ?_⟩
      · rw [applyB_append]; exact f1.trans f2
      · have hc := toVal_cells h3
        rw [← h4] at hc
        simp only [List.map_cons, List.zip_cons_cons]
        rw [k1, fill_step (hp i h' hin.1 hh') hc h3.len k2 k3]
        exact q4
end Go.Ev
/- Operations that only reckon. -/
set_option linter.unusedVariables false
namespace Go.Ev

def Yields (P : Program) (ρ : Operand → Value) (o : Oper) (w : World) (K : Value → World → Prop) : Prop :=
  match (execOp ρ o).run P w with
  | .ok (.value v) w' => K v w'
  | .ok .skip w' => K undef w'
  | .ok (.enter f args) w' => Calls P f args w' (fun e w'' => ∃ v, e = .returned v ∧ K v w'')
  | _ => False

/-- What an operation has done. -/
def After (R : Ref) (M : Mem) (e : Eff) (v : Value) (w' : World) : Prop :=
  ∃ (S' : Stab) (β' : Nat → Value), InvM R { w := w', S := S', β := β', bs := applyB e.wr M.bs } ∧ Step M { w := w', S := S', β := β', bs := applyB e.wr M.bs } (killed e.wr) ∧
    RelV { w := w', S := S', β := β', bs := applyB e.wr M.bs } e.av v

def Eff.ok (e : Eff) : Prop := ∀ p, e.need = some p → p

theorem After.pure {R : Ref} {M : Mem} (I : InvM R M) {av : AV} {n : Option Prop} {v : Value} (h : RelV M av v) : After R M ⟨av, [], n⟩ v M.w :=
  ⟨M.S, M.β, I, Step.refl _ _, h⟩

theorem Yields.value {P : Program} {ρ : Operand → Value} {o : Oper} {w w' : World} {v : Value} {K : Value → World → Prop} (h : (execOp ρ o).run P w = .ok (.value v) w') (k : K v w') : Yields P ρ o w K := by
  unfold Yields; rw [h]; exact k
theorem Yields.skip {P : Program} {ρ : Operand → Value} {o : Oper} {w w' : World} {K : Value → World → Prop} (h : (execOp ρ o).run P w = .ok .skip w') (k : K undef w') : Yields P ρ o w K := by
  unfold Yields; rw [h]; exact k

theorem needIf_spec {p : Prop} [d : Decidable p] {known : Bool} {k : Option Prop → Option Eff} {e : Eff} (h : needIf p known k = some e) : (known = false ∧ k (some p) = some e) ∨ (p ∧ k none = some e) := by
  cases known with
  | false => exact .inl ⟨rfl, h⟩
  | true =>
    cases d with
    | isTrue hp => exact .inr ⟨hp, h⟩
    | isFalse hp => cases h

/-! Numbers -/

theorem wrap_has (k : IntKind) (n : Int) : k.has (k.wrap n) := by
  cases k <;> simp only [IntKind.has, IntKind.wrap, IntKind.min, IntKind.max, IntKind.signed, IntKind.bits] <;> (try simp) <;> (try split) <;> omega

theorem has_of_range {k : IntKind} {n : Int} (h : inRange k n = true) : k.has n := by
  simpa [inRange, IntKind.has] using h

theorem has_between {k : IntKind} {a n : Int} (h : k.has a) (h1 : 0 ≤ a → 0 ≤ n ∧ n ≤ a) (h2 : a < 0 → a ≤ n ∧ n ≤ 0) : k.has n := by
  have hz := has_zero k
  unfold IntKind.has at *
  rcases Int.lt_or_le a 0 with h3 | h3
  · have := h2 h3; omega
  · have := h1 h3; omega

theorem tmod_has {k : IntKind} {a b : Int} (h : k.has a) : k.has (a.tmod b) := by
  refine has_between h (fun h0 => ?_) (fun h0 => ?_)
  · match a, b, h0 with
    | .ofNat m, .ofNat n, _ => exact ⟨Int.natCast_nonneg _, Int.ofNat_le.2 (Nat.mod_le m n)⟩
    | .ofNat m, .negSucc n, _ => exact ⟨Int.natCast_nonneg _, Int.ofNat_le.2 (Nat.mod_le m (n + 1))⟩
    | .negSucc m, _, h0 => exact absurd h0 (by omega)
  · match a, b, h0 with
    | .negSucc m, .ofNat n, _ =>
      have := Nat.mod_le (m + 1) n
      show Int.negSucc m ≤ -((((m + 1) % n : Nat) : Int)) ∧ -((((m + 1) % n : Nat) : Int)) ≤ 0
      omega
    | .negSucc m, .negSucc n, _ =>
      have := Nat.mod_le (m + 1) (n + 1)
      show Int.negSucc m ≤ -((((m + 1) % (n + 1) : Nat) : Int)) ∧ -((((m + 1) % (n + 1) : Nat) : Int)) ≤ 0
      omega
    | .ofNat m, _, h0 => exact absurd h0 (by simp)

theorem fdiv_has {k : IntKind} {a : Int} {n : Nat} (h : k.has a) : k.has (a.fdiv (2 ^ n)) := by
  have hp : (0 : Int) < 2 ^ n := Int.pow_pos (by omega)
  rw [Int.fdiv_eq_ediv_of_nonneg _ (Int.le_of_lt hp)]
  refine has_between h (fun h0 => ⟨Int.ediv_nonneg h0 (Int.le_of_lt hp), Int.ediv_le_self _ h0⟩) (fun h0 => ⟨?_, ?_⟩)
  · refine Int.le_ediv_of_mul_le hp ?_
    have := Int.mul_le_mul_of_nonpos_left (Int.le_of_lt h0) (show (1 : Int) ≤ 2 ^ n by omega)
    simpa using this
  · have : a / 2 ^ n < 1 := Int.ediv_lt_of_lt_mul hp (by omega)
    omega

theorem bitsOp_has (op : BinOp) (k : IntKind) (a b : Int) : k.has (bitsOp op k a b) := by
  unfold bitsOp
  cases op <;> exact wrap_has _ _

theorem relInt {M : Mem} {k : IntKind} {n : Int} {u : Value} (h : RelV M (.val (.int k) n) u) : u = .int k n ∧ k.has n := by
  simp only [RelV, Enc] at h
  obtain ⟨cs, ⟨rfl, h2⟩, rfl⟩ := h
  exact ⟨rfl, h2⟩
theorem relBool {M : Mem} {b : Bool} {u : Value} (h : RelV M (.val .bool b) u) : u = .bool b := by
  simp only [RelV, Enc] at h
  obtain ⟨cs, rfl, rfl⟩ := h
  rfl
theorem relStr {M : Mem} {s : List UInt8} {u : Value} (h : RelV M (.val .str s) u) : u = .string ⟨⟨s⟩⟩ ∧ s.length ≤ maxStr := by
  simp only [RelV, Enc] at h
  obtain ⟨cs, ⟨rfl, h2⟩, rfl⟩ := h
  exact ⟨rfl, h2⟩
theorem mkInt {M : Mem} {k : IntKind} {n : Int} (h : k.has n) : RelV M (.val (.int k) n) (.int k n) := by
  simp only [RelV, Enc]; exact ⟨_, ⟨rfl, h⟩, rfl⟩
theorem mkBool {M : Mem} {b : Bool} : RelV M (.val .bool b) (.bool b) := by
  simp only [RelV, Enc]; exact ⟨_, rfl, rfl⟩
theorem mkStr {M : Mem} {s : List UInt8} (h : s.length ≤ maxStr) : RelV M (.val .str s) (.string ⟨⟨s⟩⟩) := by
  simp only [RelV, Enc]; exact ⟨_, ⟨rfl, h⟩, rfl⟩

theorem intBin_sound {P : Program} {M : Mem} {op : BinOp} {k : IntKind} {a b : Int} {known : Bool} {e : Eff} (ha : k.has a) (hb : k.has b) (h : intBin op k a b known = some e) (hn : e.ok) (hs : op ≠ .shl ∧ op ≠ .shr) (t : TypeId) :
    ∃ v, (binOp op t (.int k a) (.int k b)).run P M.w = .ok v M.w ∧ e.wr = [] ∧ RelV M e.av v := by
  cases op <;> simp only [intBin, v0, Option.some.injEq, reduceCtorEq] at h
  case add => subst h; exact ⟨_, by simp [binOp, Op.intArith], rfl, mkInt (wrap_has _ _)⟩
  case sub => subst h; exact ⟨_, by simp [binOp, Op.intArith], rfl, mkInt (wrap_has _ _)⟩
  case mul => subst h; exact ⟨_, by simp [binOp, Op.intArith], rfl, mkInt (wrap_has _ _)⟩
  case quo =>
    have : b ≠ 0 ∧ e.wr = [] ∧ e.av = .val (.int k) (k.wrap (a.tdiv b)) := by
      rcases needIf_spec h with ⟨_, h⟩ | ⟨hp, h⟩
      · simp only [Option.some.injEq] at h; subst h; exact ⟨hn _ rfl, rfl, rfl⟩
      · simp only [Option.some.injEq] at h; subst h; exact ⟨hp, rfl, rfl⟩
    obtain ⟨h1, h2, h3⟩ := this
    exact ⟨.int k (k.wrap (a.tdiv b)), by simp [binOp, Op.intDiv, h1], h2, by rw [h3]; exact mkInt (wrap_has _ _)⟩
  case rem =>
    have : b ≠ 0 ∧ e.wr = [] ∧ e.av = .val (.int k) (a.tmod b) := by
      rcases needIf_spec h with ⟨_, h⟩ | ⟨hp, h⟩
      · simp only [Option.some.injEq] at h; subst h; exact ⟨hn _ rfl, rfl, rfl⟩
      · simp only [Option.some.injEq] at h; subst h; exact ⟨hp, rfl, rfl⟩
    obtain ⟨h1, h2, h3⟩ := this
    exact ⟨.int k (a.tmod b), by simp [binOp, Op.intDiv, h1], h2, by rw [h3]; exact mkInt (tmod_has ha)⟩
  case and => subst h; exact ⟨_, by simp only [binOp, Op.intBits, ne_eq, not_true_eq_false, if_false]; rfl, rfl, mkInt (bitsOp_has _ _ _ _)⟩
  case or => subst h; exact ⟨_, by simp only [binOp, Op.intBits, ne_eq, not_true_eq_false, if_false]; rfl, rfl, mkInt (bitsOp_has _ _ _ _)⟩
  case xor => subst h; exact ⟨_, by simp only [binOp, Op.intBits, ne_eq, not_true_eq_false, if_false]; rfl, rfl, mkInt (bitsOp_has _ _ _ _)⟩
  case andNot => subst h; exact ⟨_, by simp only [binOp, Op.intBits, ne_eq, not_true_eq_false, if_false]; rfl, rfl, mkInt (bitsOp_has _ _ _ _)⟩
  case eql => subst h; exact ⟨_, by simp only [binOp, Op.intCmp, ne_eq, not_true_eq_false, if_false, Sem.run_pure], rfl, mkBool⟩
  case neq => subst h; exact ⟨_, by simp only [binOp, Op.intCmp, ne_eq, not_true_eq_false, if_false, Sem.run_pure], rfl, mkBool⟩
  case lss => subst h; exact ⟨_, by simp only [binOp, Op.intCmp, ne_eq, not_true_eq_false, if_false, Sem.run_pure], rfl, mkBool⟩
  case leq => subst h; exact ⟨_, by simp only [binOp, Op.intCmp, ne_eq, not_true_eq_false, if_false, Sem.run_pure], rfl, mkBool⟩
  case gtr => subst h; exact ⟨_, by simp only [binOp, Op.intCmp, ne_eq, not_true_eq_false, if_false, Sem.run_pure], rfl, mkBool⟩
  case geq => subst h; exact ⟨_, by simp only [binOp, Op.intCmp, ne_eq, not_true_eq_false, if_false, Sem.run_pure], rfl, mkBool⟩

theorem str_append (a b : List UInt8) : ((⟨⟨a⟩⟩ : ByteArray) ++ ⟨⟨b⟩⟩) = ⟨⟨a ++ b⟩⟩ := by
  apply ByteArray.ext
  rw [ByteArray.data_append]
  simp

theorem strBin_sound {P : Program} {M : Mem} {op : BinOp} {a b : List UInt8} {e : Eff} (ha : a.length ≤ maxStr) (hb : b.length ≤ maxStr) (h : strBin op a b = some e) (hn : e.ok) (t : TypeId) :
    ∃ v, (binOp op t (.string ⟨⟨a⟩⟩) (.string ⟨⟨b⟩⟩)).run P M.w = .ok v M.w ∧ e.wr = [] ∧ RelV M e.av v := by
  have ta : (⟨⟨a⟩⟩ : ByteArray).toList = a := by rw [ByteArray.toList_eq]
  have tb : (⟨⟨b⟩⟩ : ByteArray).toList = b := by rw [ByteArray.toList_eq]
  cases op <;> simp only [strBin, v0, Option.some.injEq, reduceCtorEq] at h
  case add =>
    subst h
    have hle : a.length + b.length ≤ maxStr := hn _ rfl
    refine ⟨.string ⟨⟨a ++ b⟩⟩, ?_, rfl, mkStr (by simpa using hle)⟩
    have : ¬ (((a.length + b.length : Nat) : Int) > IntKind.i64.max) := by
      simp only [maxStr] at hle
      have : IntKind.i64.max = 9223372036854775807 := by decide
      omega
    simp only [binOp, Op.stringOp]
    rw [show (⟨⟨a⟩⟩ : ByteArray).size = a.length from rfl, show (⟨⟨b⟩⟩ : ByteArray).size = b.length from rfl, if_neg this, str_append]
    rfl
  all_goals (subst h; exact ⟨_, by simp only [binOp, Op.stringOp, ta, tb]; rfl, rfl, mkBool⟩)
end Go.Ev
/- Equality; parts of a value. -/
set_option linter.unusedVariables false
set_option linter.unusedSimpArgs false
namespace Go.Ev

theorem run_sizeOf' {P : Program} {t : TypeId} {ti : TypeInfo} (h : P.info? t = some ti) (w : World) : (sizeOf t).run P w = .ok ti.size w := by
  simp [sizeOf, typeInfo, h]

theorem run_isAgg' {P : Program} {τ : Tys} {t : TypeId} {i : TInfo} (T : TyOK P τ t i) (w : World) : (Go.isAgg t).run P w = .ok (isAgg i.g) w := by
  have ha := T.agg
  unfold Go.isAgg
  obtain ⟨g, nf, by_, el⟩ := i
  have hd := T.desc
  cases g <;> simp only at hd ha ⊢
  case bool => simp [run_underlying hd]; rfl
  case int k => simp [run_underlying hd]; rfl
  case str => simp [run_underlying hd]; rfl
  case prod a b => obtain ⟨fs, h1, _⟩ := hd; simp [run_underlying h1]; rfl
  case arr n a => obtain ⟨e, j, h1, _⟩ := hd; simp [run_underlying h1]; rfl
  case sl a => obtain ⟨e, j, ti, h1, _⟩ := hd; simp [run_underlying h1]; rfl
  case err => obtain ⟨ms, h1⟩ := hd; simp [run_underlying h1]; rfl

theorem cells_one {w : World} {S : Stab} {g : GTy} {x : den g} {c : List Value} (h : Enc w S g x c) (ha : isAgg g = false) : ∃ v, c = [v] := by
  have hl := h.len
  have h1 : c.length = 1 := by cases g <;> simp [isAgg] at ha <;> simpa [ncell] using hl
  match c, h1 with
  | [v], _ => exact ⟨v, rfl⟩

theorem part_sound {P : Program} {τ : Tys} {t : TypeId} {i : TInfo} (T : TyOK P τ t i) {w W : World} {S : Stab} {x : den i.g} {a c r : List Value} (he : Enc W S i.g x c) {cs : Array Value} (hcs : cs.toList = a ++ c ++ r) {off : Nat} (ho : a.length = off) :
    (part t cs off).run P w = .ok (toVal i.g c) w := by
  obtain ⟨ti, hi, hsz, _⟩ := T.info
  unfold part
  simp only [Sem.run_bind, run_isAgg' T, Result.andThen_ok]
  cases ha : isAgg i.g with
  | true =>
    simp only [if_true, Sem.run_bind, run_sizeOf' hi, Result.andThen_ok, Sem.run_pure, toVal, ha]
    congr 2
    apply Array.ext'
    rw [Array.toList_extract, hcs, ← ho, hsz, ← he.len]
    simp
  | false =>
    obtain ⟨v, rfl⟩ := cells_one he ha
    have : cs[off]? = some v := by
      rw [← Array.getElem?_toList, hcs, ← ho]
      simp
    simp [this, toVal, ha]

def EqAt (P : Program) (τ : Tys) (d N : Nat) : Prop :=
  ∀ t i, τ t = some i → i.g.sz < N → ∀ (W w : World) (S : Stab) (x y : den i.g) (c c' : List Value), Enc W S i.g x c → Enc W S i.g y c' → cmp i.g = true → (Op.equalIn d t (toVal i.g c) (toVal i.g c')).run P w = .ok (geq i.g x y) w

theorem eqFields_sound {P : Program} {τ : Tys} (TOK : TysOK P τ) {d N : Nat} (IH : EqAt P τ d N) {w W : World} {S : Stab} : ∀ (l : List Field) (g : GTy) (x y : den g) (a c a' c' : List Value) (cs cs' : Array Value) (off : Nat), g.sz ≤ N → Chain l.length g → cmp g = true →
    Enc W S g x c → Enc W S g y c' → cs.toList = a ++ c → cs'.toList = a' ++ c' → a.length = off → a'.length = off →
    (∀ (k : Nat) f, l[k]? = some f → f.name ≠ "_" ∧ f.offset = off + offs g (fieldPath l.length k) ∧ ∃ j, τ f.type = some j ∧ pathTy g (fieldPath l.length k) = some j.g) →
    (Op.eqFields d cs cs' l).run P w = .ok (geq g x y) w
  | [f], .prod g1 .unit, x, y, a, c, a', c', cs, cs', off, hN, _, hcmp, ⟨c1, c2, e1, h1, h2⟩, ⟨d1, d2, k1, k2, k3⟩, hc, hc', ha, ha', hf => by
    obtain ⟨hnm, hof, j, hj, hp⟩ := hf 0 f rfl
    simp only [List.length_singleton, fieldPath, pathTy, Option.some.injEq] at hp
    subst hp
    simp only [List.length_singleton, fieldPath] at hof
    have hof : f.offset = off := by rw [hof]; cases j.g <;> rfl
    have T := TOK _ _ hj
    have p1 := part_sound (P := P) (w := w) T h1 (cs := cs) (a := a) (c := c1) (r := c2) (by rw [hc, e1]; simp) (off := off) ha
    have p2 := part_sound (P := P) (w := w) T k2 (cs := cs') (a := a') (c := d1) (r := d2) (by rw [hc', k1]; simp) (off := off) ha'
    simp only [cmp, Bool.and_eq_true] at hcmp
    have q := IH f.type j hj (by simp only [GTy.sz] at hN; omega) W w S x.1 y.1 c1 d1 h1 k2 hcmp.1
    simp only [Op.eqFields, hnm, ne_eq, not_false_eq_true, if_true, Sem.run_bind, hof, p1, p2, q, Result.andThen_ok, geq, Bool.and_true]
    cases geq j.g x.1 y.1 <;> simp
  | [f, f'], .prod g1 g2, x, y, a, c, a', c', cs, cs', off, hN, _, hcmp, ⟨c1, c2, e1, h1, h2⟩, ⟨d1, d2, k1, k2, k3⟩, hc, hc', ha, ha', hf => by
    obtain ⟨hnm, hof, j, hj, hp⟩ := hf 0 f rfl
    obtain ⟨hnm', hof', j', hj', hp'⟩ := hf 1 f' rfl
    simp only [List.length_cons, List.length_nil, Nat.zero_add, Nat.reduceAdd, fieldPath, pathTy, Option.some.injEq] at hp hp'
    subst hp
    have hp'' : g2 = j'.g := by cases g2 <;> simpa [pathTy] using hp'
    subst hp''
    have hof : f.offset = off := by rw [hof]; simp only [List.length_cons, List.length_nil, Nat.zero_add, Nat.reduceAdd, fieldPath, offs]; cases j.g <;> rfl
    have hof' : f'.offset = off + ncell j.g := by rw [hof']; simp only [List.length_cons, List.length_nil, Nat.zero_add, Nat.reduceAdd, fieldPath, offs]; cases j'.g <;> rfl
    have T := TOK _ _ hj
    have T' := TOK _ _ hj'
    have p1 := part_sound (P := P) (w := w) T h1 (cs := cs) (a := a) (c := c1) (r := c2) (by rw [hc, e1]; simp) (off := off) ha
    have p2 := part_sound (P := P) (w := w) T k2 (cs := cs') (a := a') (c := d1) (r := d2) (by rw [hc', k1]; simp) (off := off) ha'
    have p3 := part_sound (P := P) (w := w) T' h2 (cs := cs) (a := a ++ c1) (c := c2) (r := []) (by rw [hc, e1]; simp) (off := off + ncell j.g) (by rw [List.length_append, ha, h1.len])
    have p4 := part_sound (P := P) (w := w) T' k3 (cs := cs') (a := a' ++ d1) (c := d2) (r := []) (by rw [hc', k1]; simp) (off := off + ncell j.g) (by rw [List.length_append, ha', k2.len])
    simp only [cmp, Bool.and_eq_true] at hcmp
    have q := IH f.type j hj (by simp only [GTy.sz] at hN; omega) W w S x.1 y.1 c1 d1 h1 k2 hcmp.1
    have q' := IH f'.type j' hj' (by simp only [GTy.sz] at hN; omega) W w S x.2 y.2 c2 d2 h2 k3 hcmp.2
    simp only [Op.eqFields, hnm, hnm', ne_eq, not_false_eq_true, if_true, Sem.run_bind, hof, hof', p1, p2, p3, p4, q, q', Result.andThen_ok, geq]
    cases geq j.g x.1 y.1 <;> cases hq : geq j'.g x.2 y.2 <;> simp [p3, p4, q', hq]
  | f :: f' :: f'' :: l, .prod g1 g2, x, y, a, c, a', c', cs, cs', off, hN, hch, hcmp, ⟨c1, c2, e1, h1, h2⟩, ⟨d1, d2, k1, k2, k3⟩, hc, hc', ha, ha', hf => by
    obtain ⟨hnm, hof, j, hj, hp⟩ := hf 0 f rfl
    simp only [List.length_cons, fieldPath, pathTy, Option.some.injEq] at hp
    subst hp
    have hof : f.offset = off := by rw [hof]; simp only [List.length_cons, fieldPath, offs]; cases j.g <;> rfl
    have T := TOK _ _ hj
    have p1 := part_sound (P := P) (w := w) T h1 (cs := cs) (a := a) (c := c1) (r := c2) (by rw [hc, e1]; simp) (off := off) ha
    have p2 := part_sound (P := P) (w := w) T k2 (cs := cs') (a := a') (c := d1) (r := d2) (by rw [hc', k1]; simp) (off := off) ha'
    simp only [cmp, Bool.and_eq_true] at hcmp
    have q := IH f.type j hj (by simp only [GTy.sz] at hN; omega) W w S x.1 y.1 c1 d1 h1 k2 hcmp.1
    have hrec := eqFields_sound TOK IH (w := w) (f' :: f'' :: l) g2 x.2 y.2 (a ++ c1) c2 (a' ++ d1) d2 cs cs' (off + ncell j.g) (by simp only [GTy.sz] at hN; omega) hch hcmp.2 h2 k3 (by rw [hc, e1]; simp) (by rw [hc', k1]; simp) (by rw [List.length_append, ha, h1.len]) (by rw [List.length_append, ha', k2.len])
      (fun k g hg => by
        obtain ⟨r1, r2, jj, r3, r4⟩ := hf (k + 1) g (by simpa using hg)
        simp only [List.length_cons, fieldPath, offs, pathTy] at r2 r4
        exact ⟨r1, by rw [r2]; show _ = off + ncell j.g + offs g2 (fieldPath (l.length + 2) k); omega, jj, r3, by simpa using r4⟩)
    rw [Op.eqFields]
    simp only [hnm, ne_eq, not_false_eq_true, if_true, Sem.run_bind, hof, p1, p2, q, Result.andThen_ok, geq]
    cases geq j.g x.1 y.1
    · simp
    · simp [hrec]
  | [], g, _, _, _, _, _, _, _, _, _, _, hch, _, _, _, _, _, _, _, _ => by cases g <;> simp [Chain] at hch
  | [_], .prod _ (.bool), _, _, _, _, _, _, _, _, _, _, hch, _, _, _, _, _, _, _, _ | [_], .prod _ (.int _), _, _, _, _, _, _, _, _, _, _, hch, _, _, _, _, _, _, _, _ | [_], .prod _ (.str), _, _, _, _, _, _, _, _, _, _, hch, _, _, _, _, _, _, _, _
  | [_], .prod _ (.prod ..), _, _, _, _, _, _, _, _, _, _, hch, _, _, _, _, _, _, _, _ | [_], .prod _ (.arr ..), _, _, _, _, _, _, _, _, _, _, hch, _, _, _, _, _, _, _, _ | [_], .prod _ (.sl _), _, _, _, _, _, _, _, _, _, _, hch, _, _, _, _, _, _, _, _ | [_], .prod _ (.err), _, _, _, _, _, _, _, _, _, _, hch, _, _, _, _, _, _, _, _ => by simp [Chain] at hch
  | [_], .bool, _, _, _, _, _, _, _, _, _, _, hch, _, _, _, _, _, _, _, _ | [_], .int _, _, _, _, _, _, _, _, _, _, _, hch, _, _, _, _, _, _, _, _ | [_], .str, _, _, _, _, _, _, _, _, _, _, hch, _, _, _, _, _, _, _, _ | [_], .unit, _, _, _, _, _, _, _, _, _, _, hch, _, _, _, _, _, _, _, _ | [_], .arr .., _, _, _, _, _, _, _, _, _, _, hch, _, _, _, _, _, _, _, _ | [_], .sl _, _, _, _, _, _, _, _, _, _, _, hch, _, _, _, _, _, _, _, _ | [_], .err, _, _, _, _, _, _, _, _, _, _, hch, _, _, _, _, _, _, _, _ => by simp [Chain] at hch
  | _ :: _ :: l, .bool, _, _, _, _, _, _, _, _, _, _, hch, _, _, _, _, _, _, _, _ | _ :: _ :: l, .int _, _, _, _, _, _, _, _, _, _, _, hch, _, _, _, _, _, _, _, _ | _ :: _ :: l, .str, _, _, _, _, _, _, _, _, _, _, hch, _, _, _, _, _, _, _, _ | _ :: _ :: l, .unit, _, _, _, _, _, _, _, _, _, _, hch, _, _, _, _, _, _, _, _ | _ :: _ :: l, .arr .., _, _, _, _, _, _, _, _, _, _, hch, _, _, _, _, _, _, _, _ | _ :: _ :: l, .sl _, _, _, _, _, _, _, _, _, _, _, hch, _, _, _, _, _, _, _, _ | _ :: _ :: l, .err, _, _, _, _, _, _, _, _, _, _, hch, _, _, _, _, _, _, _, _ => by cases l <;> simp [Chain] at hch

theorem geq_go_cons {α : Type} (f : α → α → Bool) (x y : α) (xs ys : List α) : geq.go f (x :: xs) (y :: ys) = (f x y && geq.go f xs ys) := rfl

theorem run_arr {P : Program} {τ : Tys} {d : Nat} {e : TypeId} {j : TInfo} (T : TyOK P τ e j) {w W : World} {S : Stab} (IH : ∀ (x y : den j.g) (c c' : List Value), Enc W S j.g x c → Enc W S j.g y c' → (Op.equalIn d e (toVal j.g c) (toVal j.g c')).run P w = .ok (geq j.g x y) w) {cs cs' : Array Value} {n : Nat} (hn : n = ncell j.g) :
    ∀ (xs ys : List (den j.g)) (a c a' c' : List Value) (k : Nat), xs.length = ys.length → encL (Enc W S j.g) xs c → encL (Enc W S j.g) ys c' → cs.toList = a ++ c → cs'.toList = a' ++ c' → a.length = k * n → a'.length = k * n →
    (forIn (List.range' k xs.length 1) ((none : Option Bool), ()) (fun i (r : Option Bool × Unit) => do
        let u ← part e cs (i * n)
        let v ← part e cs' (i * n)
        let q ← Op.equalIn d e u v
        if (!q) = true then pure (ForInStep.done (some false, ())) else pure (ForInStep.yield (none, ()))) : Sem (Option Bool × Unit)).run P w = .ok ((bif geq.go (geq j.g) xs ys then none else some false), ()) w
  | [], [], a, c, a', c', k, _, _, _, _, _, _, _ => by simp [geq.go]
  | x :: xs, y :: ys, a, c, a', c', k, hl, ⟨c1, c2, e1, h1, h2⟩, ⟨d1, d2, k1, k2, k3⟩, hc, hc', ha, ha' => by
    have p1 := part_sound (P := P) (w := w) T h1 (cs := cs) (a := a) (c := c1) (r := c2) (by rw [hc, e1]; simp) (off := k * n) ha
    have p2 := part_sound (P := P) (w := w) T k2 (cs := cs') (a := a') (c := d1) (r := d2) (by rw [hc', k1]; simp) (off := k * n) ha'
    have q := IH x y c1 d1 h1 k2
    have hrec := run_arr (w := w) T IH hn xs ys (a ++ c1) c2 (a' ++ d1) d2 (k + 1) (by simpa using hl) h2 k3 (by rw [hc, e1]; simp) (by rw [hc', k1]; simp) (by rw [List.length_append, ha, h1.len, hn, Nat.add_mul, Nat.one_mul]) (by rw [List.length_append, ha', k2.len, hn, Nat.add_mul, Nat.one_mul])
    rw [List.length_cons, List.range'_succ, List.forIn_cons, geq_go_cons]
    simp only [Sem.run_bind, p1, p2, q, Result.andThen_ok, Sem.run_ite]
    cases hq : geq j.g x y
    · simp
    · simp only [Bool.not_true, Bool.false_eq_true, if_false, Sem.run_bind, Sem.run_pure, Result.andThen_ok, Bool.true_and]
      exact hrec
  | [], _ :: _, _, _, _, _, _, hl, _, _, _, _, _, _ => by simp at hl
  | _ :: _, [], _, _, _, _, _, hl, _, _, _, _, _, _ => by simp at hl

theorem equalIn_sound {P : Program} {τ : Tys} (TOK : TysOK P τ) : ∀ (d N : Nat), N ≤ d → EqAt P τ d N
  | 0, N, hN => fun t i _ hs => by omega
  | d + 1, N, hN => fun t i hi hs W w S x y c c' hx hy hcmp => by
    have IH := equalIn_sound TOK d (N - 1) (by omega)
    have T := TOK t i hi
    have hd := T.desc
    obtain ⟨g, nf, by_, el⟩ := i
    cases g <;> simp only at hd hx hy hcmp hs x y ⊢
    case bool =>
      have hx' : c = [.bool x] := hx
      have hy' : c' = [.bool y] := hy
      subst hx'; subst hy'
      simp only [toVal, isAgg, List.headD_cons, Op.equalIn, Sem.run_bind, run_underlying hd, Result.andThen_ok]
      rfl
    case int k =>
      obtain ⟨hx', _⟩ := hx
      obtain ⟨hy', _⟩ := hy
      subst hx'; subst hy'
      simp only [toVal, isAgg, List.headD_cons, Op.equalIn, Sem.run_bind, run_underlying hd, Result.andThen_ok, if_true]
      rfl
    case str =>
      obtain ⟨hx', _⟩ := hx
      obtain ⟨hy', _⟩ := hy
      subst hx'; subst hy'
      simp only [toVal, isAgg, List.headD_cons, Op.equalIn, Sem.run_bind, run_underlying hd, Result.andThen_ok, beq_toListBytes, ByteArray.toList_eq]
      rfl
    case prod a b =>
      obtain ⟨fs, h1, h2, h3, h4, h5⟩ := hd
      have hfo : P.fieldsOf t = fs := by simp [Program.fieldsOf, h1]
      show (Op.equalIn (d + 1) t (.agg c.toArray) (.agg c'.toArray)).run P w = _
      rw [run_equalIn_struct w d t _ _ (by rw [hfo]; exact h1) h4, hfo]
      refine eqFields_sound TOK (IH) fs.toList _ x y [] c [] c' _ _ 0 (by omega) (by simpa [h2] using h3) hcmp hx hy (by simp) (by simp) rfl rfl (fun k f hf => ?_)
      obtain ⟨q1, q2, q3, j, q4, q5, q6⟩ := h5 k f (by simpa using hf)
      have hl : fs.toList.length = nf := by simpa using h2
      rw [hl]
      exact ⟨q1, by rw [q2]; omega, j, q4, q5⟩
    case arr n a =>
      obtain ⟨e, j, h1, h2, rfl⟩ := hd
      obtain ⟨hx1, hx2⟩ := hx
      obtain ⟨hy1, hy2⟩ := hy
      have Te := TOK e j h2
      obtain ⟨ti, hti, hsz, _⟩ := Te.info
      have IHe : ∀ (x y : den j.g) (c c' : List Value), Enc W S j.g x c → Enc W S j.g y c' → (Op.equalIn d e (toVal j.g c) (toVal j.g c')).run P w = .ok (geq j.g x y) w :=
        fun x y c c' q1 q2 => IH e j h2 (by simp only [GTy.sz] at hs; omega) W w S x y c c' q1 q2 hcmp
      have hxy : List.length (α := den j.g) x = List.length (α := den j.g) y := by rw [hx1, hy1]
      have := run_arr (P := P) (w := w) Te IHe (cs := c.toArray) (cs' := c'.toArray) (n := ti.size) hsz x y [] c [] c' 0 hxy hx2 hy2 (by simp) (by simp) (by simp) (by simp)
      rw [hx1] at this
      show (Op.equalIn (d + 1) t (.agg c.toArray) (.agg c'.toArray)).run P w = _
      simp only [Op.equalIn, Sem.run_bind, run_underlying h1, Result.andThen_ok, run_sizeOf' hti]
      simp only [Std.Legacy.Range.forIn_eq_forIn_range', Std.Legacy.Range.size, Nat.sub_zero, Nat.add_sub_cancel, Nat.div_one]
      simp only [geq]
      erw [this]
      show _ = Result.ok (geq.go (geq j.g) x y) w
      cases geq.go (geq j.g) x y <;> rfl
    case sl a => simp [cmp] at hcmp
    case err => simp [cmp] at hcmp

theorem eqGuard_agg {P : Program} {t : TypeId} (h : P.eqGuardType P.depth t = false) {w : World} (op : BinOp) (x y : Operand) (c c' : Array Value) : (eqGuard op t x y (.agg c) (.agg c')).run P w = .ok () w := by
  unfold eqGuard
  cases op <;> simp [h]
theorem eqGuard_int {P : Program} {t : TypeId} {w : World} (op : BinOp) (x y : Operand) (k k' : IntKind) (a b : Int) : (eqGuard op t x y (.int k a) (.int k' b)).run P w = .ok () w := by
  unfold eqGuard
  cases op <;> simp
theorem eqGuard_str {P : Program} {t : TypeId} {w : World} (op : BinOp) (x y : Operand) (a b : ByteArray) : (eqGuard op t x y (.string a) (.string b)).run P w = .ok () w := by
  unfold eqGuard
  cases op <;> simp
theorem eqGuard_bool {P : Program} {t : TypeId} {w : World} (op : BinOp) (x y : Operand) (a b : Bool) : (eqGuard op t x y (.bool a) (.bool b)).run P w = .ok () w := by
  unfold eqGuard
  cases op <;> simp

theorem eqBin_sound {P : Program} {τ : Tys} (TOK : TysOK P τ) {M : Mem} {op : BinOp} {t : TypeId} {i : TInfo} (hi : τ t = some i) {a b : den i.g} {e : Eff} {u v : Value} (ha : RelV M (.val i.g a) u) (hb : RelV M (.val i.g b) v) (h : eqBin i.g op a b = some e)
    (hne : ∀ k, i.g ≠ .int k) (hns : i.g ≠ .str) (xo yo : Operand) :
    ∃ r, ((do eqGuard op t xo yo u v; binOp op t u v) : Sem Value).run P M.w = .ok r M.w ∧ e.wr = [] ∧ RelV M e.av r := by
  have T := TOK t i hi
  simp only [RelV] at ha hb
  obtain ⟨c, hc, rfl⟩ := ha
  obtain ⟨c', hc', rfl⟩ := hb
  have hcmp : cmp i.g = true := by
    unfold eqBin at h
    split at h <;> first | assumption | cases h
  have heq : (Op.equal t (toVal i.g c) (toVal i.g c')).run P M.w = .ok (geq i.g a b) M.w := equalIn_sound TOK 10000 10000 (Nat.le_refl _) t i hi (by have := T.small.1; omega) M.w M.w M.S a b c c' hc hc' hcmp
  have hg : (eqGuard op t xo yo (toVal i.g c) (toVal i.g c')).run P M.w = .ok () M.w ∧ (binOp .eql t (toVal i.g c) (toVal i.g c') = (do pure (.bool (← Op.equal t (toVal i.g c) (toVal i.g c'))))) ∧ (binOp .neq t (toVal i.g c) (toVal i.g c') = (do pure (.bool (!(← Op.equal t (toVal i.g c) (toVal i.g c')))))) := by
    have hagg : isAgg i.g = true → (eqGuard op t xo yo (toVal i.g c) (toVal i.g c')).run P M.w = .ok () M.w ∧ (binOp .eql t (toVal i.g c) (toVal i.g c') = (do pure (.bool (← Op.equal t (toVal i.g c) (toVal i.g c'))))) ∧ (binOp .neq t (toVal i.g c) (toVal i.g c') = (do pure (.bool (!(← Op.equal t (toVal i.g c) (toVal i.g c')))))) := by
      intro hh
      simp only [toVal, hh]
      exact ⟨eqGuard_agg (T.plain.resolve_left (fun h => by rw [h] at hcmp; simp [cmp] at hcmp)) _ _ _ _ _, rfl, rfl⟩
    generalize i.g = g at *
    cases g with
    | bool =>
      have h1 : c = [.bool a] := hc
      have h2 : c' = [.bool b] := hc'
      subst h1; subst h2
      exact ⟨eqGuard_bool _ _ _ _ _, rfl, rfl⟩
    | int k => exact absurd rfl (hne k)
    | str => exact absurd rfl hns
    | unit => exact hagg rfl
    | prod _ _ => exact hagg rfl
    | arr _ _ => exact hagg rfl
    | sl _ => simp [cmp] at hcmp
    | err => simp [cmp] at hcmp
  unfold eqBin at h
  split at h
  · simp only [v0, Option.some.injEq] at h
    subst h
    exact ⟨_, by simp only [Sem.run_bind, hg.1, Result.andThen_ok, hg.2.1, heq, Sem.run_pure], rfl, mkBool⟩
  · simp only [v0, Option.some.injEq] at h
    subst h
    exact ⟨_, by simp only [Sem.run_bind, hg.1, Result.andThen_ok, hg.2.2, heq, Sem.run_pure], rfl, mkBool⟩
  · cases h
end Go.Ev
/- Each operation does what the evaluator says. -/
set_option linter.unusedVariables false
set_option linter.unusedSimpArgs false
namespace Go.Ev

/-- Where new values lie: what was stable, and new blocks. -/
def RelRes (w : World) (S : Stab) (gs : List GTy) (x : dens gs) (v : Value) : Prop :=
  ∃ us, EncD w S gs x us ∧ v = (match us with | [u] => u | _ => .tuple us.toArray)

/-- What is told of a function is so. -/
def CtrOK (P : Program) (f : Nat) (c : Ctr) : Prop :=
  (∃ fn, P.funcs[f]? = some fn ∧ fn.body.isNone = false ∧ (fn.name == "runtime.NumGoroutine") = false) ∧
  ∀ (w : World) (S : Stab) (us : List Value) (x : dens c.args), (∀ b o, S b o → b < w.heap.size) → Tab S w → EncD w S c.args x us → (∀ p, c.pre = some p → p x) →
    Calls P f us.toArray w (fun e w' => ∃ v, e = .returned v ∧ Grows w w' ∧ ∃ N : Stab, (∀ b o, N b o → w.heap.size ≤ b ∧ b < w'.heap.size) ∧ RelRes w' (fun b o => S b o ∨ N b o) c.res (c.fn x) v)

def CtrsOK (P : Program) (Γ : Ctrs) : Prop := ∀ f c, Γ f = some c → CtrOK P f c

theorem resL_rel {M : Mem} : ∀ {gs : List GTy} {x : dens gs} {us : List Value}, EncD M.w M.S gs x us → RelL M (resL gs x) us
  | [], _, us, h => by rw [show us = [] from h]; simp [resL, RelL]
  | [g], x, us, ⟨cs, h1, h2⟩ => by rw [h2]; simp only [resL, RelL, RelV, and_true]; exact ⟨cs, h1, rfl⟩
  | g :: h :: gs, x, us, ⟨cs, us', h1, h2, h3⟩ => by
    rw [h2]; simp only [resL, RelL, RelV]
    exact ⟨⟨cs, h1, rfl⟩, resL_rel h3⟩

theorem resAV_rel {M : Mem} {gs : List GTy} {x : dens gs} {v : Value} (h : RelRes M.w M.S gs x v) : RelV M (resAV gs x) v := by
  obtain ⟨us, h1, rfl⟩ := h
  have hr := resL_rel (M := M) h1
  have hl := hr.length
  unfold resAV
  split
  · rename_i v hv
    rw [hv] at hr hl
    match us, hl with
    | [u], _ => simp only [RelL, and_true] at hr; exact hr
  · rename_i hne
    match us with
    | [u] =>
      exfalso
      match hh : resL gs x, hl with
      | [v], _ => exact hne v hh
    | [] => simp only [RelV]; exact ⟨_, rfl, by simpa using hr⟩
    | _ :: _ :: _ => simp only [RelV]; exact ⟨_, rfl, by simpa using hr⟩

section
variable {P : Program} {τ : Tys} {R : Ref} {M : Mem}

/-- Rows frozen on the way. -/
theorem After.froze {av : AV} {ws : List (Nat × Bool × Box)} {n : Option Prop} {v : Value} {S' : Stab} (hk : ∀ b, ¬ killed ws b) (h : Froze R M { M with S := S', bs := applyB ws M.bs }) (hr : RelV { M with S := S', bs := applyB ws M.bs } av v) : After R M ⟨av, ws, n⟩ v M.w :=
  ⟨S', M.β, h.inv, h.step.mono (fun b hb => hb.elim), hr⟩

theorem boxVar {b : Nat} {g' : GTy} {p : List PStep} {h : GTy} {x : den h} {u : Value} (ha : ArgR M (.ptr b g' p, some (.var h x)) u) :
    ∃ blk d, lk b M.bs = some (d, .var h x) ∧ g' = h ∧ inB h p ∧ blkOf (M.β b) = some blk ∧ u = .pointer (some ⟨blk, offs h p, none⟩) := by
  obtain ⟨d, B', h1, h2⟩ := ha.box b _ rfl rfl
  have hB : B' = .var h x := by
    cases B' with
    | var g'' x'' =>
      simp only [Box.fz, Box.var.injEq] at h2
      obtain ⟨rfl, h3⟩ := h2
      cases eq_of_heq h3
      rfl
    | row _ _ _ _ => simp [Box.fz] at h2
    | iter _ _ => simp [Box.fz] at h2
  subst hB
  have hr := ha.rel
  simp only [RelV] at hr
  obtain ⟨blk, d', B, k1, k2, k3, k4⟩ := hr
  rw [h1] at k1
  simp only [Option.some.injEq, Prod.mk.injEq] at k1
  obtain ⟨rfl, rfl⟩ := k1
  obtain ⟨rfl, k2⟩ := k2
  exact ⟨blk, d, h1, rfl, k2, k3, k4⟩

theorem boxRow {e : Nat} {h : GTy} {xs : List (den h)} {f : Bool} {b d} {B' : Box} (h1 : lk b M.bs = some (d, B')) (h2 : (Box.row e h xs f).fz = B'.fz) : ∃ f', B' = .row e h xs f' := by
  cases B' with
  | var _ _ => simp [Box.fz] at h2
  | iter _ _ => simp [Box.fz] at h2
  | row t' g' xs' f' =>
    simp only [Box.fz, Box.row.injEq] at h2
    obtain ⟨rfl, rfl, h3, _⟩ := h2
    cases eq_of_heq h3
    exact ⟨f', rfl⟩

theorem ptrRow {b : Nat} {g' : GTy} {p : List PStep} {e : Nat} {h : GTy} {xs : List (den h)} {f : Bool} {u : Value} (ha : ArgR M (.ptr b g' p, some (.row e h xs f)) u) :
    ∃ blk d f', lk b M.bs = some (d, .row e h xs f') ∧ okPath (.row e h xs f') g' p ∧ blkOf (M.β b) = some blk ∧ u = .pointer (some ⟨blk, offs g' p, none⟩) := by
  obtain ⟨d, B', h1, h2⟩ := ha.box b _ rfl rfl
  obtain ⟨f', rfl⟩ := boxRow h1 h2
  have hr := ha.rel
  simp only [RelV] at hr
  obtain ⟨blk, d', B, k1, k2, k3, k4⟩ := hr
  rw [h1] at k1
  simp only [Option.some.injEq, Prod.mk.injEq] at k1
  obtain ⟨rfl, rfl⟩ := k1
  exact ⟨blk, d, f', h1, k2, k3, k4⟩

/-! Loads -/

theorem loadCells_at {w : World} {blk off : Nat} {cs : List Value} (h : ∀ (j : Nat) v, cs[j]? = some v → w.cell? ⟨blk, off + j, none⟩ = some v) : (loadCells ⟨blk, off, none⟩ cs.length).run P w = .ok cs.toArray w :=
  run_loadCells_list w _ cs (fun j v hv => by rw [Addr.add_lit]; exact h j v hv)

theorem loadVar_at {t : TypeId} {i : TInfo} (T : TyOK P τ t i) {w W : World} {S : Stab} {x : den i.g} {cs : List Value} (he : Enc W S i.g x cs) {blk off : Nat} (h : ∀ (j : Nat) v, cs[j]? = some v → w.cell? ⟨blk, off + j, none⟩ = some v) :
    (loadVar t ⟨blk, off, none⟩).run P w = .ok (toVal i.g cs) w := by
  obtain ⟨ti, hi, hsz, _⟩ := T.info
  unfold loadVar
  simp only [Sem.run_bind, run_isAgg' T, Result.andThen_ok]
  cases ha : isAgg i.g with
  | true =>
    simp only [if_true, Sem.run_bind, run_sizeOf' hi, Result.andThen_ok, hsz, ← he.len, loadCells_at (P := P) h, Sem.run_pure, toVal, ha]
  | false =>
    obtain ⟨v, rfl⟩ := cells_one he ha
    have := h 0 v rfl
    simp only [Nat.add_zero] at this
    simp [run_load, this, toVal, ha]

theorem cells_of {w : World} {blk off : Nat} {cs : Array Value} {e : TypeId} {fr : Nat × Nat} (h : w.heap[blk]? = some (.cells cs e fr)) {a c r : List Value} (hcs : cs.toList = a ++ c ++ r) (ha : a.length = off) : ∀ (j : Nat) v, c[j]? = some v → w.cell? ⟨blk, off + j, none⟩ = some v := by
  intro j v hj
  have hl := (List.getElem?_eq_some_iff.1 hj).1
  rw [cell_of_row w blk (off + j) cs e fr h, ← Array.getElem?_toList, hcs, ← ha, List.append_assoc, List.getElem?_append_right (by omega)]
  rw [show a.length + j - a.length = j by omega, List.getElem?_append_left hl]
  exact hj

theorem loadEff_sound (TOK : TysOK P τ) (I : InvM R M) {t : TypeId} {i : TInfo} (hi : τ t = some i) {a : Arg} {u : Value} (ha : ArgR M a u) {e : Eff} (h : loadEff i.g a = some e) :
    ∃ v, (Instr.loadAt t u).run P M.w = .ok v M.w ∧ e.wr = [] ∧ RelV M e.av v ∧ ∃ y, e.av = .val i.g y := by
  have T := TOK t i hi
  unfold loadEff at h
  split at h
  · rename_i b g' p hh x
    split at h
    · rename_i k y hs
      split at h
      · rename_i hg _
        subst hg
        simp only [v0, Option.some.injEq] at h
        subst h
        obtain ⟨blk, d, h1, _, h2, h3, rfl⟩ := boxVar ha
        obtain ⟨blk', cs, e', hv', q2, q3, q4, q5⟩ := I.boxes b d _ h1
        have hbb : blk' = blk := by rw [hv'] at h3; simpa [blkOf] using h3
        subst hbb
        obtain ⟨a1, c1, r1, k1, k2, k3⟩ := Enc.sub p q3 hs h2
        have hl := loadVar_at (P := P) T (w := M.w) k3 (blk := blk') (off := offs hh p) (cells_of q2 k1 k2)
        refine ⟨_, by simpa [Instr.loadAt, Instr.sureAddr] using hl, rfl, ?_, y, rfl⟩
        simp only [RelV]; exact ⟨c1, k3, rfl⟩
      · cases h
    · cases h
  · rename_i b g' p el hh xs fz
    split at h
    · rename_i k y hs
      split at h
      · rename_i hg _
        subst hg
        simp only [v0, Option.some.injEq] at h
        subst h
        obtain ⟨blk, d, f', h1, h2, h3, rfl⟩ := ptrRow ha
        obtain ⟨cs, q1, q2, q3, q4, q5, q6⟩ := I.boxes b d _ h1
        obtain ⟨rfl, ii, q, hpq, hii, hq⟩ := h2
        have hpne : p ≠ [] := by rw [hpq]; simp
        have hs' := sub_any (m := xs.length) hpne hs
        have henc : Enc M.w M.S (.arr xs.length hh) xs cs := ⟨rfl, q2⟩
        have hin : inB (.arr xs.length hh) p := by rw [hpq]; exact ⟨hii, hq⟩
        obtain ⟨a1, c1, r1, k1, k2, k3⟩ := Enc.sub p henc hs' hin
        rcases q1.2 with ⟨hn, _⟩ | ⟨blk', cap, cur, hv', r1', r2, r3, r4, r5, r6⟩
        · rw [hn] at h3; simp [blkOf] at h3
        have hbb : blk' = blk := by rw [hv'] at h3; simpa [blkOf] using h3
        subst hbb
        have hcur : cur.toList = a1 ++ c1 ++ (r1 ++ cur.toList.drop (xs.length * ncell hh)) := by
          conv => lhs; rw [← List.take_append_drop (xs.length * ncell hh) cur.toList, r6, k1]
          simp
        have hl := loadVar_at (P := P) T (w := M.w) k3 (blk := blk') (off := offs (.arr 0 hh) p) (cells_of r2 hcur (by rw [k2, offs_any]))
        refine ⟨_, by simpa [Instr.loadAt, Instr.sureAddr] using hl, rfl, ?_, y, rfl⟩
        simp only [RelV]; exact ⟨c1, k3, rfl⟩
      · cases h
    · cases h
  · rename_i k y b
    split at h
    · rename_i hg _
      subst hg
      simp only [v0, Option.some.injEq] at h
      subst h
      have hr := ha.rel
      simp only [RelV] at hr
      obtain ⟨blk, off, cs, h1, h2, rfl⟩ := hr
      have hl := loadVar_at (P := P) T (w := M.w) h1 (blk := blk) (off := off) (fun j v hv => (h2 j v hv).1)
      refine ⟨_, by simpa [Instr.loadAt, Instr.sureAddr] using hl, rfl, ?_, y, rfl⟩
      simp only [RelV]; exact ⟨cs, h1, rfl⟩
    · cases h
  · cases h

/-! Stores -/

theorem storeVar_run {t : TypeId} {i : TInfo} (T : TyOK P τ t i) {w w' W : World} {S : Stab} {x : den i.g} {cs : List Value} (he : Enc W S i.g x cs) {a : Addr} (h : (storeCells a cs).run P w = .ok () w') : (storeVar t a (toVal i.g cs)).run P w = .ok () w' := by
  obtain ⟨ti, hi, hsz, _⟩ := T.info
  have hc := toVal_cells he
  have hs : (toVal i.g cs).cells.size = ncell i.g := by rw [← he.len, ← Array.length_toList, hc]
  unfold storeVar
  simp only [Sem.run_bind, run_sizeOf' hi, Result.andThen_ok, hsz, hs, ne_eq, not_true_eq_false, if_false, hc]
  exact h

theorem storeEff_sound (TOK : TysOK P τ) (I : InvM R M) {t : TypeId} {i : TInfo} (hi : τ t = some i) {va : AV} {v : Arg} {u uv : Value} (hra : RelV M va u) (hv : ArgR M v uv) {e : Eff} (h : storeEff i.g (argOf M.bs va) v = some e) :
    ∃ w', (Instr.storeAt t u uv).run P M.w = .ok () w' ∧ After R M e undef w' := by
  have T := TOK t i hi
  unfold storeEff at h
  split at h
  · cases h
  rename_i y ws ht
  obtain ⟨hk, S1, f1, vs, h3, rfl⟩ := take_sound I hv ht
  have ha1 := (ArgR.of hra).froze f1
  generalize hargeq : argOf M.bs va = a at h ha1
  split at h
  · rename_i b g' p hh x
    split at h
    · rename_i z hu
      simp only [Option.some.injEq] at h
      subst h
      obtain ⟨blk, d, h1, _, h2, h4, rfl⟩ := boxVar ha1
      obtain ⟨w', r1, r2, r3⟩ := f1.inv.store (P := P) h1 hu h2 h3 h4
      refine ⟨w', ?_, S1, M.β, by simpa [applyB_append, applyB] using r2, ?_, by simp [RelV]⟩
      · have := storeVar_run T h3 r1
        simpa [Instr.storeAt, Instr.sureAddr] using this
      · have := (f1.step.trans r3).mono (K' := killed (ws ++ [(b, false, .var hh z)])) (fun c hc => (hc.elim id id).elim)
        simpa [applyB_append, applyB] using this
    · cases h
  · rename_i b g' p el hh xs
    split at h
    · rename_i z hu
      simp only [Option.some.injEq] at h
      subst h
      obtain ⟨blk, d, f', h1, h2, h4, rfl⟩ := ptrRow ha1
      have hf : f' = false := by
        simp only [argOf, Prod.mk.injEq] at hargeq
        obtain ⟨rfl, hbox⟩ := hargeq
        simp only [boxOf] at hbox
        simp only [applyB] at h1
        rw [h1] at hbox
        simpa using hbox
      subst hf
      obtain ⟨w', r1, r2, r3⟩ := f1.inv.storeRow (P := P) h1 hu (by obtain ⟨rfl, q⟩ := h2; exact ⟨rfl, q⟩) h3 h4
      have hg : g' = .arr 0 hh := h2.1
      subst hg
      refine ⟨w', ?_, S1, M.β, by simpa [applyB] using r2, ?_, by simp [RelV]⟩
      · have := storeVar_run T h3 r1
        simpa [Instr.storeAt, Instr.sureAddr] using this
      · have := (f1.step.trans r3).mono (K' := killed [(b, false, .row el hh z false)]) (fun c hc => (hc.elim id id).elim)
        simpa [applyB] using this
    · cases h
  · cases h

/-! Addresses -/

theorem fieldPlace_run (TOK : TysOK P τ) {f : Field} {j : TInfo} (hj : τ f.type = some j) (h0 : 0 < ncell j.g) (blk off : Nat) (w : World) : (fieldPlace ⟨blk, off, none⟩ f).run P w = .ok ⟨blk, off + f.offset, none⟩ w := by
  obtain ⟨ti, hi, hsz, _⟩ := (TOK _ _ hj).info
  unfold fieldPlace
  simp only [Sem.run_bind, run_sizeOf' hi, Result.andThen_ok]
  rw [if_neg (by omega), Addr.add_lit]
  rfl

/-- The field that a path leads to. -/
theorem structField {t : TypeId} {i : TInfo} (T : TyOK P τ t i) {k : Nat} {h : GTy} (hp : pathTy i.g (fieldPath i.nf k) = some h) (hs : ∃ a b, i.g = .prod a b) (hk : k < i.nf) :
    ∃ fs f j, P.underlying t = some (.struct fs) ∧ fs[k]? = some f ∧ f.offset = offs i.g (fieldPath i.nf k) ∧ inB i.g (fieldPath i.nf k) ∧ τ f.type = some j ∧ j.g = h ∧ 0 < ncell j.g := by
  have hd := T.desc
  obtain ⟨g, nf, by_, el⟩ := i
  obtain ⟨a, b, rfl⟩ := hs
  simp only at hd
  obtain ⟨fs, h1, h2, h3, h4, h5⟩ := hd
  have hlt : k < fs.size := by rw [h2]; exact hk
  obtain ⟨q1, q2, q3, j, q4, q5, q6⟩ := h5 k fs[k] (by simp [hlt])
  simp only at q5 hp
  rw [hp] at q5
  exact ⟨fs, fs[k], j, h1, by simp [hlt], q2, q3, q4, by simpa using q5.symm, q6⟩

theorem fieldOK_spec {i : TInfo} {k : Nat} (h : fieldOK i k = true) : (∃ a b, i.g = .prod a b) ∧ k < i.nf := by
  unfold fieldOK at h
  split at h
  · rename_i a b hg
    exact ⟨⟨a, b, hg⟩, by simpa [Nat.blt_eq] using h⟩
  · cases h

theorem fieldAddrEff_sound (TOK : TysOK P τ) (I : InvM R M) {t : TypeId} {i : TInfo} (hi : τ t = some i) {k : Nat} {va : AV} {u : Value} (ha : RelV M va u) {e : Eff} (h : fieldAddrEff i k (argOf M.bs va) = some e) :
    ∃ v, (Instr.fieldAt t u k).run P M.w = .ok v M.w ∧ e.wr = [] ∧ RelV M e.av v := by
  have T := TOK t i hi
  unfold fieldAddrEff at h
  split at h
  · rename_i b g p B hok hargeq
    simp only [argOf, Prod.mk.injEq] at hargeq
    obtain ⟨rfl, hbox⟩ := hargeq
    split at h
    · rename_i h1 h2 e1 e2
      split at h
      · rename_i hg _
        subst hg
        simp only [v0, Option.some.injEq] at h
        subst h
        obtain ⟨hp, hk⟩ := fieldOK_spec hok
        obtain ⟨fs, f, j, q1, q2, q3, q4, q5, q6, q7⟩ := structField T e2 hp hk
        simp only [RelV] at ha
        obtain ⟨blk, d, B', r1, r2, r3, rfl⟩ := ha
        refine ⟨.pointer (some ⟨blk, offs g p + f.offset, none⟩), ?_, rfl, ?_⟩
        · simp only [Instr.fieldAt, Sem.run_bind, run_underlying q1, Result.andThen_ok, q2, Instr.sureAddr, Sem.run_pure, fieldPlace_run TOK q5 q7]
        · simp only [RelV]
          refine ⟨blk, d, B', r1, ?_, r3, by rw [offs_append e1, q3]⟩
          cases B' with
          | var g' x => exact ⟨r2.1, inB_append e1 r2.2 q4⟩
          | iter _ _ =>
            obtain ⟨rfl, rfl⟩ := r2
            simp only [pathTy, Option.some.injEq] at e1
            obtain ⟨a', b', hp'⟩ := hp
            rw [hp'] at e1
            cases e1
          | row e' h' xs fz =>
            obtain ⟨rfl, ii, q, rfl, s1, s2⟩ := r2
            refine ⟨rfl, ii, q ++ fieldPath i.nf k, by simp, s1, inB_append (h := i.g) (by simpa [pathTy] using e1) s2 q4⟩
      · cases h
    · cases h
  · rename_i g x b hok hargeq
    simp only [argOf, Prod.mk.injEq] at hargeq
    obtain ⟨rfl, hbox⟩ := hargeq
    split at h
    · rename_i hg _
      subst hg
      split at h
      · rename_i hh y hs
        simp only [v0, Option.some.injEq] at h
        subst h
        obtain ⟨hp, hk⟩ := fieldOK_spec hok
        obtain ⟨fs, f, j, q1, q2, q3, q4, q5, q6, q7⟩ := structField T (pathTy_sub hs) hp hk
        simp only [RelV] at ha
        obtain ⟨blk, off, cs, r1, r2, rfl⟩ := ha
        obtain ⟨a1, c1, r, k1, k2, k3⟩ := Enc.sub _ r1 hs q4
        refine ⟨.pointer (some ⟨blk, off + f.offset, none⟩), ?_, rfl, ?_⟩
        · simp only [Instr.fieldAt, Sem.run_bind, run_underlying q1, Result.andThen_ok, q2, Instr.sureAddr, Sem.run_pure, fieldPlace_run TOK q5 q7]
        · simp only [RelV]
          refine ⟨blk, off + f.offset, c1, k3, fun jj v hv => ?_, rfl⟩
          have hl := (List.getElem?_eq_some_iff.1 hv).1
          have := r2 (f.offset + jj) v (by rw [k1, q3, ← k2, List.append_assoc, List.getElem?_append_right (by omega), show a1.length + jj - a1.length = jj by omega, List.getElem?_append_left hl]; exact hv)
          rw [Nat.add_assoc]
          exact this
      · cases h
    · cases h
  · cases h

theorem fieldEff_sound (TOK : TysOK P τ) {t : TypeId} {i : TInfo} (hi : τ t = some i) {k : Nat} {va : AV} {u : Value} (ha : RelV M va u) {e : Eff} (h : fieldEff i k (argOf M.bs va) = some e) :
    ∃ v, (Instr.field t u k).run P M.w = .ok v M.w ∧ e.wr = [] ∧ RelV M e.av v := by
  have T := TOK t i hi
  unfold fieldEff at h
  split at h
  · rename_i g x b hok hargeq
    simp only [argOf, Prod.mk.injEq] at hargeq
    obtain ⟨rfl, hbox⟩ := hargeq
    split at h
    · rename_i hg _
      subst hg
      split at h
      · rename_i hh y hs
        simp only [v0, Option.some.injEq] at h
        subst h
        obtain ⟨hp, hk⟩ := fieldOK_spec hok
        obtain ⟨fs, f, j, q1, q2, q3, q4, q5, q6, q7⟩ := structField T (pathTy_sub hs) hp hk
        simp only [RelV] at ha
        obtain ⟨cs, r1, rfl⟩ := ha
        obtain ⟨a1, c1, r, k1, k2, k3⟩ := Enc.sub _ r1 hs q4
        subst q6
        have hagg : isAgg i.g = true := by obtain ⟨a, b, hab⟩ := hp; rw [hab]; rfl
        have hps := part_sound (P := P) (w := M.w) (TOK _ _ q5) k3 (cs := cs.toArray) (a := a1) (c := c1) (r := r) (by simpa using k1) (off := f.offset) (by rw [k2, q3])
        refine ⟨toVal j.g c1, ?_, rfl, ?_⟩
        · simp only [Instr.field, Sem.run_bind, run_underlying q1, Result.andThen_ok, q2, toVal, hagg, asAgg, Sem.run_pure]
          simpa [toVal] using hps
        · simp only [RelV]; exact ⟨c1, k3, rfl⟩
      · cases h
    · cases h
  · cases h
end
end Go.Ev
/- Indexes, pieces, lengths, conversions. -/
set_option linter.unusedVariables false
set_option linter.unusedSimpArgs false
namespace Go.Ev
section
variable {P : Program} {τ : Tys} {R : Ref} {M : Mem}

theorem inB_nil (g : GTy) : inB g [] := by cases g <;> trivial

theorem asIntAV_spec {v : AV} {i : Int} {u : Value} (h : asIntAV v = some i) (hr : RelV M v u) : ∃ k, u = .int k i ∧ k.has i := by
  unfold asIntAV at h
  split at h
  · rename_i k n
    simp only [Option.some.injEq] at h
    subst h
    obtain ⟨h1, h2⟩ := relInt hr
    exact ⟨k, h1, h2⟩
  · cases h

theorem ix_spec {i n : Int} {known : Bool} {f : Option Prop → Eff} {e : Eff} (h : ix i n known (fun q => some (f q)) = some e) (hn : e.ok) (hf : ∀ q, (f q).need = q) : 0 ≤ i ∧ i < n ∧ ∃ q, e = f q := by
  rcases needIf_spec h with ⟨_, h⟩ | ⟨hp, h⟩
  · simp only [Option.some.injEq] at h
    subst h
    have := hn _ (hf _)
    exact ⟨this.1, this.2, _, rfl⟩
  · simp only [Option.some.injEq] at h
    subst h
    exact ⟨hp.1, hp.2, _, rfl⟩

theorem encL_at {g : GTy} {w : World} {S : Stab} {xs : List (den g)} {cs : List Value} (h : encL (Enc w S g) xs cs) {i : Nat} (hi : i < xs.length) :
    ∃ a c r, cs = a ++ c ++ r ∧ a.length = i * ncell g ∧ Enc w S g (xs.getD i (zero g)) c :=
  encL_get (f := Enc w S g) (fun _ _ => Enc.len) i _ h (getD_some xs i (zero g) hi)

theorem argOf_eq {bs : Bxs} {va v : AV} {B : Option Box} (h : argOf bs va = (v, B)) : va = v ∧ (match boxOf v with | some b => (lk b bs).map (·.2) | none => none) = B := by
  simp only [argOf, Prod.mk.injEq] at h
  obtain ⟨rfl, h⟩ := h
  exact ⟨rfl, h⟩

theorem relTip {b : Nat} {u : Value} {B : Box} (ha : RelV M (.tip b) u) (hb : (lk b M.bs).map (·.2) = some B) : (∃ d, lk b M.bs = some (d, B)) ∧ u = M.β b := by
  simp only [RelV] at ha
  cases hl : lk b M.bs with
  | none => rw [hl] at hb; cases hb
  | some x =>
    rw [hl] at hb
    simp at hb
    exact ⟨⟨x.1, by rw [← hb]⟩, ha.2⟩

/-- A slice's elements lie where it says. -/
theorem rowCells (I : InvM R M) {b : Nat} {d : Bool} {e : Nat} {g : GTy} {xs : List (den g)} {fz : Bool} (hb : lk b M.bs = some (d, .row e g xs fz)) :
    (M.β b = .slice none 0 0 ∧ xs = []) ∨ ∃ blk cap cs, M.β b = .slice (some ⟨blk, 0, none⟩) xs.length cap ∧ xs.length ≤ cap ∧ encL (Enc M.w M.S g) xs cs ∧ ∀ (j : Nat) v, cs[j]? = some v → M.w.cell? ⟨blk, j, none⟩ = some v := by
  obtain ⟨cs, q1, q2, q3, q4, q5, q6⟩ := I.boxes b d _ hb
  rcases q1.2 with ⟨hn, h0⟩ | ⟨blk, cap, cur, hv, r1, r2, r3, r4, r5, r6⟩
  · exact .inl ⟨hn, List.eq_nil_of_length_eq_zero h0⟩
  · refine .inr ⟨blk, cap, cs, hv, r3, q2, fun j v hj => ?_⟩
    have hcur : cur.toList = [] ++ cs ++ cur.toList.drop (xs.length * ncell g) := by
      conv => lhs; rw [← List.take_append_drop (xs.length * ncell g) cur.toList, r6]
      simp
    have := cells_of r2 hcur (off := 0) rfl j v hj
    simpa using this

theorem relSl {g : GTy} {xs : List (den g)} {u : Value} (ha : RelV M (.val (.sl g) xs) u) : ∃ ad cap, u = .slice ad xs.length cap ∧ xs.length ≤ cap ∧ xs.length * lbytes g ≤ maxRow ∧ xs.length ≤ maxRow ∧
    (xs = [] ∨ ∃ blk off cs, ad = some ⟨blk, off, none⟩ ∧ encL (Enc M.w M.S g) xs cs ∧ ∀ (j : Nat) v, cs[j]? = some v → M.w.cell? ⟨blk, off + j, none⟩ = some v ∧ M.S blk (off + j)) := by
  simp only [RelV, Enc] at ha
  obtain ⟨cs, ⟨ad, cap, rfl, h1, h2, h3, h4⟩, rfl⟩ := ha
  exact ⟨ad, cap, rfl, h1, h2, h3, h4⟩

theorem indexAddrEff_sound (TOK : TysOK P τ) (I : InvM R M) {t : TypeId} {i : TInfo} (hi : τ t = some i) {known : Bool} {va vi : AV} {u ui : Value} (ha : RelV M va u) (hvi : RelV M vi ui) {e : Eff} (h : indexAddrEff i.g known (argOf M.bs va) (argOf M.bs vi) = some e) (hn : e.ok) :
    ∃ v, (Instr.indexAt t u ui).run P M.w = .ok v M.w ∧ e.wr = [] ∧ RelV M e.av v := by
  have T := TOK t i hi
  have hd := T.desc
  unfold indexAddrEff at h
  split at h
  · cases h
  rename_i n hii
  obtain ⟨k, rfl, hk⟩ := asIntAV_spec hii hvi
  obtain ⟨g, nf, by_, el⟩ := i
  simp only at h hd
  split at h
  · rename_i _ len hh b g' p gg xx hargeq
    obtain ⟨rfl, hbox⟩ := argOf_eq hargeq
    split at h
    · rename_i kk hp
      split at h
      · rename_i hgd _
        subst hgd
        obtain ⟨h0, h1, q, rfl⟩ := ix_spec (f := fun q => ⟨.ptr b g' (p ++ [.idx n.toNat]), [], q⟩) h hn (fun _ => rfl)
        simp only at hd
        obtain ⟨ee, j, q1, q2, rfl⟩ := hd
        obtain ⟨ti, hti, hsz, _⟩ := (TOK _ _ q2).info
        simp only [RelV] at ha
        obtain ⟨blk, d, B', r1, r2, r3, rfl⟩ := ha
        refine ⟨.pointer (some ⟨blk, offs g' p + n.toNat * ncell j.g, none⟩), ?_, rfl, ?_⟩
        · simp only [Instr.indexAt, asIntOf, Sem.run_bind, Sem.run_pure, Result.andThen_ok, run_underlying q1, Instr.sureAddr, h0, h1, and_self, if_true, run_sizeOf' hti, Addr.add_lit, hsz]
        · simp only [RelV]
          have hin : inB (.arr len j.g) [.idx n.toNat] := by simp only [inB, and_true]; omega
          refine ⟨blk, d, B', r1, ?_, r3, by rw [offs_append hp]; simp [offs]⟩
          cases B' with
          | var g2 x => exact ⟨r2.1, inB_append hp r2.2 hin⟩
          | iter _ _ =>
            obtain ⟨rfl, rfl⟩ := r2
            simp [pathTy] at hp
          | row e' h' xs fz =>
            obtain ⟨rfl, ii, q, rfl, s1, s2⟩ := r2
            exact ⟨rfl, ii, q ++ [.idx n.toNat], by simp, s1, inB_append (by simpa [pathTy] using hp) s2 hin⟩
      · cases h
    · cases h
  · rename_i _ kk b el' hh xs fz hargeq
    obtain ⟨rfl, hbox⟩ := argOf_eq hargeq
    split at h
    · rename_i hgd _
      subst hgd
      obtain ⟨h0, h1, q, rfl⟩ := ix_spec (f := fun q => ⟨.ptr b (.arr 0 kk) [.idx n.toNat], [], q⟩) h hn (fun _ => rfl)
      simp only at hd
      obtain ⟨ee, j, ti, q1, _, q2, rfl, hti, _⟩ := hd
      obtain ⟨ti', hti', hsz, _⟩ := (TOK _ _ q2).info
      obtain ⟨⟨d, hb⟩, rfl⟩ := relTip ha hbox
      rcases rowCells I hb with ⟨_, rfl⟩ | ⟨blk, cap, cs, hβ, hcap, _⟩
      · simp at h1; omega
      refine ⟨.pointer (some ⟨blk, n.toNat * ncell j.g, none⟩), ?_, rfl, ?_⟩
      · rw [hβ]
        simp only [Instr.indexAt, asIntOf, Sem.run_bind, Sem.run_pure, Result.andThen_ok, run_underlying q1, h0, h1, and_self, if_true, run_sizeOf' hti', Addr.add_lit, hsz, Nat.zero_add]
      · simp only [RelV]
        refine ⟨blk, d, _, hb, ⟨rfl, n.toNat, [], rfl, by omega, inB_nil _⟩, by rw [hβ]; rfl, by simp [offs]⟩
    · cases h
  · rename_i _ kk hh xs b hargeq
    obtain ⟨rfl, hbox⟩ := argOf_eq hargeq
    split at h
    · rename_i hgd _
      subst hgd
      obtain ⟨h0, h1, q, rfl⟩ := ix_spec (f := fun q => ⟨.ref kk (List.getD (α := den kk) xs n.toNat (zero kk)), [], q⟩) h hn (fun _ => rfl)
      simp only at hd
      obtain ⟨ee, j, ti, q1, _, q2, rfl, hti, _⟩ := hd
      obtain ⟨ti', hti', hsz, _⟩ := (TOK _ _ q2).info
      obtain ⟨ad, cap, rfl, h2, h3, h4, h5⟩ := relSl ha
      rcases h5 with rfl | ⟨blk, off, cs, rfl, h6, h7⟩
      · simp at h1; omega
      have hlt : n.toNat < List.length (α := den j.g) xs := by omega
      obtain ⟨a1, c1, r1, k1, k2, k3⟩ := encL_at h6 hlt
      refine ⟨.pointer (some ⟨blk, off + n.toNat * ncell j.g, none⟩), ?_, rfl, ?_⟩
      · simp only [Instr.indexAt, asIntOf, Sem.run_bind, Sem.run_pure, Result.andThen_ok, run_underlying q1, h0, h1, and_self, if_true, run_sizeOf' hti', Addr.add_lit, hsz]
      · simp only [RelV]
        refine ⟨blk, off + n.toNat * ncell j.g, c1, k3, fun jj v hv => ?_, rfl⟩
        have hl := (List.getElem?_eq_some_iff.1 hv).1
        have := h7 (n.toNat * ncell j.g + jj) v (by rw [k1, ← k2, List.append_assoc, List.getElem?_append_right (by omega), show a1.length + jj - a1.length = jj by omega, List.getElem?_append_left hl]; exact hv)
        rw [Nat.add_assoc]
        exact this
    · cases h
  · rename_i _ m kk len hh xs b hargeq
    obtain ⟨rfl, hbox⟩ := argOf_eq hargeq
    split at h
    · rename_i hgd _
      injection hgd with e1 e2
      subst e1; subst e2
      obtain ⟨h0, h1, q, rfl⟩ := ix_spec (f := fun q => ⟨.ref kk (List.getD (α := den kk) xs n.toNat (zero kk)), [], q⟩) h hn (fun _ => rfl)
      simp only at hd
      obtain ⟨ee, j, q1, q2, rfl⟩ := hd
      obtain ⟨ti', hti', hsz, _⟩ := (TOK _ _ q2).info
      simp only [RelV] at ha
      obtain ⟨blk, off, cs, ⟨hlen, h6⟩, h7, rfl⟩ := ha
      have hlt : n.toNat < List.length (α := den j.g) xs := by omega
      obtain ⟨a1, c1, r1, k1, k2, k3⟩ := encL_at h6 hlt
      refine ⟨.pointer (some ⟨blk, off + n.toNat * ncell j.g, none⟩), ?_, rfl, ?_⟩
      · simp only [Instr.indexAt, asIntOf, Sem.run_bind, Sem.run_pure, Result.andThen_ok, run_underlying q1, Instr.sureAddr, h0, h1, and_self, if_true, run_sizeOf' hti', Addr.add_lit, hsz]
      · simp only [RelV]
        refine ⟨blk, off + n.toNat * ncell j.g, c1, k3, fun jj v hv => ?_, rfl⟩
        have hl := (List.getElem?_eq_some_iff.1 hv).1
        have := h7 (n.toNat * ncell j.g + jj) v (by rw [k1, ← k2, List.append_assoc, List.getElem?_append_right (by omega), show a1.length + jj - a1.length = jj by omega, List.getElem?_append_left hl]; exact hv)
        rw [Nat.add_assoc]
        exact this
    · cases h
  · cases h

theorem indexEff_sound (TOK : TysOK P τ) {t : TypeId} {i : TInfo} (hi : τ t = some i) {known : Bool} {va vi : AV} {u ui : Value} (ha : RelV M va u) (hvi : RelV M vi ui) {e : Eff} (h : indexEff i.g known (argOf M.bs va) (argOf M.bs vi) = some e) (hn : e.ok) :
    ∃ v, (Instr.index t u ui).run P M.w = .ok v M.w ∧ e.wr = [] ∧ RelV M e.av v := by
  have T := TOK t i hi
  have hd := T.desc
  unfold indexEff at h
  split at h
  · cases h
  rename_i n hii
  obtain ⟨k, rfl, hk⟩ := asIntAV_spec hii hvi
  obtain ⟨g, nf, by_, el⟩ := i
  simp only at h hd
  split at h
  · rename_i _ m kk len hh xs b hargeq
    obtain ⟨rfl, hbox⟩ := argOf_eq hargeq
    split at h
    · rename_i hgd _
      injection hgd with e1 e2
      subst e1; subst e2
      obtain ⟨h0, h1, q, rfl⟩ := ix_spec (f := fun q => ⟨.val kk (List.getD (α := den kk) xs n.toNat (zero kk)), [], q⟩) h hn (fun _ => rfl)
      simp only at hd
      obtain ⟨ee, j, q1, q2, rfl⟩ := hd
      obtain ⟨ti', hti', hsz, _⟩ := (TOK _ _ q2).info
      simp only [RelV] at ha
      obtain ⟨cs, ⟨hlen, h6⟩, rfl⟩ := ha
      have hlt : n.toNat < List.length (α := den j.g) xs := by omega
      obtain ⟨a1, c1, r1, k1, k2, k3⟩ := encL_at h6 hlt
      have hps := part_sound (P := P) (w := M.w) (TOK _ _ q2) k3 (cs := cs.toArray) (a := a1) (c := c1) (r := r1) (by simpa using k1) (off := n.toNat * ncell j.g) k2
      refine ⟨toVal j.g c1, ?_, rfl, ?_⟩
      · show (Instr.index t (.agg cs.toArray) _).run P M.w = _
        simp only [Instr.index, asIntOf, Sem.run_bind, Sem.run_pure, Result.andThen_ok, run_underlying q1, h0, h1, and_self, if_true, run_sizeOf' hti', hsz]
        exact hps
      · simp only [RelV]; exact ⟨c1, k3, rfl⟩
    · cases h
  · rename_i _ s b hargeq
    obtain ⟨rfl, hbox⟩ := argOf_eq hargeq
    obtain ⟨h0, h1, q, rfl⟩ := ix_spec (f := fun q => ⟨.val (.int .u8) ((List.getD (α := UInt8) s n.toNat 0).toNat : Int), [], q⟩) h hn (fun _ => rfl)
    obtain ⟨rfl, _⟩ := relStr ha
    simp only at hd
    have hlt : n.toNat < List.length (α := UInt8) s := by omega
    refine ⟨.int .u8 ((List.getD (α := UInt8) s n.toNat 0).toNat : Int), ?_, rfl, mkInt ?_⟩
    · have hg : (⟨⟨s⟩⟩ : ByteArray)[n.toNat]? = some (List.getD (α := UInt8) s n.toNat 0) := by
        rw [← getD_some (α := UInt8) s n.toNat 0 hlt, getElem?_pos (⟨⟨s⟩⟩ : ByteArray) n.toNat hlt, List.getElem?_eq_getElem hlt]
        rfl
      simp only [Instr.index, asIntOf, Sem.run_bind, Sem.run_pure, Result.andThen_ok, run_underlying hd, h0, if_true, hg]
    · have := UInt8.toNat_lt (List.getD (α := UInt8) s n.toNat 0)
      refine ⟨?_, ?_⟩
      · show (0 : Int) ≤ _; omega
      · show _ ≤ (255 : Int); omega
  · cases h
end
end Go.Ev
/- Pieces, lengths, conversions, tests. -/
set_option linter.unusedVariables false
set_option linter.unusedSimpArgs false
namespace Go.Ev
section
variable {P : Program} {τ : Tys} {R : Ref} {M : Mem}

/-- The values that are bounds. -/
def IntOpt (o : Option Int) (v : Option Value) : Prop :=
  match o, v with
  | none, none => True
  | some i, some v => ∃ k, v = .int k i
  | _, _ => False

theorem bounds_spec {lo hi mx : Option Operand} {ρ : Operand → Value} {l : List AV} {bs : Option Int × Option Int × Option Int} (h : bounds lo.isSome hi.isSome mx.isSome (l.map (argOf M.bs)) = some bs)
    (hr : RelL M l ((lo.toList ++ hi.toList ++ mx.toList).map ρ)) : IntOpt bs.1 (lo.map ρ) ∧ IntOpt bs.2.1 (hi.map ρ) ∧ IntOpt bs.2.2 (mx.map ρ) := by
  have one : ∀ {v : AV} {i : Int} {u : Value}, asIntAV v = some i → RelV M v u → ∃ k, u = .int k i := fun h1 h2 => let ⟨k, e, _⟩ := asIntAV_spec h1 h2; ⟨k, e⟩
  cases lo <;> cases hi <;> cases mx <;> simp only [Option.isSome_none, Option.isSome_some, Option.toList_none, Option.toList_some, List.nil_append, List.append_nil, List.map_nil, List.map_cons, List.singleton_append, List.cons_append] at h hr
  · match l, hr with
    | [], _ =>
      simp [bounds] at h; subst h; simp [IntOpt]
  · match l, hr with
    | [c], _ => simp [bounds] at h
  · match l, hr with
    | [b], hr =>
      simp only [RelL, and_true] at hr
      simp only [bounds, List.map_cons, List.map_nil, argOf] at h
      cases hb : asIntAV b with
      | none => simp [hb] at h
      | some j => simp [hb] at h; subst h; exact ⟨trivial, one hb hr, trivial⟩
  · match l, hr with
    | [b, c], hr =>
      simp only [RelL, and_true] at hr
      simp only [bounds, List.map_cons, List.map_nil, argOf] at h
      cases hb : asIntAV b with
      | none => simp [hb] at h
      | some j =>
        cases hc : asIntAV c with
        | none => simp [hb, hc] at h
        | some m => simp [hb, hc] at h; subst h; exact ⟨trivial, one hb hr.1, one hc hr.2⟩
  · match l, hr with
    | [b], hr =>
      simp only [RelL, and_true] at hr
      simp only [bounds, List.map_cons, List.map_nil, argOf] at h
      cases hb : asIntAV b with
      | none => simp [hb] at h
      | some j => simp [hb] at h; subst h; exact ⟨one hb hr, trivial, trivial⟩
  · match l, hr with
    | [b, c], _ => simp [bounds] at h
  · match l, hr with
    | [b, c], hr =>
      simp only [RelL, and_true] at hr
      simp only [bounds, List.map_cons, List.map_nil, argOf] at h
      cases hb : asIntAV b with
      | none => simp [hb] at h
      | some j =>
        cases hc : asIntAV c with
        | none => simp [hb, hc] at h
        | some m => simp [hb, hc] at h; subst h; exact ⟨one hb hr.1, one hc hr.2, trivial⟩
  · match l, hr with
    | [a, b, c], hr =>
      simp only [RelL, and_true] at hr
      simp only [bounds, List.map_cons, List.map_nil, argOf] at h
      cases ha : asIntAV a with
      | none => simp [ha] at h
      | some i =>
        cases hb : asIntAV b with
        | none => simp [ha, hb] at h
        | some j =>
          cases hc : asIntAV c with
          | none => simp [ha, hb, hc] at h
          | some m => simp [ha, hb, hc] at h; subst h; exact ⟨one ha hr.1, one hb hr.2.1, one hc hr.2.2⟩

/-- What 'piece' asks, in numbers. -/
def loOf (lo : Option Int) : Nat := match lo with | none => 0 | some i => i.toNat
def hiOf (hi : Option Int) (n : Nat) : Nat := match hi with | none => n | some j => j.toNat

theorem piece_list {α : Type} (l : List α) (lo hi : Option Int) : (piece l lo hi).1 = (l.take (hiOf hi l.length)).drop (loOf lo) := by
  cases lo <;> cases hi <;> simp [piece, loOf, hiOf]

theorem piece_ok {α : Type} {l : List α} {lo hi : Option Int} (h : ∀ p, (piece l lo hi).2 = some p → p) : loOf lo ≤ hiOf hi l.length ∧ hiOf hi l.length ≤ l.length ∧ (∀ i, lo = some i → 0 ≤ i) ∧ (∀ j, hi = some j → 0 ≤ j) := by
  cases lo with
  | none =>
    cases hi with
    | none => simp [loOf, hiOf]
    | some j =>
      have := h _ rfl
      simp [loOf, hiOf]; omega
  | some i =>
    cases hi with
    | none =>
      have := h _ rfl
      simp [loOf, hiOf]; omega
    | some j =>
      have := h _ rfl
      simp [loOf, hiOf]; omega

theorem sliceBounds_run {isSlice : Bool} {n c : Nat} {lo hi mx : Option Int} {vlo vhi vmx : Option Value} (h1 : IntOpt lo vlo) (h2 : IntOpt hi vhi) (h3 : IntOpt mx vmx) (hnc : n ≤ c) (a : loOf lo ≤ hiOf hi n) (b : hiOf hi n ≤ n) (c1 : ∀ i, lo = some i → 0 ≤ i) (c2 : ∀ j, hi = some j → 0 ≤ j)
    (c3 : ∀ m, mx = some m → hi.isSome = true ∧ 0 ≤ m ∧ (hiOf hi n : Int) ≤ m ∧ m ≤ c) (w : World) :
    (Instr.sliceBounds isSlice n c vlo vhi vmx).run P w = .ok (loOf lo, hiOf hi n, match mx with | none => c | some m => m.toNat) w := by
  have hb : ∀ {i : Int} {y : Nat} {k : IntKind} {code : BoundsCode}, 0 ≤ i → i ≤ y → (Instr.sliceBound (.int k i) y code).run P w = .ok i.toNat w := by
    intro i y k code h0 h1
    simp [Instr.sliceBound, asIntOf, h0, h1]
  cases lo with
  | none =>
    cases vlo with
    | some _ => exact h1.elim
    | none =>
      cases hi with
      | none =>
        cases vhi with
        | some _ => exact h2.elim
        | none =>
          cases mx with
          | some m => have := (c3 m rfl).1; simp at this
          | none =>
            cases vmx with
            | some _ => exact h3.elim
            | none => simp [Instr.sliceBounds, loOf, hiOf]
      | some j =>
        cases vhi with
        | none => exact h2.elim
        | some v =>
          obtain ⟨k, rfl⟩ := h2
          have j0 := c2 j rfl
          simp only [hiOf] at b
          cases mx with
          | none =>
            cases vmx with
            | some _ => exact h3.elim
            | none => simp [Instr.sliceBounds, loOf, hiOf, hb j0 (show j ≤ ((c : Nat) : Int) by omega)]
          | some m =>
            cases vmx with
            | none => exact h3.elim
            | some v =>
              obtain ⟨k', rfl⟩ := h3
              obtain ⟨_, m0, m1, m2⟩ := c3 m rfl
              simp only [hiOf] at m1
              simp [Instr.sliceBounds, loOf, hiOf, hb m0 m2, hb j0 (show j ≤ ((m.toNat : Nat) : Int) by omega)]
  | some i =>
    cases vlo with
    | none => exact h1.elim
    | some v =>
      obtain ⟨ki, rfl⟩ := h1
      have i0 := c1 i rfl
      simp only [loOf] at a
      cases hi with
      | none =>
        cases vhi with
        | some _ => exact h2.elim
        | none =>
          cases mx with
          | some m => have := (c3 m rfl).1; simp at this
          | none =>
            cases vmx with
            | some _ => exact h3.elim
            | none =>
              simp only [hiOf] at a
              simp [Instr.sliceBounds, loOf, hiOf, hb i0 (show i ≤ ((n : Nat) : Int) by omega)]
      | some j =>
        cases vhi with
        | none => exact h2.elim
        | some v =>
          obtain ⟨k, rfl⟩ := h2
          have j0 := c2 j rfl
          simp only [hiOf] at a b
          cases mx with
          | none =>
            cases vmx with
            | some _ => exact h3.elim
            | none => simp [Instr.sliceBounds, loOf, hiOf, hb j0 (show j ≤ ((c : Nat) : Int) by omega), hb i0 (show i ≤ ((j.toNat : Nat) : Int) by omega)]
          | some m =>
            cases vmx with
            | none => exact h3.elim
            | some v =>
              obtain ⟨k', rfl⟩ := h3
              obtain ⟨_, m0, m1, m2⟩ := c3 m rfl
              simp only [hiOf] at m1
              simp [Instr.sliceBounds, loOf, hiOf, hb m0 m2, hb j0 (show j ≤ ((m.toNat : Nat) : Int) by omega), hb i0 (show i ≤ ((j.toNat : Nat) : Int) by omega)]

theorem encL_split {α : Type} {f : α → List Value → Prop} {n : Nat} (hn : ∀ x c, f x c → c.length = n) : ∀ (k : Nat) {xs : List α} {cs : List Value}, encL f xs cs → encL f (xs.take k) (cs.take (k * n)) ∧ encL f (xs.drop k) (cs.drop (k * n))
  | 0, xs, cs, h => by simp [encL]; exact h
  | k + 1, [], cs, h => by rw [show cs = [] from h]; simp [encL]
  | k + 1, x :: xs, cs, ⟨c, d, e, h1, h2⟩ => by
    obtain ⟨q1, q2⟩ := encL_split hn k h2
    have hl := hn _ _ h1
    have e1 : (k + 1) * n = c.length + k * n := by rw [hl, Nat.add_mul, Nat.one_mul, Nat.add_comm]
    rw [e, e1]
    refine ⟨⟨c, d.take (k * n), ?_, h1, q1⟩, ?_⟩
    · simp [List.take_append]
      rw [List.take_of_length_le (by omega)]
    · simp only [List.drop_succ_cons]
      rw [show (c ++ d).drop (c.length + k * n) = d.drop (k * n) from by simp]
      exact q2
end
end Go.Ev
/- Slice expressions, len, conversions, operators, picks. -/
set_option linter.unusedVariables false
set_option linter.unusedSimpArgs false
namespace Go.Ev
section
variable {P : Program} {τ : Tys} {R : Ref} {M : Mem}

theorem str_extract (s : List UInt8) (l h : Nat) (h1 : l ≤ h) (h2 : h ≤ s.length) : (⟨⟨s⟩⟩ : ByteArray).extract l h = ⟨⟨(s.take h).drop l⟩⟩ := by
  apply ByteArray.ext
  rw [ByteArray.data_extract]
  apply Array.ext'
  rw [Array.toList_extract]
  simp [List.extract_eq_take_drop, List.drop_take]

/-- A piece of a slice that lies somewhere. -/
theorem relPiece {g : GTy} {xs : List (den g)} {ad : Option Addr} {cap : Nat} {S : Stab} {lo hi : Nat} (h1 : lo ≤ hi) (h2 : hi ≤ xs.length) (hcap : xs.length ≤ cap) {m : Nat} (hm : hi ≤ m) (hb : xs.length * lbytes g ≤ maxRow) (hl : xs.length ≤ maxRow)
    (hx : xs = [] ∨ ∃ blk off cs, ad = some ⟨blk, off, none⟩ ∧ encL (Enc M.w S g) xs cs ∧ ∀ (j : Nat) v, cs[j]? = some v → M.w.cell? ⟨blk, off + j, none⟩ = some v ∧ S blk (off + j)) (size : Nat) (hsz : size = ncell g) (a' : Option Addr) (ha' : m ≠ lo → a' = ad.map (·.add (lo * size))) :
    Enc M.w S (.sl g) ((xs.take hi).drop lo) [.slice a' (hi - lo) (m - lo)] := by
  have hlen : ((xs.take hi).drop lo).length = hi - lo := by simp; omega
  refine ⟨a', m - lo, by rw [show List.length (α := den g) ((xs.take hi).drop lo) = hi - lo from hlen], by show ((xs.take hi).drop lo).length ≤ _; rw [hlen]; omega, ?_, ?_, ?_⟩
  · show ((xs.take hi).drop lo).length * lbytes g ≤ maxRow
    rw [hlen]
    exact Nat.le_trans (Nat.mul_le_mul_right _ (by omega)) hb
  · show ((xs.take hi).drop lo).length ≤ maxRow
    rw [hlen]; omega
  · by_cases he : lo = hi
    · left
      apply List.eq_nil_of_length_eq_zero
      show ((xs.take hi).drop lo).length = 0
      rw [hlen]; omega
    · right
      rcases hx with rfl | ⟨blk, off, cs, rfl, e1, e2⟩
      · simp at h2; omega
      · have hs1 := (encL_split (f := Enc M.w S g) (fun _ _ hh => Enc.len hh) hi e1).1
        have hs2 := (encL_split (f := Enc M.w S g) (fun _ _ hh => Enc.len hh) lo hs1).2
        refine ⟨blk, off + lo * ncell g, _, ?_, hs2, fun j v hj => ?_⟩
        · rw [ha' (by omega), hsz]
          simp [Addr.add_lit]
        · rw [List.getElem?_drop] at hj
          have hj' : cs[lo * ncell g + j]? = some v := by
            rw [List.getElem?_take] at hj
            split at hj
            · exact hj
            · cases hj
          rw [Nat.add_assoc]
          exact e2 _ v hj'

theorem sliceEff_sound (TOK : TysOK P τ) (I : InvM R M) {t : TypeId} {i : TInfo} (hi : τ t = some i) {va : AV} {u : Value} (ha : RelV M va u) {bs : Option Int × Option Int × Option Int} {lo hi' mx : Option Value} (hb : IntOpt bs.1 lo ∧ IntOpt bs.2.1 hi' ∧ IntOpt bs.2.2 mx) {e : Eff} (h : sliceEff i.g (argOf M.bs va) (some bs) = some e) (hn : e.ok) :
    ∃ v, (Instr.sliceAt t u lo hi' mx).run P M.w = .ok v M.w ∧ After R M e v M.w := by
  have T := TOK t i hi
  have hd := T.desc
  obtain ⟨blo, bhi, bmx⟩ := bs
  obtain ⟨hb1, hb2, hb3⟩ := hb
  unfold sliceEff at h
  obtain ⟨g, nf, by_, el⟩ := i
  simp only at h hd
  split at h
  · rename_i s b hargeq
    obtain ⟨rfl, hbox⟩ := argOf_eq hargeq
    split at h
    · simp only [Option.some.injEq] at h
      subst h
      obtain ⟨rfl, hs⟩ := relStr ha
      obtain ⟨p1, p2, p3, p4⟩ := piece_ok (l := s) (lo := blo) (hi := bhi) (fun p hp => hn p hp)
      have hsb := sliceBounds_run (P := P) (isSlice := false) (n := s.length) (c := s.length) hb1 hb2 hb3 (Nat.le_refl _) p1 p2 p3 p4 (fun m hm => by cases hm) M.w
      simp only at hd
      have hmx : mx = none := by cases mx with | none => rfl | some _ => exact hb3.elim
      subst hmx
      refine ⟨.string ⟨⟨(s.take (hiOf bhi s.length)).drop (loOf blo)⟩⟩, ?_, ?_⟩
      · have hsz : (⟨⟨s⟩⟩ : ByteArray).size = s.length := rfl
        simp only [Instr.sliceAt, Instr.slice, Sem.run_bind, run_underlying hd, Result.andThen_ok, hsz, hsb, Option.isSome_none, Bool.false_eq_true, if_false, Sem.run_pure, str_extract s _ _ p1 p2]
      · refine After.pure I ?_
        show RelV M (.val .str (piece s blo bhi).1) _
        rw [piece_list]
        refine mkStr ?_
        simp; omega
    · cases h
  · rename_i gg xs b hargeq
    obtain ⟨rfl, hbox⟩ := argOf_eq hargeq
    obtain ⟨ad, cap, rfl, h2, h3, h4, h5⟩ := relSl ha
    have fin : ∀ (m : Nat), hiOf bhi (List.length (α := den gg) xs) ≤ m → g = .sl gg → e = ⟨.val (.sl gg) (piece (show List (den gg) from xs) blo bhi).1, [], e.need⟩ → loOf blo ≤ hiOf bhi (List.length (α := den gg) xs) → hiOf bhi (List.length (α := den gg) xs) ≤ List.length (α := den gg) xs →
        (Instr.sliceBounds true (List.length (α := den gg) xs) cap lo hi' mx).run P M.w = .ok (loOf blo, hiOf bhi (List.length (α := den gg) xs), m) M.w →
        ∃ v, (Instr.sliceAt t (.slice ad (List.length (α := den gg) xs) cap) lo hi' mx).run P M.w = .ok v M.w ∧ After R M e v M.w := by
      intro m hm hg he q1 q2 hrun
      subst hg
      simp only at hd
      obtain ⟨ee, j, ti, r1, _, r2, rfl, hti, _⟩ := hd
      obtain ⟨ti', hti', hsz, _⟩ := (TOK _ _ r2).info
      refine ⟨.slice (if m = loOf blo then ad else ad.map (·.add (loOf blo * ti'.size))) (hiOf bhi (List.length (α := den j.g) xs) - loOf blo) (m - loOf blo), ?_, ?_⟩
      · simp only [Instr.sliceAt, Instr.slice, Sem.run_bind, run_underlying r1, Result.andThen_ok, hrun, run_sizeOf' hti', Sem.run_pure]
      · rw [he]
        refine After.pure I ?_
        simp only [RelV]
        rw [piece_list]
        exact ⟨_, relPiece (M := M) (S := M.S) q1 q2 h2 hm h3 h4 h5 ti'.size hsz _ (fun hne => by rw [if_neg hne]), rfl⟩
    split at h
    · rename_i bhi _ _ _ hgd _
      simp only [Option.some.injEq] at h
      have hneed : ∀ p, (piece (show List (den gg) from xs) blo bhi).2 = some p → p := fun p hp => hn p (by rw [← h]; exact hp)
      obtain ⟨p1, p2, p3, p4⟩ := piece_ok hneed
      have hsb := sliceBounds_run (P := P) (isSlice := true) (n := List.length (α := den gg) xs) (c := cap) hb1 hb2 hb3 h2 p1 p2 p3 p4 (fun m hm => by cases hm) M.w
      exact fin cap (Nat.le_trans p2 h2) hgd (by rw [← h]) p1 p2 hsb
    · rename_i hgd m j _
      simp only [Option.some.injEq] at h
      have hneed : ∀ p, both (piece (show List (den gg) from xs) blo (some j)).2 (j ≤ m ∧ m ≤ List.length (α := den gg) xs) = some p → p := fun p hp => hn p (by rw [← h]; exact hp)
      have hn2 : (∀ p, (piece (show List (den gg) from xs) blo (some j)).2 = some p → p) ∧ j ≤ m ∧ m ≤ List.length (α := den gg) xs := by
        cases hp : (piece (show List (den gg) from xs) blo (some j)).2 with
        | none => rw [hp] at hneed; exact ⟨fun p hp => (by cases hp), hneed _ rfl⟩
        | some q => rw [hp] at hneed; have := hneed _ rfl; exact ⟨fun p hp => (by injection hp with hp; rw [← hp]; exact this.1), this.2⟩
      obtain ⟨p1, p2, p3, p4⟩ := piece_ok hn2.1
      have j0 := p4 j rfl
      have hc3 : ∀ m', some m = some m' → (some j).isSome = true ∧ 0 ≤ m' ∧ (hiOf (some j) (List.length (α := den gg) xs) : Int) ≤ m' ∧ m' ≤ cap := by
        intro m' hm
        injection hm with hm; subst hm
        simp only [hiOf] at p2 ⊢
        exact ⟨rfl, by omega, by omega, by omega⟩
      have hsb := sliceBounds_run (P := P) (isSlice := true) (n := List.length (α := den gg) xs) (c := cap) hb1 hb2 hb3 h2 p1 p2 p3 p4 hc3 M.w
      exact fin m.toNat (by simp only [hiOf]; omega) hgd (by rw [← h]) p1 p2 hsb
    · cases h
  · rename_i b el' gg xs fz hargeq
    obtain ⟨rfl, hbox⟩ := argOf_eq hargeq
    split at h
    · rename_i hgd _
      subst hgd
      simp only [Option.some.injEq] at h
      subst h
      obtain ⟨⟨d, hb⟩, rfl⟩ := relTip ha hbox
      obtain ⟨p1, p2, p3, p4⟩ := piece_ok (l := xs) (lo := blo) (hi := bhi) (fun p hp => hn p hp)
      obtain ⟨S', J, s, en⟩ := I.freeze hb
      obtain ⟨ad, cap, hv, h2, h3, h4, h5⟩ := en
      have hv : M.β b = .slice ad xs.length cap := by simpa using hv
      have hsb := sliceBounds_run (P := P) (isSlice := true) (n := xs.length) (c := cap) hb1 hb2 hb3 h2 p1 p2 p3 p4 (fun m hm => by cases hm) M.w
      simp only at hd
      obtain ⟨ee, j, ti, r1, _, r2, rfl, hti, _⟩ := hd
      obtain ⟨ti', hti', hsz, _⟩ := (TOK _ _ r2).info
      refine ⟨.slice (if cap = loOf blo then ad else ad.map (·.add (loOf blo * ti'.size))) (hiOf bhi xs.length - loOf blo) (cap - loOf blo), ?_, S', M.β, J, s.mono (fun _ h => h.elim), ?_⟩
      · rw [hv]
        simp only [Instr.sliceAt, Instr.slice, Sem.run_bind, run_underlying r1, Result.andThen_ok, hsb, run_sizeOf' hti', Sem.run_pure]
      · simp only [RelV]
        rw [piece_list]
        exact ⟨_, relPiece (M := M) (S := S') p1 p2 h2 (by omega) h3 h4 h5 ti'.size hsz _ (fun hne => by rw [if_neg hne]), rfl⟩
    · cases h
  · cases h

theorem lenEff_sound (TOK : TysOK P τ) (I : InvM R M) {t : TypeId} {i : TInfo} (hi : τ t = some i) {va : AV} {u : Value} (ha : RelV M va u) {e : Eff} (h : lenEff i.g (argOf M.bs va) = some e) (ty : TypeId) :
    ∃ v, (Builtin.len_ #[t] ty #[u]).run P M.w = .ok v M.w ∧ e.wr = [] ∧ RelV M e.av v := by
  have T := TOK t i hi
  have hd := T.desc
  have big : ∀ n : Nat, n ≤ maxRow → IntKind.i64.has n := by
    intro n hn
    simp only [maxRow] at hn
    refine ⟨?_, ?_⟩
    · have : IntKind.i64.min = -9223372036854775808 := by decide
      omega
    · have : IntKind.i64.max = 9223372036854775807 := by decide
      omega
  obtain ⟨g, nf, by_, el⟩ := i
  unfold lenEff at h
  simp only at h hd
  split at h
  · rename_i _ s b hargeq
    obtain ⟨rfl, hbox⟩ := argOf_eq hargeq
    obtain ⟨rfl, hs⟩ := relStr ha
    simp only [v0, Option.some.injEq] at h
    subst h
    refine ⟨goInt s.length, by simp [Builtin.len_, run_underlying hd]; rfl, rfl, mkInt ?_⟩
    refine ⟨?_, ?_⟩
    · have : IntKind.i64.min = -9223372036854775808 := by decide
      show IntKind.i64.min ≤ _; omega
    · have : IntKind.i64.max = 9223372036854775807 := by decide
      simp only [maxStr] at hs
      show _ ≤ IntKind.i64.max
      have hs' : List.length s ≤ 4611686018427387904 := hs
      omega
  · rename_i _ n gg m g2 xs b hargeq
    obtain ⟨rfl, hbox⟩ := argOf_eq hargeq
    split at h
    case h_2 => cases h
    rename_i hble
    simp only [v0, Option.some.injEq] at h
    subst h
    obtain ⟨ee, j, q1, q2, rfl⟩ := hd
    exact ⟨goInt n, by simp [Builtin.len_, run_underlying q1], rfl, mkInt (big _ (Nat.le_of_ble_eq_true hble))⟩
  · rename_i _ gg g2 xs b hargeq
    obtain ⟨rfl, hbox⟩ := argOf_eq hargeq
    simp only [v0, Option.some.injEq] at h
    subst h
    obtain ⟨ad, cap, rfl, h2, h3, h4, h5⟩ := relSl ha
    obtain ⟨ee, j, ti, q1, _⟩ := hd
    exact ⟨goInt (List.length (α := den g2) xs), by simp [Builtin.len_, run_underlying q1], rfl, mkInt (big _ h4)⟩
  · rename_i _ gg b el' g2 xs fz hargeq
    obtain ⟨rfl, hbox⟩ := argOf_eq hargeq
    simp only [v0, Option.some.injEq] at h
    subst h
    obtain ⟨⟨d, hb⟩, rfl⟩ := relTip ha hbox
    obtain ⟨ee, j, ti, q1, _⟩ := hd
    obtain ⟨cs, r1, r2, r3, r4, _⟩ := I.boxes b d _ hb
    refine ⟨goInt xs.length, ?_, rfl, mkInt (big _ r4)⟩
    rcases r1.2 with ⟨hn, h0⟩ | ⟨blk, cap, cur, hv, _⟩
    · rw [hn, h0]; simp [Builtin.len_, run_underlying q1]
    · rw [hv]; simp [Builtin.len_, run_underlying q1]
  · rename_i _ gg b hargeq
    obtain ⟨rfl, hbox⟩ := argOf_eq hargeq
    simp only [v0, Option.some.injEq] at h
    subst h
    simp only [RelV] at ha
    subst ha
    obtain ⟨ee, j, ti, q1, _⟩ := hd
    exact ⟨goInt 0, by simp [Builtin.len_, run_underlying q1], rfl, mkInt (has_zero _)⟩
  · cases h
end
end Go.Ev
