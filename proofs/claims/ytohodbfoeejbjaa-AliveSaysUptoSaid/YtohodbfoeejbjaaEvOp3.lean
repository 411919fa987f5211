/- Each operation does what the evaluator says. -/
import Derived.Test.YtohodbfoeejbjaaEvOp2
set_option linter.unusedVariables false
set_option linter.unusedSimpArgs false
namespace Go.Ev

/-- Where new values lie: what was stable, and new blocks. -/
def RelRes (w : World) (S : Stab) (gs : List GTy) (x : dens gs) (v : Value) : Prop :=
  ∃ us, EncD w S gs x us ∧ v = (match us with | [u] => u | _ => .tuple us.toArray)

/-- What is told of a function is so. -/
def CtrOK (P : Program) (f : Nat) (c : Ctr) : Prop :=
  (∃ fn, P.funcs[f]? = some fn ∧ fn.body.isNone = false ∧ (fn.name == "runtime.NumGoroutine") = false) ∧
  ∀ (w : World) (S : Stab) (us : List Value) (x : dens c.args), (∀ b o, S b o → b < w.heap.size) → EncD w S c.args x us → (∀ p, c.pre = some p → p x) →
    Calls P f us.toArray w (fun e w' => ∃ v, e = .returned v ∧ Grows w w' ∧ ∃ N : Stab, (∀ b o, N b o → w.heap.size ≤ b ∧ b < w'.heap.size) ∧ RelRes w' (fun b o => S b o ∨ N b o) c.res (c.fn x) v)

def CtrsOK (P : Program) (Γ : Ctrs) : Prop := ∀ f c, Γ f = some c → CtrOK P f c

theorem resL_rel {M : Mem} : ∀ {gs : List GTy} {x : dens gs} {us : List Value}, EncD M.w M.S gs x us → RelL M (resL gs x) us
  | [], _, us, h => by rw [show us = [] from h]; simp [resL, RelL]
  | [g], x, us, ⟨cs, h1, h2⟩ => by rw [h2]; simp only [resL, RelL, RelV, and_true]; exact ⟨cs, h1, rfl⟩
  | g :: h :: gs, x, us, ⟨cs, us', h1, h2, h3⟩ => by
    rw [h2]; simp only [resL, RelL, RelV]
    exact ⟨⟨cs, h1, rfl⟩, resL_rel h3⟩

theorem resAV_rel {M : Mem} {gs : List GTy} {x : dens gs} {v : Value} (h : RelRes M.w M.S gs x v) : RelV M (resAV gs x) v := by
  obtain ⟨us, h1, rfl⟩ := h
  have hr := resL_rel (M := M) h1
  have hl := hr.length
  unfold resAV
  split
  · rename_i v hv
    rw [hv] at hr hl
    match us, hl with
    | [u], _ => simp only [RelL, and_true] at hr; exact hr
  · rename_i hne
    match us with
    | [u] =>
      exfalso
      match hh : resL gs x, hl with
      | [v], _ => exact hne v hh
    | [] => simp only [RelV]; exact ⟨_, rfl, by simpa using hr⟩
    | _ :: _ :: _ => simp only [RelV]; exact ⟨_, rfl, by simpa using hr⟩

section
variable {P : Program} {τ : Tys} {R : Ref} {M : Mem}

/-- Rows frozen on the way. -/
theorem After.froze {av : AV} {ws : List (Nat × Bool × Box)} {n : Option Prop} {v : Value} {S' : Stab} (hk : ∀ b, ¬ killed ws b) (h : Froze R M { M with S := S', bs := applyB ws M.bs }) (hr : RelV { M with S := S', bs := applyB ws M.bs } av v) : After R M ⟨av, ws, n⟩ v M.w :=
  ⟨S', M.β, h.inv, h.step.mono (fun b hb => hb.elim), hr⟩

theorem boxVar {b : Nat} {g' : GTy} {p : List PStep} {h : GTy} {x : den h} {u : Value} (ha : ArgR M (.ptr b g' p, some (.var h x)) u) :
    ∃ blk d, lk b M.bs = some (d, .var h x) ∧ g' = h ∧ inB h p ∧ blkOf (M.β b) = some blk ∧ u = .pointer (some ⟨blk, offs h p, none⟩) := by
  obtain ⟨d, B', h1, h2⟩ := ha.box b _ rfl rfl
  have hB : B' = .var h x := by
    cases B' with
    | var g'' x'' =>
      simp only [Box.fz, Box.var.injEq] at h2
      obtain ⟨rfl, h3⟩ := h2
      cases eq_of_heq h3
      rfl
    | row _ _ _ _ => simp [Box.fz] at h2
  subst hB
  have hr := ha.rel
  simp only [RelV] at hr
  obtain ⟨blk, d', B, k1, k2, k3, k4⟩ := hr
  rw [h1] at k1
  simp only [Option.some.injEq, Prod.mk.injEq] at k1
  obtain ⟨rfl, rfl⟩ := k1
  obtain ⟨rfl, k2⟩ := k2
  exact ⟨blk, d, h1, rfl, k2, k3, k4⟩

theorem boxRow {e : Nat} {h : GTy} {xs : List (den h)} {f : Bool} {b d} {B' : Box} (h1 : lk b M.bs = some (d, B')) (h2 : (Box.row e h xs f).fz = B'.fz) : ∃ f', B' = .row e h xs f' := by
  cases B' with
  | var _ _ => simp [Box.fz] at h2
  | row t' g' xs' f' =>
    simp only [Box.fz, Box.row.injEq] at h2
    obtain ⟨rfl, rfl, h3, _⟩ := h2
    cases eq_of_heq h3
    exact ⟨f', rfl⟩

theorem ptrRow {b : Nat} {g' : GTy} {p : List PStep} {e : Nat} {h : GTy} {xs : List (den h)} {f : Bool} {u : Value} (ha : ArgR M (.ptr b g' p, some (.row e h xs f)) u) :
    ∃ blk d f', lk b M.bs = some (d, .row e h xs f') ∧ okPath (.row e h xs f') g' p ∧ blkOf (M.β b) = some blk ∧ u = .pointer (some ⟨blk, offs g' p, none⟩) := by
  obtain ⟨d, B', h1, h2⟩ := ha.box b _ rfl rfl
  obtain ⟨f', rfl⟩ := boxRow h1 h2
  have hr := ha.rel
  simp only [RelV] at hr
  obtain ⟨blk, d', B, k1, k2, k3, k4⟩ := hr
  rw [h1] at k1
  simp only [Option.some.injEq, Prod.mk.injEq] at k1
  obtain ⟨rfl, rfl⟩ := k1
  exact ⟨blk, d, f', h1, k2, k3, k4⟩

theorem tipRow {b : Nat} {e : Nat} {h : GTy} {xs : List (den h)} {f : Bool} {u : Value} (ha : ArgR M (.tip b, some (.row e h xs f)) u) : ∃ d f', lk b M.bs = some (d, .row e h xs f') ∧ u = M.β b := by
  obtain ⟨d, B', h1, h2⟩ := ha.box b _ rfl rfl
  obtain ⟨f', rfl⟩ := boxRow h1 h2
  have hr := ha.rel
  simp only [RelV] at hr
  exact ⟨d, f', h1, hr.2⟩

/-! Loads -/

theorem loadCells_at {w : World} {blk off : Nat} {cs : List Value} (h : ∀ (j : Nat) v, cs[j]? = some v → w.cell? ⟨blk, off + j, none⟩ = some v) : (loadCells ⟨blk, off, none⟩ cs.length).run P w = .ok cs.toArray w :=
  run_loadCells_list w _ cs (fun j v hv => by rw [Addr.add_lit]; exact h j v hv)

theorem loadVar_at {t : TypeId} {i : TInfo} (T : TyOK P τ t i) {w W : World} {S : Stab} {x : den i.g} {cs : List Value} (he : Enc W S i.g x cs) {blk off : Nat} (h : ∀ (j : Nat) v, cs[j]? = some v → w.cell? ⟨blk, off + j, none⟩ = some v) :
    (loadVar t ⟨blk, off, none⟩).run P w = .ok (toVal i.g cs) w := by
  obtain ⟨ti, hi, hsz, _⟩ := T.info
  unfold loadVar
  simp only [Sem.run_bind, run_isAgg' T, Result.andThen_ok]
  cases ha : isAgg i.g with
  | true =>
    simp only [if_true, Sem.run_bind, run_sizeOf' hi, Result.andThen_ok, hsz, ← he.len, loadCells_at (P := P) h, Sem.run_pure, toVal, ha]
  | false =>
    obtain ⟨v, rfl⟩ := cells_one he ha
    have := h 0 v rfl
    simp only [Nat.add_zero] at this
    simp [run_load, this, toVal, ha]

theorem cells_of {w : World} {blk off : Nat} {cs : Array Value} {e : TypeId} {fr : Nat × Nat} (h : w.heap[blk]? = some (.cells cs e fr)) {a c r : List Value} (hcs : cs.toList = a ++ c ++ r) (ha : a.length = off) : ∀ (j : Nat) v, c[j]? = some v → w.cell? ⟨blk, off + j, none⟩ = some v := by
  intro j v hj
  have hl := (List.getElem?_eq_some_iff.1 hj).1
  rw [cell_of_row w blk (off + j) cs e fr h, ← Array.getElem?_toList, hcs, ← ha, List.append_assoc, List.getElem?_append_right (by omega)]
  rw [show a.length + j - a.length = j by omega, List.getElem?_append_left hl]
  exact hj

theorem loadEff_sound (TOK : TysOK P τ) (I : InvM R M) {t : TypeId} {i : TInfo} (hi : τ t = some i) {a : Arg} {u : Value} (ha : ArgR M a u) {e : Eff} (h : loadEff i.g a = some e) :
    ∃ v, (Instr.loadAt t u).run P M.w = .ok v M.w ∧ e.wr = [] ∧ RelV M e.av v ∧ ∃ y, e.av = .val i.g y := by
  have T := TOK t i hi
  unfold loadEff at h
  split at h
  · rename_i b g' p hh x
    split at h
    · rename_i k y hs
      split at h
      · rename_i hg _
        subst hg
        simp only [v0, Option.some.injEq] at h
        subst h
        obtain ⟨blk, d, h1, _, h2, h3, rfl⟩ := boxVar ha
        obtain ⟨blk', cs, e', hv', q2, q3, q4, q5⟩ := I.boxes b d _ h1
        have hbb : blk' = blk := by rw [hv'] at h3; simpa [blkOf] using h3
        subst hbb
        obtain ⟨a1, c1, r1, k1, k2, k3⟩ := Enc.sub p q3 hs h2
        have hl := loadVar_at (P := P) T (w := M.w) k3 (blk := blk') (off := offs hh p) (cells_of q2 k1 k2)
        refine ⟨_, by simpa [Instr.loadAt, Instr.sureAddr] using hl, rfl, ?_, y, rfl⟩
        simp only [RelV]; exact ⟨c1, k3, rfl⟩
      · cases h
    · cases h
  · rename_i b g' p el hh xs fz
    split at h
    · rename_i k y hs
      split at h
      · rename_i hg _
        subst hg
        simp only [v0, Option.some.injEq] at h
        subst h
        obtain ⟨blk, d, f', h1, h2, h3, rfl⟩ := ptrRow ha
        obtain ⟨cs, q1, q2, q3, q4, q5, q6⟩ := I.boxes b d _ h1
        obtain ⟨rfl, ii, q, hpq, hii, hq⟩ := h2
        have hpne : p ≠ [] := by rw [hpq]; simp
        have hs' := sub_any (m := xs.length) hpne hs
        have henc : Enc M.w M.S (.arr xs.length hh) xs cs := ⟨rfl, q2⟩
        have hin : inB (.arr xs.length hh) p := by rw [hpq]; exact ⟨hii, hq⟩
        obtain ⟨a1, c1, r1, k1, k2, k3⟩ := Enc.sub p henc hs' hin
        rcases q1.2 with ⟨hn, _⟩ | ⟨blk', cap, cur, hv', r1', r2, r3, r4, r5, r6⟩
        · rw [hn] at h3; simp [blkOf] at h3
        have hbb : blk' = blk := by rw [hv'] at h3; simpa [blkOf] using h3
        subst hbb
        have hcur : cur.toList = a1 ++ c1 ++ (r1 ++ cur.toList.drop (xs.length * ncell hh)) := by
          conv => lhs; rw [← List.take_append_drop (xs.length * ncell hh) cur.toList, r6, k1]
          simp
        have hl := loadVar_at (P := P) T (w := M.w) k3 (blk := blk') (off := offs (.arr 0 hh) p) (cells_of r2 hcur (by rw [k2, offs_any]))
        refine ⟨_, by simpa [Instr.loadAt, Instr.sureAddr] using hl, rfl, ?_, y, rfl⟩
        simp only [RelV]; exact ⟨c1, k3, rfl⟩
      · cases h
    · cases h
  · rename_i k y b
    split at h
    · rename_i hg _
      subst hg
      simp only [v0, Option.some.injEq] at h
      subst h
      have hr := ha.rel
      simp only [RelV] at hr
      obtain ⟨blk, off, cs, h1, h2, rfl⟩ := hr
      have hl := loadVar_at (P := P) T (w := M.w) h1 (blk := blk) (off := off) (fun j v hv => (h2 j v hv).1)
      refine ⟨_, by simpa [Instr.loadAt, Instr.sureAddr] using hl, rfl, ?_, y, rfl⟩
      simp only [RelV]; exact ⟨cs, h1, rfl⟩
    · cases h
  · cases h

/-! Stores -/

theorem storeVar_run {t : TypeId} {i : TInfo} (T : TyOK P τ t i) {w w' W : World} {S : Stab} {x : den i.g} {cs : List Value} (he : Enc W S i.g x cs) {a : Addr} (h : (storeCells a cs).run P w = .ok () w') : (storeVar t a (toVal i.g cs)).run P w = .ok () w' := by
  obtain ⟨ti, hi, hsz, _⟩ := T.info
  have hc := toVal_cells he
  have hs : (toVal i.g cs).cells.size = ncell i.g := by rw [← he.len, ← Array.length_toList, hc]
  unfold storeVar
  simp only [Sem.run_bind, run_sizeOf' hi, Result.andThen_ok, hsz, hs, ne_eq, not_true_eq_false, if_false, hc]
  exact h

theorem storeEff_sound (TOK : TysOK P τ) (I : InvM R M) {t : TypeId} {i : TInfo} (hi : τ t = some i) {va : AV} {v : Arg} {u uv : Value} (hra : RelV M va u) (hv : ArgR M v uv) {e : Eff} (h : storeEff i.g (argOf M.bs va) v = some e) :
    ∃ w', (Instr.storeAt t u uv).run P M.w = .ok () w' ∧ After R M e undef w' := by
  have T := TOK t i hi
  unfold storeEff at h
  split at h
  · cases h
  rename_i y ws ht
  obtain ⟨hk, S1, f1, vs, h3, rfl⟩ := take_sound I hv ht
  have ha1 := (ArgR.of hra).froze f1
  generalize hargeq : argOf M.bs va = a at h ha1
  split at h
  · rename_i b g' p hh x
    split at h
    · rename_i z hu
      simp only [Option.some.injEq] at h
      subst h
      obtain ⟨blk, d, h1, _, h2, h4, rfl⟩ := boxVar ha1
      obtain ⟨w', r1, r2, r3⟩ := f1.inv.store (P := P) h1 hu h2 h3 h4
      refine ⟨w', ?_, S1, M.β, by simpa [applyB_append, applyB] using r2, ?_, by simp [RelV]⟩
      · have := storeVar_run T h3 r1
        simpa [Instr.storeAt, Instr.sureAddr] using this
      · have := (f1.step.trans r3).mono (K' := killed (ws ++ [(b, false, .var hh z)])) (fun c hc => (hc.elim id id).elim)
        simpa [applyB_append, applyB] using this
    · cases h
  · rename_i b g' p el hh xs
    split at h
    · rename_i z hu
      simp only [Option.some.injEq] at h
      subst h
      obtain ⟨blk, d, f', h1, h2, h4, rfl⟩ := ptrRow ha1
      have hf : f' = false := by
        simp only [argOf, Prod.mk.injEq] at hargeq
        obtain ⟨rfl, hbox⟩ := hargeq
        simp only [boxOf] at hbox
        simp only [applyB] at h1
        rw [h1] at hbox
        simpa using hbox
      subst hf
      obtain ⟨w', r1, r2, r3⟩ := f1.inv.storeRow (P := P) h1 hu (by obtain ⟨rfl, q⟩ := h2; exact ⟨rfl, q⟩) h3 h4
      have hg : g' = .arr 0 hh := h2.1
      subst hg
      refine ⟨w', ?_, S1, M.β, by simpa [applyB] using r2, ?_, by simp [RelV]⟩
      · have := storeVar_run T h3 r1
        simpa [Instr.storeAt, Instr.sureAddr] using this
      · have := (f1.step.trans r3).mono (K' := killed [(b, false, .row el hh z false)]) (fun c hc => (hc.elim id id).elim)
        simpa [applyB] using this
    · cases h
  · cases h

/-! Addresses -/

theorem fieldPlace_run (TOK : TysOK P τ) {f : Field} {j : TInfo} (hj : τ f.type = some j) (h0 : 0 < ncell j.g) (blk off : Nat) (w : World) : (fieldPlace ⟨blk, off, none⟩ f).run P w = .ok ⟨blk, off + f.offset, none⟩ w := by
  obtain ⟨ti, hi, hsz, _⟩ := (TOK _ _ hj).info
  unfold fieldPlace
  simp only [Sem.run_bind, run_sizeOf' hi, Result.andThen_ok]
  rw [if_neg (by omega), Addr.add_lit]
  rfl

theorem sub_pathTy : ∀ {g : GTy} {p : List PStep} {h : GTy} (x : den g), pathTy g p = some h → ∃ y, Ev.sub g x p = some ⟨h, y⟩
  | g, [], h, x, hp => by
    have : g = h := by cases g <;> simpa [pathTy] using hp
    subst this
    exact ⟨x, by cases g <;> rfl⟩
  | .prod a b, .fst :: p, h, x, hp => by
    obtain ⟨y, hy⟩ := sub_pathTy (g := a) x.1 (by simpa [pathTy] using hp)
    exact ⟨y, by simpa [Ev.sub] using hy⟩
  | .prod a b, .snd :: p, h, x, hp => by
    obtain ⟨y, hy⟩ := sub_pathTy (g := b) x.2 (by simpa [pathTy] using hp)
    exact ⟨y, by simpa [Ev.sub] using hy⟩
  | .arr n a, .idx i :: p, h, x, hp => by
    obtain ⟨y, hy⟩ := sub_pathTy (g := a) (List.getD x i (zero a)) (by simpa [pathTy] using hp)
    exact ⟨y, by simpa [Ev.sub] using hy⟩
  | .prod _ _, .idx _ :: _, _, _, hp | .arr _ _, .fst :: _, _, _, hp | .arr _ _, .snd :: _, _, _, hp | .bool, _ :: _, _, _, hp | .int _, _ :: _, _, _, hp | .str, _ :: _, _, _, hp | .unit, _ :: _, _, _, hp | .sl _, _ :: _, _, _, hp => by simp [pathTy] at hp

/-- The field that a path leads to. -/
theorem structField {t : TypeId} {i : TInfo} (T : TyOK P τ t i) {k : Nat} {h : GTy} (hp : pathTy i.g (fieldPath i.nf k) = some h) (hs : ∃ a b, i.g = .prod a b) (hk : k < i.nf) :
    ∃ fs f j, P.underlying t = some (.struct fs) ∧ fs[k]? = some f ∧ f.offset = offs i.g (fieldPath i.nf k) ∧ inB i.g (fieldPath i.nf k) ∧ τ f.type = some j ∧ j.g = h ∧ 0 < ncell j.g := by
  have hd := T.desc
  obtain ⟨g, nf, by_, el⟩ := i
  obtain ⟨a, b, rfl⟩ := hs
  simp only at hd
  obtain ⟨fs, h1, h2, h3, h4, h5⟩ := hd
  have hlt : k < fs.size := by rw [h2]; exact hk
  obtain ⟨q1, q2, q3, j, q4, q5, q6⟩ := h5 k fs[k] (by simp [hlt])
  simp only at q5 hp
  rw [hp] at q5
  exact ⟨fs, fs[k], j, h1, by simp [hlt], q2, q3, q4, by simpa using q5.symm, q6⟩

theorem fieldOK_spec {i : TInfo} {k : Nat} (h : fieldOK i k = true) : (∃ a b, i.g = .prod a b) ∧ k < i.nf := by
  unfold fieldOK at h
  split at h
  · rename_i a b hg
    exact ⟨⟨a, b, hg⟩, by simpa [Nat.blt_eq] using h⟩
  · cases h

theorem fieldAddrEff_sound (TOK : TysOK P τ) (I : InvM R M) {t : TypeId} {i : TInfo} (hi : τ t = some i) {k : Nat} {va : AV} {u : Value} (ha : RelV M va u) {e : Eff} (h : fieldAddrEff i k (argOf M.bs va) = some e) :
    ∃ v, (Instr.fieldAt t u k).run P M.w = .ok v M.w ∧ e.wr = [] ∧ RelV M e.av v := by
  have T := TOK t i hi
  unfold fieldAddrEff at h
  split at h
  · rename_i b g p B hok hargeq
    simp only [argOf, Prod.mk.injEq] at hargeq
    obtain ⟨rfl, hbox⟩ := hargeq
    split at h
    · rename_i h1 h2 e1 e2
      split at h
      · rename_i hg _
        subst hg
        simp only [v0, Option.some.injEq] at h
        subst h
        obtain ⟨hp, hk⟩ := fieldOK_spec hok
        obtain ⟨fs, f, j, q1, q2, q3, q4, q5, q6, q7⟩ := structField T e2 hp hk
        simp only [RelV] at ha
        obtain ⟨blk, d, B', r1, r2, r3, rfl⟩ := ha
        refine ⟨.pointer (some ⟨blk, offs g p + f.offset, none⟩), ?_, rfl, ?_⟩
        · simp only [Instr.fieldAt, Sem.run_bind, run_underlying q1, Result.andThen_ok, q2, Instr.sureAddr, Sem.run_pure, fieldPlace_run TOK q5 q7]
        · simp only [RelV]
          refine ⟨blk, d, B', r1, ?_, r3, by rw [offs_append e1, q3]⟩
          cases B' with
          | var g' x => exact ⟨r2.1, inB_append e1 r2.2 q4⟩
          | row e' h' xs fz =>
            obtain ⟨rfl, ii, q, rfl, s1, s2⟩ := r2
            refine ⟨rfl, ii, q ++ fieldPath i.nf k, by simp, s1, inB_append (h := i.g) (by simpa [pathTy] using e1) s2 q4⟩
      · cases h
    · cases h
  · rename_i g x b hok hargeq
    simp only [argOf, Prod.mk.injEq] at hargeq
    obtain ⟨rfl, hbox⟩ := hargeq
    split at h
    · rename_i hg _
      subst hg
      split at h
      · rename_i hh y hs
        simp only [v0, Option.some.injEq] at h
        subst h
        obtain ⟨hp, hk⟩ := fieldOK_spec hok
        obtain ⟨fs, f, j, q1, q2, q3, q4, q5, q6, q7⟩ := structField T (pathTy_sub hs) hp hk
        simp only [RelV] at ha
        obtain ⟨blk, off, cs, r1, r2, rfl⟩ := ha
        obtain ⟨a1, c1, r, k1, k2, k3⟩ := Enc.sub _ r1 hs q4
        refine ⟨.pointer (some ⟨blk, off + f.offset, none⟩), ?_, rfl, ?_⟩
        · simp only [Instr.fieldAt, Sem.run_bind, run_underlying q1, Result.andThen_ok, q2, Instr.sureAddr, Sem.run_pure, fieldPlace_run TOK q5 q7]
        · simp only [RelV]
          refine ⟨blk, off + f.offset, c1, k3, fun jj v hv => ?_, rfl⟩
          have hl := (List.getElem?_eq_some_iff.1 hv).1
          have := r2 (f.offset + jj) v (by rw [k1, q3, ← k2, List.append_assoc, List.getElem?_append_right (by omega), show a1.length + jj - a1.length = jj by omega, List.getElem?_append_left hl]; exact hv)
          rw [Nat.add_assoc]
          exact this
      · cases h
    · cases h
  · cases h

theorem fieldEff_sound (TOK : TysOK P τ) {t : TypeId} {i : TInfo} (hi : τ t = some i) {k : Nat} {va : AV} {u : Value} (ha : RelV M va u) {e : Eff} (h : fieldEff i k (argOf M.bs va) = some e) :
    ∃ v, (Instr.field t u k).run P M.w = .ok v M.w ∧ e.wr = [] ∧ RelV M e.av v := by
  have T := TOK t i hi
  unfold fieldEff at h
  split at h
  · rename_i g x b hok hargeq
    simp only [argOf, Prod.mk.injEq] at hargeq
    obtain ⟨rfl, hbox⟩ := hargeq
    split at h
    · rename_i hg _
      subst hg
      split at h
      · rename_i hh y hs
        simp only [v0, Option.some.injEq] at h
        subst h
        obtain ⟨hp, hk⟩ := fieldOK_spec hok
        obtain ⟨fs, f, j, q1, q2, q3, q4, q5, q6, q7⟩ := structField T (pathTy_sub hs) hp hk
        simp only [RelV] at ha
        obtain ⟨cs, r1, rfl⟩ := ha
        obtain ⟨a1, c1, r, k1, k2, k3⟩ := Enc.sub _ r1 hs q4
        subst q6
        have hagg : isAgg i.g = true := by obtain ⟨a, b, hab⟩ := hp; rw [hab]; rfl
        have hps := part_sound (P := P) (w := M.w) (TOK _ _ q5) k3 (cs := cs.toArray) (a := a1) (c := c1) (r := r) (by simpa using k1) (off := f.offset) (by rw [k2, q3])
        refine ⟨toVal j.g c1, ?_, rfl, ?_⟩
        · simp only [Instr.field, Sem.run_bind, run_underlying q1, Result.andThen_ok, q2, toVal, hagg, asAgg, Sem.run_pure]
          simpa [toVal] using hps
        · simp only [RelV]; exact ⟨c1, k3, rfl⟩
      · cases h
    · cases h
  · cases h
end
end Go.Ev
