/- Each operation does what the evaluator says: all of them. -/
import Derived.Test.YtfahhljpjdoagaaGreatTextLinkMeets2

set_option linter.unusedVariables false
set_option linter.unusedSimpArgs false
namespace Go.Ev
def OpRel (M : Mem) (av : Operand → AV) (ρ : Operand → Value) (o : Oper) : Prop :=
  match o.op with
  | .pick c a b => RelV M (av c) (ρ c) ∧ (ρ c = .bool true → RelV M (av a) (ρ a)) ∧ (ρ c = .bool false → RelV M (av b) (ρ b))
  | op => ∀ x ∈ op.operands.toList, RelV M (av x) (ρ x)

theorem relL_map {M : Mem} {av : Operand → AV} {ρ : Operand → Value} : ∀ {l : List Operand}, (∀ x ∈ l, RelV M (av x) (ρ x)) → RelL M (l.map av) (l.map ρ)
  | [], _ => by simp [RelL]
  | x :: l, h => by
    simp only [List.map_cons, RelL]
    exact ⟨h x (by simp), relL_map (fun y hy => h y (by simp [hy]))⟩

theorem map_arg {M : Mem} {av : Operand → AV} (l : List Operand) : l.map (fun x => argOf M.bs (av x)) = (l.map av).map (argOf M.bs) := by simp

theorem maybe_run {P : Program} {w w' : World} {v : Value} {s : Sem Value} (h : s.run P w = .ok v w') : (do pure (Next.value (← s)) : Sem Next).run P w = .ok (.value v) w' := by
  simp [h]

section
variable {P : Program} {τ : Tys} {Γ : Ctrs} {R : Ref} {M : Mem}

theorem call_sound (GOK : CtrsOK P Γ) (I : InvM R M) {ρ : Operand → Value} (hρ : ∀ f, ρ (.func f) = .func (.func f) #[] #[]) {o : Oper} {f : Nat} {aas : Array Operand} {ts : Array TypeId} (ho : o.op = .call { callee := .value (.func f), args := aas, argTypes := ts })
    {args : List Arg} (hr : ArgsR M args (aas.toList.map ρ)) {c : Ctr} (hc : Γ f = some c) (hb : Nat.blt f cloB = true) {x : dens c.args} {ws : List (Nat × Bool × Box)} (ht : takes c.args args = some (x, ws)) (hn : ∀ p, c.pre = some p → p x) (nd : Option Prop) :
    Yields P ρ o M.w (After R M ⟨resAV c.res (c.fn x), ws, nd⟩) := by
  obtain ⟨⟨fn, h1, h2, h3⟩, h4⟩ := (GOK f c hc).ctr hb
  obtain ⟨hk, S', fz, henc⟩ := takes_sound I hr ht
  have hrun : (execOp ρ o).run P M.w = .ok (.enter f (aas.map ρ)) M.w := by
    simp only [execOp, ho, resolve, hρ, Deferred.ofValue, Sem.run_bind]
    have h2' : ¬ fn.body = none := by intro hh; rw [hh] at h2; simp at h2
    have h3' : ¬ fn.name = "runtime.NumGoroutine" := by simpa using h3
    simp [invoke, callFunc, h1, h2', h3']
  unfold Yields
  rw [hrun]
  simp only
  have hin : ∀ b o, S' b o → b < M.w.heap.size := fun b o hs => by
    have := (fz.inv.here b o hs).2
    exact this
  have := h4 M.w S' (aas.toList.map ρ) x hin (R.tab.keeps fz.inv.old) henc hn
  rw [show (aas.toList.map ρ).toArray = aas.map ρ from by apply Array.toList_inj.1; simp] at this
  refine this.mono (fun e w' he => ?_)
  obtain ⟨v, rfl, hg, N, hN, hres⟩ := he
  refine ⟨v, rfl, ?_⟩
  obtain ⟨I2, s2⟩ := fz.inv.grows (w' := w') hg N hN
  refine ⟨_, _, I2, (fz.step.trans s2).mono (fun b hb => ?_), resAV_rel hres⟩
  rcases hb with hb | hb <;> exact hb.elim

theorem argsR_app {M : Mem} {a : Arg} {u : Value} (h : ArgR M a u) : ∀ {l : List Arg} {us : List Value}, ArgsR M l us → ArgsR M (l ++ [a]) (us ++ [u])
  | [], [], _ => ⟨h, trivial⟩
  | _ :: _, _ :: _, k => ⟨k.1, argsR_app h k.2⟩
  | [], _ :: _, k => k.elim
  | _ :: _, [], k => k.elim
theorem clo_sound (GOK : CtrsOK P Γ) (I : InvM R M) {ρ : Operand → Value} {o : Oper} {f t : Nat} {aas : Array Operand} {ts : Array TypeId} (ho : o.op = .call { callee := .value (.tmp t), args := aas, argTypes := ts }) {n : Int} (hv : RelV M (.clo f [.ref (.int .i64) n]) (ρ (.tmp t)))
    {args : List Arg} (hr : ArgsR M args (aas.toList.map ρ)) {c : Ctr} (hc : Γ (cloB + f) = some c) (hb : Nat.blt f cloB = true) {x : dens c.args} {ws : List (Nat × Bool × Box)} (ht : takes c.args (args ++ [(.val (.int .i64) n, none)]) = some (x, ws)) (hn : ∀ p, c.pre = some p → p x) (nd : Option Prop) :
    Yields P ρ o M.w (After R M ⟨resAV c.res (c.fn x), ws, nd⟩) := by
  obtain ⟨⟨fn, h1, h2, h3⟩, h4⟩ := (GOK _ c hc).clo hb
  simp only [RelV, RelL] at hv
  obtain ⟨vs, hv1, hv2⟩ := hv
  obtain ⟨vl⟩ := vs
  match vl, hv2 with
  | [u], hv2 =>
    obtain ⟨⟨blk, off, cs, e1, e2, e3⟩, -⟩ := hv2
    obtain ⟨e4, e5⟩ : cs = [.int .i64 n] ∧ IntKind.i64.has n := e1
    have e1 : Enc M.w M.S (.int .i64) n [.int .i64 n] := ⟨rfl, e5⟩
    subst e4
    subst e3
    obtain ⟨c1, c2⟩ := e2 0 _ rfl
    have harg : ArgR M (.val (.int .i64) n, none) (.int .i64 n) := ⟨⟨[.int .i64 n], e1, rfl⟩, fun b B hb hB => by cases hB⟩
    obtain ⟨hk, S', fz, henc⟩ := takes_sound I (argsR_app harg hr) ht
    have hrun : (execOp ρ o).run P M.w = .ok (.enter f (aas.map ρ ++ #[.pointer (some ⟨blk, off, none⟩)])) M.w := by
      simp only [execOp, ho, resolve, hv1, Deferred.ofValue, Sem.run_bind]
      have h2' : ¬ fn.body = none := by intro hh; rw [hh] at h2; simp at h2
      have h3' : ¬ fn.name = "runtime.NumGoroutine" := by simpa using h3
      simp [invoke, callFunc, h1, h2', h3']
    unfold Yields
    rw [hrun]
    simp only
    have hin : ∀ b o, S' b o → b < M.w.heap.size := fun b o hs => by
      have := (fz.inv.here b o hs).2
      exact this
    have hkeep := fz.step.keeps blk _ c2
    have := h4 M.w S' (aas.toList.map ρ) blk off n x hin (R.tab.keeps fz.inv.old) (by simpa using c1) (by simpa using hkeep.1) henc hn
    rw [show (aas.toList.map ρ ++ [Value.pointer (some ⟨blk, off, none⟩)]).toArray = aas.map ρ ++ #[.pointer (some ⟨blk, off, none⟩)] from by apply Array.toList_inj.1; simp] at this
    refine this.mono (fun e w' he => ?_)
    obtain ⟨v, rfl, hg, N, hN, hres⟩ := he
    refine ⟨v, rfl, ?_⟩
    obtain ⟨I2, s2⟩ := fz.inv.grows (w' := w') hg N hN
    refine ⟨_, _, I2, (fz.step.trans s2).mono (fun b hb => ?_), resAV_rel hres⟩
    rcases hb with hb | hb <;> exact hb.elim
theorem mk_sound (GOK : CtrsOK P Γ) (I : InvM R M) {ρ : Operand → Value} (hρ : ∀ f, ρ (.func f) = .func (.func f) #[] #[]) {o : Oper} {f : Nat} {aas : Array Operand} {ts : Array TypeId} (ho : o.op = .call { callee := .value (.func f), args := aas, argTypes := ts })
    {args : List Arg} (hr : ArgsR M args (aas.toList.map ρ)) {gs : List GTy} {pre : Option (dens gs → Prop)} {fn0 : dens gs → dens [.int .i64, .int .i64]} (hc : Γ (cloB + cloB + f) = some ⟨gs, [.int .i64, .int .i64], pre, fn0⟩) {x : dens gs} {ws : List (Nat × Bool × Box)} (ht : takes gs args = some (x, ws)) (hn : ∀ p, pre = some p → p x) (nd : Option Prop) :
    Yields P ρ o M.w (After R M ⟨mkAV (fn0 x), ws, nd⟩) := by
  obtain ⟨⟨fn, h1, h2, h3⟩, h4⟩ := (GOK _ _ hc).mk
  obtain ⟨hk, S', fz, henc⟩ := takes_sound I hr ht
  have hrun : (execOp ρ o).run P M.w = .ok (.enter f (aas.map ρ)) M.w := by
    simp only [execOp, ho, resolve, hρ, Deferred.ofValue, Sem.run_bind]
    have h2' : ¬ fn.body = none := by intro hh; rw [hh] at h2; simp at h2
    have h3' : ¬ fn.name = "runtime.NumGoroutine" := by simpa using h3
    simp [invoke, callFunc, h1, h2', h3']
  unfold Yields
  rw [hrun]
  simp only
  have hin : ∀ b o, S' b o → b < M.w.heap.size := fun b o hs => by
    have := (fz.inv.here b o hs).2
    exact this
  have := h4 gs pre fn0 rfl M.w S' (aas.toList.map ρ) x hin (R.tab.keeps fz.inv.old) henc hn
  rw [show (aas.toList.map ρ).toArray = aas.map ρ from by apply Array.toList_inj.1; simp] at this
  refine this.mono (fun e w' he => ?_)
  obtain ⟨hg, blk, b1, b2, b3, b4, rfl⟩ := he
  refine ⟨_, rfl, ?_⟩
  obtain ⟨I2, s2⟩ := fz.inv.grows (w' := w') hg (fun b o => b = blk ∧ o = 0) (fun b o h => by rw [h.1]; exact ⟨b1, b2⟩)
  refine ⟨_, _, I2, (fz.step.trans s2).mono (fun b hb => ?_), ?_⟩
  · rcases hb with hb | hb <;> exact hb.elim
  · unfold mkAV
    simp only [RelV, RelL]
    refine ⟨_, rfl, ⟨blk, 0, [.int .i64 (fn0 x).2], ⟨rfl, b4⟩, fun j v hj => ?_, rfl⟩, trivial⟩
    match j, hj with
    | 0, hj =>
      simp only [List.getElem?_cons_zero, Option.some.injEq] at hj
      subst hj
      exact ⟨b3, .inr ⟨rfl, rfl⟩⟩
    | j + 1, hj => simp at hj

theorem opEff_sound (TOK : TysOK P τ) (GOK : CtrsOK P Γ) (I : InvM R M) {ρ : Operand → Value} (hρ : ∀ f, ρ (.func f) = .func (.func f) #[] #[]) {av : Operand → AV} {o : Oper} (hr : OpRel M av ρ o) {key : Nat} {e : Eff}
    (he : opEff τ Γ key o (o.op.operands.toList.map fun x => argOf M.bs (av x)) = some e) (hn : e.ok) : Yields P ρ o M.w (After R M e) := by
  obtain ⟨dst, op, type, pos, after, guard⟩ := o
  have pure : ∀ {e : Eff} {v : Value}, e.wr = [] → RelV M e.av v → After R M e v M.w := by
    intro e v h1 h2
    obtain ⟨a, b, c⟩ := e
    simp only at h1 h2
    subst h1
    exact After.pure I h2
  cases op with
  | move x =>
    simp only [Op.operands, List.map_cons, List.map_nil, opEff, v0, Option.some.injEq] at he
    subst he
    exact .value (v := ρ x) (w' := M.w) (by simp [execOp]) (pure rfl (hr x (by simp [Op.operands])))
  | assign x =>
    simp only [Op.operands, List.map_cons, List.map_nil, opEff, v0, Option.some.injEq] at he
    subst he
    exact .value (v := ρ x) (w' := M.w) (by simp [execOp]) (pure rfl (hr x (by simp [Op.operands])))
  | pick c a b =>
    simp only [Op.operands, List.map_cons, List.map_nil, opEff] at he
    obtain ⟨h1, h2, h3⟩ := hr
    obtain ⟨x, hx, hw, hv⟩ := pickEff_sound h1 h2 h3 he
    exact .value (v := if x then ρ a else ρ b) (w' := M.w) (by cases x <;> simp [execOp, hx, asBool]) (pure hw hv)
  | alloc t =>
    simp only [Op.operands, List.map_nil, opEff] at he
    split at he
    · rename_i i hi
      simp only [Option.some.injEq] at he
      subst he
      exact .value (by simp only [execOp]; exact maybe_run (alloc_run TOK hi M.w)) (After.newVar (ws := []) (Froze.refl I) (fun b hk => by obtain ⟨B, hB⟩ := hk; simp at hB) (Enc.zero M.w M.S i.g) key t none)
    · cases he
  | box t x =>
    simp only [Op.operands, List.map_cons, List.map_nil, opEff] at he
    split at he
    · rename_i i hi
      split at he
      · rename_i y w1 e1
        simp only [Option.some.injEq] at he
        subst he
        obtain ⟨hk, S', f, cs, h3, h4⟩ := take_sound I (ArgR.of (hr x (by simp [Op.operands]))) e1
        exact .value (by simp only [execOp]; rw [h4]; exact maybe_run (box_run t h3 M.w)) (After.newVar f hk h3 key t none)
      · cases he
    · cases he
  | build t ps =>
    simp only [opEff] at he
    have hrel : ∀ x ∈ ps.toList.map (·.2), RelV M (av x) (ρ x) := fun x hx => hr x (by simpa [Op.operands] using hx)
    split at he
    · rename_i i hi
      split at he
      · rename_i x w1 h1 h2
        simp only [Option.some.injEq] at he
        subst he
        have hl : (((ps.toList.map (·.1)).zip ((Op.build t ps).operands.toList.map fun x => argOf M.bs (av x))).map (·.2)) = ((ps.toList.map (·.2)).map av).map (argOf M.bs) := by
          rw [List.map_snd_zip (by simp [Op.operands])]
          simp [Op.operands]
        have hl1 : (((ps.toList.map (·.1)).zip ((Op.build t ps).operands.toList.map fun x => argOf M.bs (av x))).map (·.1)) = ps.toList.map (·.1) := by
          rw [List.map_fst_zip (by simp [Op.operands])]
        obtain ⟨v, q1, q2⟩ := build_sound TOK I hi (us := (ps.toList.map (·.2)).map ρ) (by rw [hl]; exact ArgsR.of (relL_map hrel)) (by rw [hl1]; exact h1) h2 none (ps.map fun (i, x) => (i, ρ x)) (by
          rw [hl1]
          simp only [Array.toList_map, List.map_map]
          rw [List.zip_map']
          rfl)
        exact .value (by simp only [execOp]; exact maybe_run q1) q2
      · cases he
    · cases he
  | buildSlice t n ps =>
    simp only [opEff] at he
    have hrel : ∀ x ∈ ps.toList.map (·.2), RelV M (av x) (ρ x) := fun x hx => hr x (by simpa [Op.operands] using hx)
    split at he
    · rename_i g nf b el hi
      split at he
      · rename_i x w1 h1 h2
        obtain ⟨h3, he⟩ : (n * ncell g ≤ 2 ^ 24 ∧ n * b ≤ maxRow) ∧ _ := by
          rcases needIf_spec he with ⟨hh, _⟩ | hh
          · cases hh
          · exact hh
        have hl : (((ps.toList.map (·.1)).zip ((Op.buildSlice t n ps).operands.toList.map fun x => argOf M.bs (av x))).map (·.2)) = ((ps.toList.map (·.2)).map av).map (argOf M.bs) := by
          rw [List.map_snd_zip (by simp [Op.operands])]
          simp [Op.operands]
        have hl1 : (((ps.toList.map (·.1)).zip ((Op.buildSlice t n ps).operands.toList.map fun x => argOf M.bs (av x))).map (·.1)) = ps.toList.map (·.1) := by
          rw [List.map_fst_zip (by simp [Op.operands])]
        have hin : ∀ y ∈ ((ps.toList.map (·.1)).zip ((Op.buildSlice t n ps).operands.toList.map fun x => argOf M.bs (av x))), y.1 < n := by
          intro y hy
          have : y.1 ∈ ps.toList.map (·.1) := by rw [← hl1]; exact List.mem_map.2 ⟨y, hy, rfl⟩
          rw [List.all_eq_true] at h1
          exact Nat.blt_eq ▸ h1 _ this
        split at he
        · simp only [Option.some.injEq] at he
          subst he
          obtain ⟨v, w', q1, q2⟩ := buildSlice_sound TOK I hi (us := (ps.toList.map (·.2)).map ρ) (by rw [hl]; exact ArgsR.of (relL_map hrel)) hin h2 key none h3.1 h3.2 (ps.map fun (i, x) => (i, ρ x)) (by
            rw [hl1]
            simp only [Array.toList_map, List.map_map]
            rw [List.zip_map']
            rfl)
          exact .value (by simp only [execOp]; exact maybe_run q1) q2
        · simp only [Option.some.injEq] at he
          subst he
          obtain ⟨v, w', q1, q2⟩ := buildSlice_val TOK I hi (us := (ps.toList.map (·.2)).map ρ) (by rw [hl]; exact ArgsR.of (relL_map hrel)) hin h2 none h3.1 h3.2 (ps.map fun (i, x) => (i, ρ x)) (by
            rw [hl1]
            simp only [Array.toList_map, List.map_map]
            rw [List.zip_map']
            rfl)
          exact .value (by simp only [execOp]; exact maybe_run q1) q2
      · cases he
    · cases he
  | load t x =>
    simp only [Op.operands, List.map_cons, List.map_nil, opEff] at he
    split at he
    · rename_i i hi
      obtain ⟨v, q1, q2, q3, _⟩ := loadEff_sound TOK I hi (ArgR.of (hr x (by simp [Op.operands]))) he
      exact .value (by simp only [execOp]; exact maybe_run q1) (pure q2 q3)
    · cases he
  | store t a x =>
    simp only [Op.operands, List.map_cons, List.map_nil, opEff] at he
    split at he
    · rename_i i hi
      obtain ⟨w', q1, q2⟩ := storeEff_sound TOK I hi (hr a (by simp [Op.operands])) (ArgR.of (hr x (by simp [Op.operands]))) he
      exact .skip (by simp [execOp, q1]) q2
    · cases he
  | nilCheck x =>
    simp only [Op.operands, List.map_cons, List.map_nil, opEff] at he
    have h := hr x (by simp [Op.operands])
    have hv : ∀ v, ρ x = v → (execOp ρ ⟨dst, .nilCheck x, type, pos, after, guard⟩).run P M.w = .ok (.value v) M.w → e = ⟨av x, [], none⟩ → Yields P ρ ⟨dst, .nilCheck x, type, pos, after, guard⟩ M.w (After R M e) := by
      intro v hx hrun heq
      subst heq
      exact .value hrun (pure rfl (by rw [← hx]; exact h))
    simp only [argOf] at he
    split at he <;> simp only [v0, Option.some.injEq, reduceCtorEq] at he
    · rename_i b g p hav
      rw [hav] at h
      simp only [RelV] at h
      obtain ⟨blk, d, B, _, _, _, hu⟩ := h
      exact hv _ rfl (by simp [execOp, hu]) he.symm
    · rename_i g y hav
      rw [hav] at h
      simp only [RelV] at h
      obtain ⟨blk, off, cs, _, _, hu⟩ := h
      exact hv _ rfl (by simp [execOp, hu]) he.symm
    · rename_i f caps hav
      rw [hav] at h
      simp only [RelV] at h
      obtain ⟨vs, hu, _⟩ := h
      exact hv _ rfl (by simp [execOp, hu]) he.symm
  | binOp op t x y ty =>
    simp only [Op.operands, List.map_cons, List.map_nil, opEff] at he
    obtain ⟨v, q1, q2, q3⟩ := binEff_sound (P := P) TOK (hr x (by simp [Op.operands])) (hr y (by simp [Op.operands])) he hn x y rfl
    exact .value (by simp only [execOp]; exact maybe_run q1) (pure q2 q3)
  | unOp op t x =>
    simp only [Op.operands, List.map_cons, List.map_nil, opEff] at he
    obtain ⟨v, q1, q2, q3⟩ := unEff_sound (P := P) (hr x (by simp [Op.operands])) he
    exact .value (by simp only [execOp]; exact maybe_run q1) (pure q2 q3)
  | convert s d x =>
    simp only [Op.operands, List.map_cons, List.map_nil, opEff] at he
    split at he
    · rename_i j i hj hi
      split at he
      · rename_i e' hw
        cases he
        obtain ⟨v, q1, q2, q3⟩ := winConv_sound TOK I hj hi (hr x (by simp [Op.operands])) hw
        exact .value (by simp only [execOp]; exact maybe_run q1) (pure q2 q3)
      obtain ⟨v, q1, q2, q3⟩ := convEff_sound TOK I hj hi (hr x (by simp [Op.operands])) he
      exact .value (by simp only [execOp]; exact maybe_run q1) (pure q2 q3)
    · cases he
  | slice t x lo hi mx =>
    have hops : (Op.slice t x lo hi mx).operands.toList = x :: (lo.toList ++ hi.toList ++ mx.toList) := by
      cases lo <;> cases hi <;> cases mx <;> simp [Op.operands]
    rw [hops] at he
    simp only [List.map_cons, opEff] at he
    have hr' : ∀ y ∈ x :: (lo.toList ++ hi.toList ++ mx.toList), RelV M (av y) (ρ y) := fun y hy => hr y (by rw [show (Op.slice t x lo hi mx).operands.toList = _ from hops]; exact hy)
    split at he
    · rename_i i hti
      have hb : ∃ bs, bounds lo.isSome hi.isSome mx.isSome ((lo.toList ++ hi.toList ++ mx.toList).map fun x => argOf M.bs (av x)) = some bs := by
        cases hb : bounds lo.isSome hi.isSome mx.isSome ((lo.toList ++ hi.toList ++ mx.toList).map fun x => argOf M.bs (av x)) with
        | none => rw [hb] at he; simp [sliceEff, winEff] at he
        | some bs => exact ⟨bs, rfl⟩
      obtain ⟨bs, hb⟩ := hb
      rw [hb] at he
      have hb' := bounds_spec (M := M) (ρ := ρ) (l := (lo.toList ++ hi.toList ++ mx.toList).map av) (by rw [← map_arg]; exact hb) (relL_map (fun y hy => hr' y (List.mem_cons_of_mem _ hy)))
      split at he
      · rename_i e' hw
        cases he
        obtain ⟨v, q1, q2⟩ := winEff_sound TOK I hti (hr' x (by simp)) hb' hw hn
        exact .value (by simp only [execOp]; exact maybe_run q1) q2
      obtain ⟨v, q1, q2⟩ := sliceEff_sound TOK I hti (hr' x (by simp)) hb' he hn
      exact .value (by simp only [execOp]; exact maybe_run q1) q2
    · cases he
  | fieldAddr t x k =>
    simp only [Op.operands, List.map_cons, List.map_nil, opEff] at he
    split at he
    · rename_i i hi
      obtain ⟨v, q1, q2, q3⟩ := fieldAddrEff_sound TOK I hi (hr x (by simp [Op.operands])) he
      exact .value (by simp only [execOp]; exact maybe_run q1) (pure q2 q3)
    · cases he
  | field t x k =>
    simp only [Op.operands, List.map_cons, List.map_nil, opEff] at he
    split at he
    · rename_i i hi
      obtain ⟨v, q1, q2, q3⟩ := fieldEff_sound TOK hi (hr x (by simp [Op.operands])) he
      exact .value (by simp only [execOp]; exact maybe_run q1) (pure q2 q3)
    · cases he
  | indexAddr t x i =>
    simp only [Op.operands, List.map_cons, List.map_nil, opEff] at he
    split at he
    · rename_i j hi
      obtain ⟨v, q1, q2, q3⟩ := indexAddrEff_sound TOK I hi (hr x (by simp [Op.operands])) (hr i (by simp [Op.operands])) he hn
      exact .value (by simp only [execOp]; exact maybe_run q1) (pure q2 q3)
    · cases he
  | index t x i =>
    simp only [Op.operands, List.map_cons, List.map_nil, opEff] at he
    split at he
    · rename_i j hi
      obtain ⟨v, q1, q2, q3⟩ := indexEff_sound TOK hi (hr x (by simp [Op.operands])) (hr i (by simp [Op.operands])) he hn
      exact .value (by simp only [execOp]; exact maybe_run q1) (pure q2 q3)
    · cases he
  | extract x i =>
    simp only [Op.operands, List.map_cons, List.map_nil, opEff] at he
    have h := hr x (by simp [Op.operands])
    simp only [argOf] at he
    split at he
    · rename_i l hav
      rw [hav] at h
      simp only [RelV] at h
      obtain ⟨vs, hu, hl⟩ := h
      split at he
      · rename_i v hv
        simp only [v0, Option.some.injEq] at he
        subst he
        obtain ⟨u, h1, h2⟩ := hl.get i hv
        refine .value (v := u) (w' := M.w) ?_ (pure rfl h2)
        have h1' : vs[i]? = some u := by simpa using h1
        simp [execOp, hu, Instr.extract, h1']
      · cases he
    · rename_i c p r hav
      rw [hav] at h
      simp only [RelV] at h
      obtain ⟨vs, hu, h0, h1⟩ := h
      split at he
      · simp only [v0, Option.some.injEq] at he
        subst he
        exact .value (v := .bool c) (w' := M.w) (by simp [execOp, hu, Instr.extract, h0]) (pure rfl (by simp only [RelV]; exact ⟨[.bool c], rfl, rfl⟩))
      · simp only [Option.some.injEq] at he
        subst he
        obtain ⟨h2, h3, h4, h5⟩ := h1 (hn _ rfl)
        exact .value (v := .int .i64 p) (w' := M.w) (by simp [execOp, hu, Instr.extract, h2]) (pure rfl (by simp only [RelV]; exact ⟨[.int .i64 p], ⟨rfl, h4⟩, rfl⟩))
      · simp only [Option.some.injEq] at he
        subst he
        obtain ⟨h2, h3, h4, h5⟩ := h1 (hn _ rfl)
        exact .value (v := .int .i32 r) (w' := M.w) (by simp [execOp, hu, Instr.extract, h3]) (pure rfl (by simp only [RelV]; exact ⟨[.int .i32 r], ⟨rfl, h5⟩, rfl⟩))
      · cases he
    · cases he
  | makeInterface t x =>
    simp only [Op.operands, List.map_cons, List.map_nil, opEff, argOf] at he
    have h := hr x (by simp [Op.operands])
    split at he
    · rename_i nf by_ el y hi hav
      rw [hav] at h
      simp only [RelV] at h
      obtain ⟨cs, ⟨rfl, hlen⟩, hu⟩ := h
      simp only [v0, Option.some.injEq] at he
      subst he
      have hT : P.underlying t = some .string := (TOK t _ hi).desc
      have hu' : ρ x = .string ⟨⟨y⟩⟩ := hu
      exact .value (v := .iface t (.string ⟨⟨y⟩⟩)) (w' := M.w) (by simp [execOp, hu', Instr.makeInterface, run_underlying hT]) (pure rfl rfl)
    · rename_i k nf by_ el k' n hi hav
      rw [hav] at h
      split at he
      · rename_i hk _
        subst hk
        simp only [RelV] at h
        obtain ⟨cs, ⟨rfl, hlen⟩, hu⟩ := h
        simp only [v0, Option.some.injEq] at he
        subst he
        have hT : P.underlying t = some (.int k) := (TOK t _ hi).desc
        have hu' : ρ x = .int k n := hu
        exact .value (v := .iface t (.int k n)) (w' := M.w) (by simp [execOp, hu', Instr.makeInterface, run_underlying hT]) (pure rfl rfl)
      · cases he
    · cases he
  | range t x =>
    simp only [Op.operands, List.map_cons, List.map_nil, opEff] at he
    have h := hr x (by simp [Op.operands])
    simp only [argOf] at he
    split at he
    · rename_i nf by_ el y hi hav
      rw [hav] at h
      simp only [RelV] at h
      obtain ⟨cs, ⟨rfl, hlen⟩, hu⟩ := h
      simp only [Option.some.injEq] at he
      subst he
      have hT : P.underlying t = some .string := (TOK t _ hi).desc
      have hu' : ρ x = .string ⟨⟨y⟩⟩ := hu
      exact .value (v := .pointer (some ⟨M.w.heap.size, 0, none⟩)) (w' := M.w.iter ⟨⟨y⟩⟩ 0) (by simp [execOp, hu', run_range_string _ _ _ hT]) (After.newIter I key hlen none)
    · cases he
  | next x s =>
    cases s with
    | false => simp [opEff] at he
    | true =>
      simp only [Op.operands, List.map_cons, List.map_nil, opEff] at he
      have h := hr x (by simp [Op.operands])
      split at he
      · rename_i b g p y pos hargeq
        obtain ⟨hav, hbox⟩ := argOf_eq hargeq
        rw [hav] at h
        simp only [Option.some.injEq] at he
        subst he
        exact next_sound I h hbox none rfl
      · cases he
  | makeSlice t a b =>
    simp only [Op.operands, List.map_cons, List.map_nil, opEff] at he
    split at he
    · rename_i g nf bytes el n c hi h1 h2
      simp only [Option.some.injEq] at he
      subst he
      obtain ⟨k, e1, _⟩ := asIntAV_spec (M := M) h1 (hr a (by simp [Op.operands]))
      obtain ⟨k', e2, _⟩ := asIntAV_spec (M := M) h2 (hr b (by simp [Op.operands]))
      obtain ⟨p1, p2, p3⟩ := hn _ rfl
      obtain ⟨v, w', q1, q2⟩ := makeSlice_sound (k := k) (k' := k') TOK I hi key (some _) p1 p2 p3
      exact .value (by simp only [execOp]; rw [e1, e2]; exact maybe_run q1) q2
    · cases he
  | call c =>
    obtain ⟨callee, aas, ts⟩ := c
    cases callee with
    | invoke x m => simp [opEff] at he
    | value f =>
      cases f with
      | tmp t =>
        have hops : (Op.call { callee := .value (.tmp t), args := aas, argTypes := ts }).operands.toList = .tmp t :: aas.toList := by simp [Op.operands, Call.operands]
        rw [hops] at he
        simp only [List.map_cons] at he
        have hr' : ∀ y ∈ aas.toList, RelV M (av y) (ρ y) := fun y hy => hr y (by rw [show (Op.call { callee := .value (.tmp t), args := aas, argTypes := ts }).operands.toList = _ from hops]; exact List.mem_cons_of_mem _ hy)
        have hr0 : RelV M (av (.tmp t)) (ρ (.tmp t)) := hr _ (by rw [show (Op.call { callee := .value (.tmp t), args := aas, argTypes := ts }).operands.toList = _ from hops]; exact List.mem_cons_self ..)
        generalize hav : av (.tmp t) = v0' at he hr0
        unfold opEff at he
        split at he
        all_goals (try (simp at *; done))
        · rename_i f y _ args' heq hargs
          simp only [List.cons.injEq] at hargs
          obtain ⟨ha, rfl⟩ := hargs
          have hv0 : v0' = .clo f [.ref (.int .i64) y] := congrArg Prod.fst ha
          subst hv0
          split at he
          · rename_i c hb hc
            split at he
            · rename_i x w1 ht
              simp only [Option.some.injEq] at he
              subst he
              refine clo_sound GOK I rfl hr0 (args := aas.toList.map fun x => argOf M.bs (av x)) ?_ hc hb ht (fun p hp => ?_) _
              · rw [map_arg]; exact ArgsR.of (relL_map hr')
              · exact hn _ (by simp [hp])
            · cases he
          · cases he
      | const v => simp [opEff] at he
      | global g => simp [opEff] at he
      | func f =>
        have hops : (Op.call { callee := .value (.func f), args := aas, argTypes := ts }).operands.toList = .func f :: aas.toList := by simp [Op.operands, Call.operands]
        rw [hops] at he
        simp only [List.map_cons, opEff] at he
        have hr' : ∀ y ∈ aas.toList, RelV M (av y) (ρ y) := fun y hy => hr y (by rw [show (Op.call { callee := .value (.func f), args := aas, argTypes := ts }).operands.toList = _ from hops]; exact List.mem_cons_of_mem _ hy)
        split at he
        · rename_i c hb hc
          split at he
          · rename_i x w1 ht
            simp only [Option.some.injEq] at he
            subst he
            refine call_sound GOK I hρ rfl (args := aas.toList.map fun x => argOf M.bs (av x)) ?_ hc hb ht (fun p hp => ?_) _
            · rw [map_arg]; exact ArgsR.of (relL_map hr')
            · exact hn _ (by simp [hp])
          · cases he
        · cases he
        · split at he
          · rename_i gs pre fn hc
            split at he
            · rename_i x w1 ht
              simp only [Option.some.injEq] at he
              subst he
              refine mk_sound GOK I hρ rfl (args := aas.toList.map fun x => argOf M.bs (av x)) ?_ hc ht (fun p hp => ?_) _
              · rw [map_arg]; exact ArgsR.of (relL_map hr')
              · exact hn _ (by simp [hp])
            · cases he
          · cases he
    | builtin bi =>
      have hops : (Op.call { callee := .builtin bi, args := aas, argTypes := ts }).operands.toList = aas.toList := by simp [Op.operands, Call.operands]
      rw [hops] at he
      have hr' : ∀ y ∈ aas.toList, RelV M (av y) (ρ y) := fun y hy => hr y (by rw [show (Op.call { callee := .builtin bi, args := aas, argTypes := ts }).operands.toList = _ from hops]; exact hy)
      have hrl := relL_map hr'
      have hmap : (aas.map ρ).toList = aas.toList.map ρ := by simp
      cases hl : aas.toList with
      | nil =>
        rw [hl] at he
        cases bi <;> simp [opEff] at he
      | cons x l =>
        rw [hl] at he hr' hrl
        have hx := hr' x (by simp)
        simp only [List.map_cons, RelL] at hrl he
        cases bi with
        | len =>
          cases l with
          | cons _ _ => simp [opEff] at he
          | nil =>
            simp only [List.map_nil, opEff] at he
            split at he
            · rename_i t hts
              split at he
              · rename_i i hi
                obtain ⟨v, q1, q2, q3⟩ := lenEff_sound TOK I hi hx he type
                refine .value (v := v) (w' := M.w) ?_ (pure q2 q3)
                have h1 : aas = #[x] := by apply Array.toList_inj.1; simpa using hl
                have h2 : ts = #[t] := by apply Array.toList_inj.1; simpa using hts
                subst h1
                subst h2
                simp [execOp, resolve, invoke, builtin, q1]
              · cases he
            · cases he
        | append =>
          match l, hl, he, hr' with
          | [], hl, he, hr' => simp [opEff] at he
          | _ :: _ :: _, hl, he, hr' => simp [opEff] at he
          | [y], hl, he, hr' =>
            simp only [List.map_nil, List.map_cons, opEff] at he
            split at he
            · rename_i t u hts
              split at he
              · rename_i htu g nf b el _ hi
                subst htu
                obtain ⟨v, w', q1, q2⟩ := appendEff_sound (ty := type) TOK I hi hx (hr' y (by simp)) he hn
                refine .value (v := v) (w' := w') ?_ q2
                have h1 : aas = #[x, y] := by apply Array.toList_inj.1; simpa using hl
                have h2 : ts = #[t, t] := by apply Array.toList_inj.1; simpa using hts
                subst h1
                subst h2
                simp [execOp, resolve, invoke, builtin, q1]
              · cases he
            · cases he
        | copy =>
          match l, hl, he, hr' with
          | [], hl, he, hr' => simp [opEff] at he
          | _ :: _ :: _, hl, he, hr' => simp [opEff] at he
          | [y], hl, he, hr' =>
            simp only [List.map_nil, List.map_cons, opEff] at he
            split at he
            · rename_i t u hts
              split at he
              · rename_i i hi
                obtain ⟨v, w', q1, q2⟩ := copyEff_sound (u := u) (ty := type) TOK I hi hx (hr' y (by simp)) he hn
                refine .value (v := v) (w' := w') ?_ q2
                have h1 : aas = #[x, y] := by apply Array.toList_inj.1; simpa using hl
                have h2 : ts = #[t, u] := by apply Array.toList_inj.1; simpa using hts
                subst h1
                subst h2
                simp [execOp, resolve, invoke, builtin, q1]
              · cases he
            · cases he
        | max =>
          simp only [opEff, argOf] at he
          split at he
          all_goals (try (simp at *; done))
          · rename_i k n _ l' _ hargs
            simp only [List.cons.injEq, Prod.mk.injEq] at hargs
            obtain ⟨⟨hav, _⟩, rfl⟩ := hargs
            split at he
            · rename_i m hm
              simp only [v0, Option.some.injEq] at he
              subst he
              rw [hav] at hx
              obtain ⟨hu, hk⟩ := relInt hx
              have hm' : maxmin true k ((l.map av).map (argOf M.bs)) n = some m := by rw [← map_arg]; exact hm
              obtain ⟨q1, q2⟩ := maxmin_sound (P := P) true hk hrl.2 hm'
              refine .value (v := .int k m) (w' := M.w) ?_ (pure rfl (mkInt q2))
              have h1 : aas.toList.map ρ = .int k n :: l.map ρ := by rw [hl, List.map_cons, hu]
              simp only [if_true] at q1
              simp [execOp, resolve, invoke, builtin, Builtin.max_, h1, q1]
            · cases he
        | min =>
          simp only [opEff, argOf] at he
          split at he
          all_goals (try (simp at *; done))
          · rename_i k n _ l' _ hargs
            simp only [List.cons.injEq, Prod.mk.injEq] at hargs
            obtain ⟨⟨hav, _⟩, rfl⟩ := hargs
            split at he
            · rename_i m hm
              simp only [v0, Option.some.injEq] at he
              subst he
              rw [hav] at hx
              obtain ⟨hu, hk⟩ := relInt hx
              have hm' : maxmin false k ((l.map av).map (argOf M.bs)) n = some m := by rw [← map_arg]; exact hm
              obtain ⟨q1, q2⟩ := maxmin_sound (P := P) false hk hrl.2 hm'
              refine .value (v := .int k m) (w' := M.w) ?_ (pure rfl (mkInt q2))
              have h1 : aas.toList.map ρ = .int k n :: l.map ρ := by rw [hl, List.map_cons, hu]
              simp only [Bool.false_eq_true, if_false] at q1
              simp [execOp, resolve, invoke, builtin, Builtin.min_, h1, q1]
            · cases he
        | _ => simp [opEff] at he
  | makeFunc fn first caps =>
    cases fn with
    | func f =>
      simp only [opEff] at he
      split at he
      · rename_i hf
        have h0 : first = #[] := by apply Array.toList_inj.1; simpa using hf
        subst h0
        simp only [v0, Option.some.injEq] at he
        subst he
        have hops : (Op.makeFunc (.func f) #[] caps).operands.toList = caps.toList := by simp [Op.operands]
        have hrl : RelL M (caps.toList.map av) (caps.toList.map ρ) := relL_map (fun y hy => hr y (by rw [show (Op.makeFunc (.func f) #[] caps).operands.toList = _ from hops]; exact hy))
        refine .value (v := .func (.func f) #[] (caps.map ρ)) (w' := M.w) (by simp [execOp, Instr.makeFunc]) (pure rfl ?_)
        simp only [RelV]
        refine ⟨_, rfl, ?_⟩
        rw [hops, map_arg, List.map_map]
        simpa [argOf, Function.comp_def] using hrl
      · cases he
    | _ => simp [opEff] at he
  | _ => simp [opEff] at he
end
end Go.Ev
/- States, held against the machine's; one operation; a region without guards. -/
set_option linter.unusedVariables false
set_option linter.unusedSimpArgs false
namespace Go.Ev

mutual
theorem RelV.has_box {M : Mem} : ∀ {v : AV} {u : Value}, RelV M v u → ∀ b, v.has b = true → lk b M.bs ≠ none
  | .undef, _, _, b, hb => by simp [AV.has] at hb
  | .cst _, _, _, b, hb => by simp [AV.has] at hb
  | .val _ _, _, _, b, hb => by simp [AV.has] at hb
  | .ref _ _, _, _, b, hb => by simp [AV.has] at hb
  | .ptr c g p, _, h, b, hb => by
    simp only [AV.has] at hb
    have := Nat.eq_of_beq_eq_true hb
    subst this
    simp only [RelV] at h
    obtain ⟨blk, d, B, h1, _⟩ := h
    rw [h1]; simp
  | .tip c, _, h, b, hb => by
    simp only [AV.has] at hb
    have := Nat.eq_of_beq_eq_true hb
    subst this
    simp only [RelV] at h
    obtain ⟨⟨d, B, h1, _⟩, _⟩ := h
    rw [h1]; simp
  | .win c lo, _, h, b, hb => by
    simp only [AV.has] at hb
    have := Nat.eq_of_beq_eq_true hb
    subst this
    simp only [RelV] at h
    obtain ⟨n, blk, d, B, h1, _⟩ := h
    rw [h1]; simp
  | .tup l, _, h, b, hb => by
    simp only [AV.has] at hb
    simp only [RelV] at h
    obtain ⟨vs, _, h⟩ := h
    exact RelL.has_box h b hb
  | .clo f l, _, h, b, hb => by
    simp only [AV.has] at hb
    simp only [RelV] at h
    obtain ⟨vs, _, h⟩ := h
    exact RelL.has_box h b hb
theorem RelL.has_box {M : Mem} : ∀ {l : List AV} {us : List Value}, RelL M l us → ∀ b, AV.hasL b l = true → lk b M.bs ≠ none
  | [], _, _, b, hb => by simp [AV.hasL] at hb
  | v :: l, [], h, _, _ => by simp [RelL] at h
  | v :: l, u :: us, h, b, hb => by
    simp only [RelL] at h
    simp only [AV.hasL, Bool.or_eq_true] at hb
    rcases hb with hb | hb
    · exact RelV.has_box h.1 b hb
    · exact RelL.has_box h.2 b hb
end

theorem look_put (s : St) (d t : Nat) (v : AV) : (s.put d v).look t = if t = d then v else s.look t := by
  unfold St.put St.look
  simp only [lk_st]
  split <;> simp

theorem wr1_boxes (s : St) (x : Nat × Bool × Box) : (s.wr1 x).boxes = st' x.1 (true, x.2.2) s.boxes := by
  unfold St.wr1
  split <;> rfl

theorem wrs_boxes : ∀ (ws : List (Nat × Bool × Box)) (s : St), (s.wrs ws).boxes = applyB ws s.boxes
  | [], _ => rfl
  | x :: l, s => by
    simp only [St.wrs, applyB]
    rw [wrs_boxes l, wr1_boxes]

theorem lk_kill (b t : Nat) : ∀ l : List (Nat × AV), lk t (kill b l) = (lk t l).map fun v => match v.has b with | true => AV.undef | false => v
  | [] => by simp [kill, lk]
  | (j, v) :: l => by
    have ih := lk_kill b t l
    simp only [kill, List.map_cons, lk] at ih ⊢
    cases Nat.beq j t with
    | true => cases hh : v.has b <;> simp [hh]
    | false => exact ih

theorem wr1_look (s : St) (x : Nat × Bool × Box) (t : Nat) :
    ((s.wr1 x).look t = .undef ∨ ((s.wr1 x).look t = s.look t ∧ (x.2.1 = true → lk x.1 s.boxes ≠ none → (s.look t).has x.1 = false))) := by
  unfold St.wr1
  split
  · rename_i B hx hB
    unfold St.look
    simp only [lk_kill]
    cases hl : lk t s.tmps with
    | none => exact .inl rfl
    | some v =>
      simp only [Option.map_some, Option.getD_some]
      cases hh : v.has x.1 with
      | true => exact .inl (by simp)
      | false => exact .inr ⟨by simp, fun _ _ => rfl⟩
  · rename_i hne
    refine .inr ⟨rfl, fun hx hb => ?_⟩
    cases hB : s.box x.1 with
    | none =>
      simp only [St.box, Option.map_eq_none_iff] at hB
      exact absurd hB hb
    | some B => exact absurd hB (hne B hx)

theorem wrs_look : ∀ (ws : List (Nat × Bool × Box)) (s : St) (t : Nat),
    (s.wrs ws).look t = .undef ∨ ((s.wrs ws).look t = s.look t ∧ ∀ b, killed ws b → lk b s.boxes ≠ none → (s.look t).has b = false)
  | [], s, t => .inr ⟨rfl, fun b hb => by obtain ⟨B, hB⟩ := hb; simp at hB⟩
  | x :: l, s, t => by
    simp only [St.wrs]
    rcases wrs_look l (s.wr1 x) t with h | ⟨h, hk⟩
    · exact .inl h
    · rcases wr1_look s x t with h1 | ⟨h1, hk1⟩
      · exact .inl (h.trans h1)
      · refine .inr ⟨h.trans h1, fun b hb hbs => ?_⟩
        obtain ⟨B, hB⟩ := hb
        rcases List.mem_cons.1 hB with hB | hB
        · rw [← hB] at hk1
          exact hk1 rfl hbs
        · rw [← h1]
          refine hk b ⟨B, hB⟩ ?_
          rw [wr1_boxes, lk_st]
          split
          · simp
          · exact hbs

theorem applyB_clean : ∀ (ws : List (Nat × Bool × Box)) (bs : Bxs) (b : Nat) (B : Box), lk b (applyB ws bs) = some (false, B) → lk b bs = some (false, B)
  | [], _, _, _, h => h
  | x :: l, bs, b, B, h => by
    simp only [applyB] at h
    have := applyB_clean l _ b B h
    rw [lk_st] at this
    split at this
    · simp at this
    · exact this
def IsSt (R : Ref) (s : St) (a : Act) (w : World) : Prop :=
  ∃ M : Mem, M.w = w ∧ M.bs = s.boxes ∧ InvM R M ∧ ∀ t, RelV M (s.look t) (a.tmps.getD t undef)
structure Apart (W : Nat → Prop) (s : St) (a : Act) (s' : St) (a' : Act) : Prop where
  size : a'.tmps.size = a.tmps.size
  defers : a'.defers = a.defers
  tmps : ∀ t, ¬ W t → a'.tmps.getD t undef = a.tmps.getD t undef
  look : ∀ t, ¬ W t → s'.look t = .undef ∨ s'.look t = s.look t
  boxes : ∀ b B, lk b s'.boxes = some (false, B) → lk b s.boxes = some (false, B)

theorem Apart.refl (W : Nat → Prop) (s : St) (a : Act) : Apart W s a s a := ⟨rfl, rfl, fun _ _ => rfl, fun _ _ => .inr rfl, fun _ _ h => h⟩
theorem Apart.trans {W : Nat → Prop} {s s' s'' : St} {a a' a'' : Act} (h : Apart W s a s' a') (k : Apart W s' a' s'' a'') : Apart W s a s'' a'' :=
  ⟨k.size.trans h.size, k.defers.trans h.defers, fun t ht => (k.tmps t ht).trans (h.tmps t ht), fun t ht => by
    rcases k.look t ht with h1 | h1
    · exact .inl h1
    · rcases h.look t ht with h2 | h2
      · exact .inl (h1.trans h2)
      · exact .inr (h1.trans h2), fun b B hb => h.boxes b B (k.boxes b B hb)⟩
theorem Apart.mono {W W' : Nat → Prop} {s s' : St} {a a' : Act} (h : Apart W s a s' a') (hw : ∀ t, W t → W' t) : Apart W' s a s' a' :=
  ⟨h.size, h.defers, fun t ht => h.tmps t (fun x => ht (hw t x)), fun t ht => h.look t (fun x => ht (hw t x)), h.boxes⟩

theorem put_getD (a : Act) (d : Option Nat) (v : Value) (t : Nat) (hd : ∀ k, d = some k → k < a.tmps.size) : (a.put d v).tmps.getD t undef = if d = some t then v else a.tmps.getD t undef := by
  cases d with
  | none => simp [Act.put]
  | some k =>
    have hk := hd k rfl
    simp only [Act.put]
    by_cases h : k = t
    · subst h
      simp [Array.getD_eq_getD_getElem?, Array.getElem?_setIfInBounds, hk]
    · simp [Array.getD_eq_getD_getElem?, Array.getElem?_setIfInBounds_ne h, h]

theorem put_size (a : Act) (d : Option Nat) (v : Value) : (a.put d v).tmps.size = a.tmps.size := by cases d <;> simp [Act.put]
theorem put_defers' (a : Act) (d : Option Nat) (v : Value) : (a.put d v).defers = a.defers := by cases d <;> simp [Act.put]

section
variable {P : Program} {C : Ctx} {R : Ref}

theorem look_after (s : St) (o : Oper) (e : Eff) (t : Nat) : (s.after o e).look t = if o.dst = some t then e.av else (s.wrs e.wr).look t := by
  unfold St.after St.putO
  cases o.dst with
  | none => simp
  | some d =>
    simp only [look_put]
    by_cases h : d = t
    · simp [h]
    · have h' : ¬ t = d := fun hh => h hh.symm
      simp [h, h']

theorem boxes_after (s : St) (o : Oper) (e : Eff) : (s.after o e).boxes = applyB e.wr s.boxes := by
  rw [← wrs_boxes]
  unfold St.after St.putO
  cases o.dst <;> rfl
theorem IsSt.after {s : St} {a : Act} {w w' : World} {o : Oper} {e : Eff} {v : Value} {M : Mem} (hM : M.w = w) (hb : M.bs = s.boxes) (hr : ∀ t, RelV M (s.look t) (a.tmps.getD t undef)) (hd : ∀ k, o.dst = some k → k < a.tmps.size)
    (h : After R M e v w') : IsSt R (s.after o e) (a.put o.dst v) w' ∧ Apart (fun t => o.dst = some t) s a (s.after o e) (a.put o.dst v) := by
  obtain ⟨S', β', I, st, hv⟩ := h
  refine ⟨⟨_, rfl, by rw [boxes_after, ← hb], I, fun t => ?_⟩, put_size _ _ _, put_defers' _ _ _, fun t ht => ?_, fun t ht => ?_, fun b B hB => ?_⟩
  · rw [look_after, put_getD a o.dst v t hd]
    split
    · exact hv
    · rcases wrs_look e.wr s t with h1 | ⟨h1, h2⟩
      · rw [h1]; simp [RelV]
      · rw [h1]
        refine (hr t).step st (fun b hk => ?_)
        by_cases hbn : lk b s.boxes = none
        · cases hh : (s.look t).has b with
          | false => rfl
          | true => exact absurd (by rw [hb]; exact hbn) ((hr t).has_box b hh)
        · exact h2 b hk hbn
  · rw [put_getD a o.dst v t hd, if_neg ht]
  · rw [look_after, if_neg ht]
    rcases wrs_look e.wr s t with h1 | ⟨h1, _⟩
    · exact .inl h1
    · exact .inr h1
  · rw [boxes_after] at hB
    exact applyB_clean _ _ _ _ hB

theorem eval_func (a : Act) (f : Nat) : a.eval (.func f) = .func (.func f) #[] #[] := rfl

theorem constAV_rel {M : Mem} (v : Value) : RelV M (constAV v) v := by
  unfold constAV
  split
  · exact mkBool
  · rename_i k n
    split
    · rename_i hk
      exact mkInt (has_of_range hk)
    · simp [RelV]
  · rename_i s
    split
    · rename_i hs
      have : List.length (α := UInt8) s.data.toList ≤ maxStr := by simpa [Nat.ble_eq] using hs
      exact mkStr this
    · simp [RelV]
  · simp [RelV]

theorem global_rel {s : St} {a : Act} {M : Mem} (hT : Tab M.S M.w) (g : Nat) : RelV M (s.eval (.global g)) (a.eval (.global g)) := by
  simp only [St.eval]
  split
  · rename_i k zs hl
    obtain ⟨h1, h2⟩ := tab_has _ (lk_tab hl)
    have h3 := hT.1 _ h1
    simp only [RelV]
    refine ⟨g, 0, zs.map (Value.int k), ⟨rfl, encL_ints h2⟩, fun j v hj => ?_, rfl⟩
    rw [Nat.zero_add]
    exact ⟨(h3 j).2.trans hj, (h3 j).1⟩
  · simp [RelV]

theorem eval_rel {s : St} {a : Act} {M : Mem} (hT : Tab M.S M.w) (hr : ∀ t, RelV M (s.look t) (a.tmps.getD t undef)) (x : Operand) : RelV M (s.eval x) (a.eval x) := by
  cases x with
  | tmp t => exact hr t
  | const v => exact constAV_rel v
  | global g => exact global_rel hT g
  | func f => simp [St.eval, RelV, Act.eval, RelL]

theorem args_eq (s : St) (o : Oper) {bs : Bxs} (hb : bs = s.boxes) : s.args o = o.op.operands.toList.map fun x => argOf bs (s.eval x) := by
  subst hb
  rfl

theorem opRel_of {s : St} {a : Act} {M : Mem} (hT : Tab M.S M.w) (hr : ∀ t, RelV M (s.look t) (a.tmps.getD t undef)) (o : Oper) : OpRel M s.eval a.eval o := by
  unfold OpRel
  split
  · exact ⟨eval_rel hT hr _, fun _ => eval_rel hT hr _, fun _ => eval_rel hT hr _⟩
  · exact fun x _ => eval_rel hT hr x

theorem Yields.wp {o : Oper} {a : Act} {w : World} {K : Value → World → Prop} {next : Act → World → Prop} {Q : Exit → Act → World → Prop} (h : Yields P a.eval o w K) (hk : ∀ v w', K v w' → next (a.put o.dst v) w') : o.wp P a w next Q := by
  unfold Yields at h
  unfold Oper.wp
  generalize (execOp a.eval o).run P w = r at *
  cases r with
  | halt x w' => exact h.elim
  | ok n w' =>
    cases n <;> simp only [Oper.upon] at h ⊢
    case value v => exact hk v w' h
    case skip => exact hk _ w' h
    case enter f args => exact h.mono (fun e w'' he => by
      obtain ⟨v, rfl, hv⟩ := he
      exact hk v w'' hv)
theorem op_wp (TOK : TysOK P C.τ) (GOK : CtrsOK P C.Γ) {s : St} {a : Act} {w : World} (hs : IsSt R s a w) {o : Oper} {e : Eff} (he : opEff C.τ C.Γ (o.dst.getD 0) o (s.args o) = some e) (hn : e.ok) (hd : ∀ k, o.dst = some k → k < a.tmps.size)
    {next : Act → World → Prop} {Q : Exit → Act → World → Prop} (hnext : ∀ a' w', IsSt R (s.after o e) a' w' → Apart (fun t => o.dst = some t) s a (s.after o e) a' → next a' w') : o.wp P a w next Q := by
  obtain ⟨M, hM, hb, I, hr⟩ := hs
  rw [args_eq s o hb] at he
  have := opEff_sound TOK GOK I (eval_func a) (opRel_of (R.tab.keeps I.old) hr o) he hn
  rw [hM] at this
  refine this.wp (fun v w' hv => ?_)
  obtain ⟨h1, h2⟩ := IsSt.after hM hb hr hd hv
  exact hnext _ _ h1 h2

theorem holds_bind {α β : Type} {Q : β → Prop} {k : α → Tree β} : ∀ {t : Tree α}, (t.bind k).holds Q ↔ t.holds fun a => (k a).holds Q
  | .leaf a => Iff.rfl
  | .br c t e => by
    simp only [Tree.bind, Tree.holds]
    rw [holds_bind (t := t), holds_bind (t := e)]
  | .need p t => by
    simp only [Tree.bind, Tree.holds]
    rw [holds_bind (t := t)]
  | .stuck => Iff.rfl

theorem holds_mono {α : Type} {Q Q' : α → Prop} (h : ∀ a, Q a → Q' a) : ∀ {t : Tree α}, t.holds Q → t.holds Q'
  | .leaf a, k => h a k
  | .br c t e, k => ⟨fun hc => holds_mono h (k.1 hc), fun hc => holds_mono h (k.2 hc)⟩
  | .need p t, k => ⟨k.1, holds_mono h k.2⟩
  | .stuck, k => k.elim

theorem holds_needO {α : Type} {Q : α → Prop} {p : Option Prop} {t : Tree α} : (Tree.needO p t).holds Q ↔ (∀ q, p = some q → q) ∧ t.holds Q := by
  cases p with
  | none => exact ⟨fun h => ⟨fun _ hq => (by cases hq), h⟩, fun h => h.2⟩
  | some q => exact ⟨fun h => ⟨fun q' hq => (by cases hq; exact h.1), h.2⟩, fun h => ⟨h.1 q rfl, h.2⟩⟩
theorem runOps_wp (TOK : TysOK P C.τ) (GOK : CtrsOK P C.Γ) {ops : Array Oper} {Q : Exit → Act → World → Prop} : ∀ (l : List Oper) (k : Nat) (s : St) (a : Act) (w : World) (F : St → Prop), (∀ i o, l[i]? = some o → ops[k + i]? = some o) →
    (∀ o ∈ l, o.guard = none ∧ ∀ d, o.dst = some d → d < a.tmps.size) → IsSt R s a w → (runOps C l s).holds F →
    (∀ s' a' w', F s' → IsSt R s' a' w' → Apart (fun t => ∃ o ∈ l, o.dst = some t) s a s' a' → Q .normal a' w') → wpOps P ops Q (List.range' k l.length) a w
  | [], k, s, a, w, F, _, _, hs, hF, hQ => by
    simp only [List.length_nil, List.range'_zero, wpOps]
    exact hQ s a w hF hs (Apart.refl _ _ _)
  | o :: l, k, s, a, w, F, hops, hl, hs, hF, hQ => by
    have ho : ops[k]? = some o := by simpa using hops 0 o (by simp)
    simp only [List.length_cons, List.range'_succ, wpOps, ho]
    obtain ⟨hg, hd⟩ := hl o (by simp)
    rw [if_pos (by simp [Region.wanted, hg])]
    refine .inl ?_
    simp only [runOps] at hF
    split at hF
    · exact hF.elim
    · rename_i e he
      obtain ⟨hn, hF⟩ := holds_needO.1 hF
      refine op_wp TOK GOK hs he hn hd (fun a' w' h1 h2 => ?_)
      refine runOps_wp TOK GOK l (k + 1) _ a' w' F (fun i o' hi => by have := hops (i + 1) o' (by simpa using hi); rwa [show k + 1 + i = k + (i + 1) by omega]) (fun o' ho' => ⟨(hl o' (by simp [ho'])).1, fun d hd' => by rw [h2.size]; exact (hl o' (by simp [ho'])).2 d hd'⟩) h1 hF
        (fun s' a'' w'' f1 f2 f3 => hQ s' a'' w'' f1 f2 ((h2.mono (fun t ht => ⟨o, by simp, ht⟩)).trans (f3.mono (fun t ⟨o', h3, h4⟩ => ⟨o', by simp [h3], h4⟩))))

theorem look_putO (s : St) (d : Option Nat) (v : AV) (t : Nat) : (s.putO d v).look t = if d = some t then v else s.look t := by
  cases d with
  | none => simp [St.putO]
  | some d =>
    simp only [St.putO, look_put, Option.some.injEq]
    by_cases h : t = d
    · rw [if_pos h, if_pos h.symm]
    · rw [if_neg h, if_neg (fun e => h e.symm)]
theorem boolAV_eq {v : AV} {x : Bool} (h : boolAV v = some x) : v = .val .bool x := by
  unfold boolAV at h
  split at h
  · simp only [Option.some.injEq] at h; rw [h]
  · cases h
theorem isSkip_eq {v : AV} (h : isSkip v = true) : v = .cst undef := by
  unfold isSkip at h
  split at h
  · rename_i a
    have : a = #[] := by simpa using h
    rw [this]; rfl
  · cases h
theorem same_look {s s' : St} {a : Act} {w : World} (hb : s'.boxes = s.boxes) (hl : ∀ t, s'.look t = s.look t) (h : IsSt R s a w) : IsSt R s' a w := by
  obtain ⟨M, hM, hbs, I, hr⟩ := h
  exact ⟨M, hM, by rw [hb]; exact hbs, I, fun t => by rw [hl]; exact hr t⟩
theorem same_apart {W : Nat → Prop} {s s' : St} {a : Act} (hb : s'.boxes = s.boxes) (hl : ∀ t, s'.look t = s.look t) : Apart W s a s' a :=
  ⟨rfl, rfl, fun _ _ => rfl, fun t _ => .inr (hl t), fun b B h => by rw [← hb]; exact h⟩
theorem yielded_of {ops : Array Oper} {tmps : Array Value} {j d : Nat} (hj : (ops.toList[j]?).bind (·.dst) = some d) (x : Bool) (h : tmps.getD d undef = .bool x) : yielded ops tmps j = some x := by
  unfold yielded
  rw [← Array.getElem?_toList, hj]
  simp only [Option.bind_some]
  rw [Array.getD_eq_getD_getElem?] at h
  cases hh : tmps[d]? with
  | none => rw [hh] at h; simp [undef] at h
  | some v => rw [hh] at h; simp only [Option.getD_some] at h; rw [h]
theorem yielded_skip {ops : Array Oper} {tmps : Array Value} {j d : Nat} (hj : (ops.toList[j]?).bind (·.dst) = some d) (h : tmps.getD d undef = undef) : yielded ops tmps j = none := by
  unfold yielded
  rw [← Array.getElem?_toList, hj]
  simp only [Option.bind_some]
  rw [Array.getD_eq_getD_getElem?] at h
  cases hh : tmps[d]? with
  | none => rfl
  | some v => rw [hh] at h; simp only [Option.getD_some] at h; rw [h]; rfl

theorem skip_st {s : St} {a : Act} {w : World} {d : Option Nat} (hd : ∀ k, d = some k → k < a.tmps.size) (h : IsSt R s a w) : IsSt R (s.putO d (.cst undef)) (a.put d undef) w ∧ Apart (fun t => d = some t) s a (s.putO d (.cst undef)) (a.put d undef) := by
  obtain ⟨M, hM, hbs, I, hr⟩ := h
  have hb : (s.putO d (.cst undef)).boxes = s.boxes := by cases d <;> rfl
  refine ⟨⟨M, hM, by rw [hb]; exact hbs, I, fun t => ?_⟩, put_size _ _ _, put_defers' _ _ _, fun t ht => ?_, fun t ht => ?_, fun b B h => by rw [← hb]; exact h⟩
  · rw [look_putO, put_getD a d undef t hd]
    split
    · simp [RelV]
    · exact hr t
  · rw [put_getD a d undef t hd, if_neg ht]
  · rw [look_putO, if_neg ht]; exact .inr rfl

theorem holds_pickT {α : Type} {Q : α → Prop} {d x : Bool} {s t : Tree α} (h : (pickT d x s t).holds Q) : (x = true → s.holds Q) ∧ (x = false → t.holds Q) := by
  cases d with
  | false => exact h
  | true => cases x with
    | true => exact ⟨fun _ => h, nofun⟩
    | false => exact ⟨nofun, fun _ => h⟩
theorem runBr_wp (TOK : TysOK P C.τ) (GOK : CtrsOK P C.Γ) {ops : Array Oper} {Q : Exit → Act → World → Prop} : ∀ (l : List Oper) (k : Nat) (s : St) (a : Act) (w : World) (F : St → Prop), (∀ i o, l[i]? = some o → ops[k + i]? = some o) →
    (∀ o ∈ l, ∀ d, o.dst = some d → d < a.tmps.size) → IsSt R s a w → (runBr C ops.toList l s).holds F →
    (∀ s' a' w', F s' → IsSt R s' a' w' → Apart (fun t => ∃ o ∈ l, o.dst = some t) s a s' a' → Q .normal a' w') → wpOps P ops Q (List.range' k l.length) a w
  | [], k, s, a, w, F, _, _, hs, hF, hQ => by
    simp only [List.length_nil, List.range'_zero, wpOps]
    exact hQ s a w hF hs (Apart.refl _ _ _)
  | o :: l, k, s, a, w, F, hops, hl, hs, hF, hQ => by
    have ho : ops[k]? = some o := by simpa using hops 0 o (by simp)
    have hd := hl o (by simp)
    have hops' : ∀ i o', l[i]? = some o' → ops[k + 1 + i]? = some o' := fun i o' hi => by
      have := hops (i + 1) o' (by simpa using hi); rwa [show k + 1 + i = k + (i + 1) by omega]
    simp only [List.length_cons, List.range'_succ, wpOps, ho]
    -- it is carried out
    have run : ∀ s1 : St, s1.boxes = s.boxes → (∀ t, s1.look t = s.look t) → ∀ e, opEff C.τ C.Γ (o.dst.getD 0) o (s1.args o) = some e → (Tree.needO e.need (runBr C ops.toList l (s1.after o e))).holds F →
        o.wp P a w (wpOps P ops Q (List.range' (k + 1) l.length)) Q := by
      intro s1 hb1 hl1 e he hF1
      obtain ⟨hn, hF2⟩ := holds_needO.1 hF1
      refine op_wp TOK GOK (same_look hb1 hl1 hs) he hn hd (fun a' w' h1 h2 => ?_)
      refine runBr_wp TOK GOK l (k + 1) _ a' w' F hops' (fun o' ho' d hd' => by rw [h2.size]; exact hl o' (by simp [ho']) d hd') h1 hF2
        (fun s' a'' w'' f1 f2 f3 => hQ s' a'' w'' f1 f2 (((same_apart hb1 hl1).trans (h2.mono (fun t ht => ⟨o, by simp, ht⟩))).trans (f3.mono (fun t ⟨o', h3, h4⟩ => ⟨o', by simp [h3], h4⟩))))
    have skip : ∀ s1 : St, s1.boxes = s.boxes → (∀ t, s1.look t = s.look t) → (runBr C ops.toList l (s1.putO o.dst (.cst (.tuple #[])))).holds F → wpOps P ops Q (List.range' (k + 1) l.length) (a.put o.dst undef) w := by
      intro s1 hb1 hl1 hF1
      obtain ⟨h1, h2⟩ := skip_st hd (same_look hb1 hl1 hs)
      refine runBr_wp TOK GOK l (k + 1) _ _ w F hops' (fun o' ho' d hd' => by rw [h2.size]; exact hl o' (by simp [ho']) d hd') h1 hF1
        (fun s' a'' w'' f1 f2 f3 => hQ s' a'' w'' f1 f2 (((same_apart hb1 hl1).trans (h2.mono (fun t ht => ⟨o, by simp, ht⟩))).trans (f3.mono (fun t ⟨o', h3, h4⟩ => ⟨o', by simp [h3], h4⟩))))
    simp only [runBr] at hF
    split at hF
    · rename_i hg
      rw [if_pos (by simp [Region.wanted, hg])]
      split at hF
      · exact hF.elim
      · rename_i e he
        exact .inl (run s rfl (fun _ => rfl) e he hF)
    · rename_i j wnt hg
      split at hF
      · exact hF.elim
      · rename_i d hj
        have hrel : ∃ M : Mem, RelV M (s.look d) (a.tmps.getD d undef) := by
          obtain ⟨M, _, _, _, hr⟩ := hs
          exact ⟨M, hr d⟩
        obtain ⟨M, hrel⟩ := hrel
        split at hF
        · rename_i _ x hx
          have hv := boolAV_eq hx
          rw [hv] at hrel
          have hy := yielded_of hj x (relBool hrel)
          simp only [Region.wanted, hg, hy]
          cases hxw : x == wnt with
          | true =>
            have hx' : x = wnt := by simpa using hxw
            subst hx'
            have hF1 := (holds_pickT hF).1 hxw
            rw [if_pos (by simp)]
            split at hF1
            · exact hF1.elim
            · rename_i e he
              refine .inl (run (s.put d (.val .bool x)) rfl (fun t => ?_) e he hF1)
              rw [look_put]
              split
              · rename_i ht; subst ht; exact hv.symm
              · rfl
          | false =>
            have hx' : x = !wnt := by cases x <;> cases wnt <;> simp_all
            subst hx'
            have hF1 := (holds_pickT hF).2 hxw
            rw [if_neg (by simp)]
            refine skip (s.put d (.val .bool (!wnt))) rfl (fun t => ?_) hF1
            rw [look_put]
            split
            · rename_i ht; subst ht; exact hv.symm
            · rfl
        · rename_i hb hsk
          have hv := isSkip_eq hsk
          rw [hv] at hrel
          have hy := yielded_skip hj hrel
          simp only [Region.wanted, hg, hy]
          rw [if_neg (by simp)]
          exact skip s rfl (fun _ => rfl) hF
        · exact hF.elim
end
end Go.Ev
/- Regions that have guards, or a draw: what stands in the slots and the boxes, whichever operations have been carried out. -/
set_option linter.unusedVariables false
set_option linter.unusedSimpArgs false
namespace Go.Ev

def lay {α : Type} (b : Bool) (o : Option α) (d : α) : α :=
  match b, o with
  | true, some v => v
  | _, _ => d
def ov {α : Type} (L : Nat → Bool) : List (Nat → Option α) → Nat → (Nat → α) → Nat → α
  | [], _, f => f
  | u :: us, k, f => ov L us (k + 1) fun t => lay (L k) (u t) (f t)

theorem ov_congr {α : Type} {L L' : Nat → Bool} {t : Nat} : ∀ {us : List (Nat → Option α)} {k : Nat} {f f' : Nat → α}, f t = f' t → (∀ i u, us[i]? = some u → u t ≠ none → L (k + i) = L' (k + i)) → ov L us k f t = ov L' us k f' t
  | [], _, _, _, hf, _ => hf
  | u :: us, k, f, f', hf, h => by
    simp only [ov]
    refine ov_congr ?_ (fun i u' hi hu => by have := h (i + 1) u' (by simpa using hi) hu; rwa [show k + 1 + i = k + (i + 1) by omega])
    cases hu : u t with
    | none => cases L k <;> cases L' k <;> simpa [lay] using hf
    | some v =>
      have := h 0 u (by simp) (by rw [hu]; simp)
      simp only [Nat.add_zero] at this
      rw [this]
      cases L' k <;> simp [lay, hf]

theorem ov_none {α : Type} {L : Nat → Bool} {t : Nat} : ∀ {us : List (Nat → Option α)} {k : Nat} {f : Nat → α}, (∀ i u, us[i]? = some u → u t ≠ none → L (k + i) = false) → ov L us k f t = f t
  | [], _, _, _ => rfl
  | u :: us, k, f, h => by
    simp only [ov]
    rw [ov_none (fun i u' hi hu => by have := h (i + 1) u' (by simpa using hi) hu; rwa [show k + 1 + i = k + (i + 1) by omega])]
    cases hu : u t with
    | none => cases L k <;> rfl
    | some v =>
      have := h 0 u (by simp) (by rw [hu]; simp)
      simp only [Nat.add_zero] at this
      rw [this]
      rfl

theorem ov_last {α : Type} {L : Nat → Bool} {t : Nat} {v : α} : ∀ {us : List (Nat → Option α)} {k : Nat} {f : Nat → α} (i : Nat) (u : Nat → Option α), us[i]? = some u → u t = some v → L (k + i) = true →
    (∀ j u, i < j → us[j]? = some u → u t ≠ none → L (k + j) = false) → ov L us k f t = v
  | [], _, _, i, u, hi, _, _, _ => by simp at hi
  | u0 :: us, k, f, 0, u, hi, hu, hL, h => by
    simp only [List.getElem?_cons_zero, Option.some.injEq] at hi
    subst hi
    simp only [ov]
    simp only [Nat.add_zero] at hL
    rw [ov_none (fun j u' hj hu' => by have := h (j + 1) u' (by omega) (by simpa using hj) hu'; rwa [show k + 1 + j = k + (j + 1) by omega])]
    rw [hL, hu]
    rfl
  | u0 :: us, k, f, i + 1, u, hi, hu, hL, h => by
    simp only [ov]
    exact ov_last i u (by simpa using hi) hu (by rwa [show k + 1 + i = k + (i + 1) by omega]) (fun j u' hj hi' hu' => by have := h (j + 1) u' (by omega) (by simpa using hi') hu'; rwa [show k + 1 + j = k + (j + 1) by omega])
def wrAt (b : Nat) : List (Nat × Bool × Box) → Option Box
  | [] => none
  | x :: l => match wrAt b l with
    | some B => some B
    | none => match Nat.beq x.1 b with
      | true => some x.2.2
      | false => none

theorem lk_applyB (b : Nat) : ∀ (ws : List (Nat × Bool × Box)) (bs : Bxs), lk b (applyB ws bs) = match wrAt b ws with | some B => some (true, B) | none => lk b bs
  | [], _ => rfl
  | x :: l, bs => by
    simp only [applyB, wrAt]
    rw [lk_applyB b l]
    cases wrAt b l with
    | some B => rfl
    | none =>
      simp only [lk_st]
      cases hb : Nat.beq x.1 b with
      | true => simp [Nat.eq_of_beq_eq_true hb]
      | false =>
        have : ¬ b = x.1 := fun h => by rw [h] at hb; simp at hb
        simp [this]

theorem wrAt_mem {b : Nat} : ∀ {ws : List (Nat × Bool × Box)} {B : Box}, wrAt b ws = some B → b ∈ ws.map (·.1)
  | [], _, h => by simp [wrAt] at h
  | x :: l, B, h => by
    simp only [wrAt] at h
    cases hl : wrAt b l with
    | some B' => exact List.mem_cons_of_mem _ (wrAt_mem hl)
    | none =>
      rw [hl] at h
      cases hb : Nat.beq x.1 b with
      | true => simp [Nat.eq_of_beq_eq_true hb]
      | false => rw [hb] at h; simp at h

theorem fresh_tmps : ∀ (ws : List (Nat × Bool × Box)) (s : St), freshWr ws s.boxes = true → (s.wrs ws).tmps = s.tmps ∧ ∀ b, killed ws b → lk b s.boxes = none
  | [], s, _ => ⟨rfl, fun b hb => by obtain ⟨B, hB⟩ := hb; simp at hB⟩
  | x :: l, s, h => by
    simp only [freshWr, Bool.and_eq_true, Bool.or_eq_true, Bool.not_eq_true', Option.isNone_iff_eq_none] at h
    obtain ⟨h1, h2⟩ := h
    have hw : s.wr1 x = { s with boxes := st' x.1 (true, x.2.2) s.boxes } := by
      unfold St.wr1
      split
      · rename_i B hx hB
        rcases h1 with h1 | h1
        · rw [hx] at h1; cases h1
        · simp [St.box, h1] at hB
      · rfl
    simp only [St.wrs]
    obtain ⟨q1, q2⟩ := fresh_tmps l (s.wr1 x) (by rw [hw]; exact h2)
    refine ⟨by rw [q1, hw], fun b hb => ?_⟩
    obtain ⟨B, hB⟩ := hb
    rcases List.mem_cons.1 hB with hB | hB
    · rcases h1 with h1 | h1
      · rw [← hB] at h1; simp at h1
      · rw [← hB] at h1; exact h1
    · have := q2 b ⟨B, hB⟩
      rw [hw] at this
      simp only [lk_st] at this
      split at this
      · simp at this
      · exact this

theorem memN_iff {x : Nat} : ∀ {l : List Nat}, memN x l = true ↔ x ∈ l
  | [] => by simp [memN]
  | y :: l => by
    simp only [memN, Bool.or_eq_true, List.mem_cons, memN_iff (l := l)]
    rw [Nat.beq_eq]

theorem memP_iff {x : Nat × Bool} : ∀ {l : List (Nat × Bool)}, memP x l = true ↔ x ∈ l
  | [] => by simp [memP]
  | y :: l => by
    simp only [memP, Bool.or_eq_true, Bool.and_eq_true, List.mem_cons, memP_iff (l := l), Nat.beq_eq, beq_iff_eq]
    rw [Prod.ext_iff]

theorem subP_iff : ∀ {l m : List (Nat × Bool)}, subP l m = true → ∀ x ∈ l, x ∈ m
  | [], _, _ => by simp
  | y :: l, m, h => by
    simp only [subP, Bool.and_eq_true] at h
    intro x hx
    rcases List.mem_cons.1 hx with rfl | hx
    · exact memP_iff.1 h.1
    · exact subP_iff h.2 x hx

theorem disj_spec {a b : Foot} (h : disj a b = true) :
    (∀ d, a.wt = some d → d ∉ b.rt ∧ b.wt ≠ some d) ∧ (∀ d, b.wt = some d → d ∉ a.rt) ∧ (∀ x ∈ a.wb, x ∉ b.rb ∧ x ∉ b.wb) ∧ (∀ x ∈ b.wb, x ∉ a.rb) := by
  have nm : ∀ {x : Nat} {l : List Nat}, memN x l = false → x ∉ l := fun hf hm => by rw [memN_iff.2 hm] at hf; cases hf
  simp only [disj, Bool.and_eq_true, List.all_eq_true, Bool.not_eq_true'] at h
  obtain ⟨⟨⟨h1, h2⟩, h3⟩, h4⟩ := h
  refine ⟨fun d hd => ?_, fun d hd => ?_, fun x hx => ⟨nm (h3 x hx).1, nm (h3 x hx).2⟩, fun x hx => nm (h4 x hx)⟩
  · rw [hd] at h1
    simp only [Bool.and_eq_true, Bool.not_eq_true'] at h1
    refine ⟨nm h1.1, fun hb => ?_⟩
    rw [hb] at h1
    simp at h1
  · rw [hd] at h2
    simp only [Bool.not_eq_true'] at h2
    exact nm h2

theorem nodup_unique : ∀ {ops : List Oper}, nodupN (dsts ops) = true → ∀ {i j : Nat} {o o' : Oper} {t : Nat}, ops[i]? = some o → ops[j]? = some o' → o.dst = some t → o'.dst = some t → i = j
  | [], _, i, j, o, o', t, hi, _, _, _ => by simp at hi
  | x :: l, h, i, j, o, o', t, hi, hj, ho, ho' => by
    have hmem : ∀ {k : Nat} {y : Oper}, l[k]? = some y → y.dst = some t → t ∈ dsts l := fun hk hy => List.mem_filterMap.2 ⟨_, List.mem_of_getElem? hk, hy⟩
    have hl : nodupN (dsts l) = true := by
      unfold dsts at h ⊢
      simp only [List.filterMap_cons] at h
      split at h
      · exact h
      · simp only [nodupN, Bool.and_eq_true] at h; exact h.2
    have hx : x.dst = some t → t ∉ dsts l := by
      intro hx hm
      unfold dsts at h hm
      simp only [List.filterMap_cons, hx, nodupN, Bool.and_eq_true, Bool.not_eq_true'] at h
      rw [memN_iff.2 hm] at h
      simp at h
    cases i with
    | zero =>
      simp only [List.getElem?_cons_zero, Option.some.injEq] at hi
      subst hi
      cases j with
      | zero => rfl
      | succ j => exact absurd (hmem (by simpa using hj) ho') (hx ho)
    | succ i =>
      cases j with
      | zero =>
        simp only [List.getElem?_cons_zero, Option.some.injEq] at hj
        subst hj
        exact absurd (hmem (by simpa using hi) ho) (hx ho')
      | succ j => exact congrArg (· + 1) (nodup_unique hl (i := i) (j := j) (by simpa using hi) (by simpa using hj) ho ho')

theorem find_dst {ops : List Oper} (h : nodupN (dsts ops) = true) {i : Nat} {o : Oper} {t : Nat} (hi : ops[i]? = some o) (ho : o.dst = some t) : ops.find? (dstIs t) = some o := by
  have hdst : ∀ y : Oper, dstIs t y = true ↔ y.dst = some t := by
    intro y
    unfold dstIs
    cases hy : y.dst with
    | none => simp
    | some d => simp [Nat.beq_eq]
  cases hf : ops.find? (dstIs t) with
  | none =>
    rw [List.find?_eq_none] at hf
    exact absurd ((hdst o).2 ho) (hf o (List.mem_of_getElem? hi))
  | some y =>
    have h1 := List.find?_some hf
    have h2 := List.mem_of_find?_eq_some hf
    obtain ⟨j, hj⟩ := List.mem_iff_getElem?.1 h2
    have := nodup_unique h hj hi ((hdst y).1 h1) ho
    subst this
    exact hj.symm.trans hi
end Go.Ev
/- Regions that have guards, or a draw: one operation more. -/
set_option linter.unusedVariables false
set_option linter.unusedSimpArgs false
namespace Go.Ev

def uS (o : Oper) (x : St × Eff) : Nat → Option AV := fun t => if o.dst = some t then some x.2.av else none
def uB (x : St × Eff) : Nat → Option (Option (Bool × Box)) := fun b => (wrAt b x.2.wr).map fun B => some (true, B)
def uSs : List Oper → List (St × Eff) → List (Nat → Option AV)
  | o :: l, x :: r => uS o x :: uSs l r
  | _, _ => []
def uBs (r : List (St × Eff)) : List (Nat → Option (Option (Bool × Box))) := r.map uB

theorem uSs_get : ∀ {l : List Oper} {r : List (St × Eff)} {i : Nat} {o : Oper} {x : St × Eff}, l[i]? = some o → r[i]? = some x → (uSs l r)[i]? = some (uS o x)
  | [], _, _, _, _, h, _ => by simp at h
  | _ :: _, [], _, _, _, _, h => by simp at h
  | o :: l, x :: r, 0, _, _, h, k => by simp at h k; subst h; subst k; rfl
  | o :: l, x :: r, i + 1, _, _, h, k => by simp only [uSs, List.getElem?_cons_succ] at h k ⊢; exact uSs_get h k

theorem uSs_inv : ∀ {l : List Oper} {r : List (St × Eff)} {i : Nat} {u : Nat → Option AV}, (uSs l r)[i]? = some u → ∃ o x, l[i]? = some o ∧ r[i]? = some x ∧ u = uS o x
  | [], _, _, _, h => by simp [uSs] at h
  | _ :: _, [], _, _, h => by simp [uSs] at h
  | o :: l, x :: r, 0, _, h => by simp [uSs] at h; exact ⟨o, x, rfl, rfl, h.symm⟩
  | o :: l, x :: r, i + 1, _, h => by simp only [uSs, List.getElem?_cons_succ] at h ⊢; exact uSs_inv h

theorem uS_some {o : Oper} {x : St × Eff} {t : Nat} (h : uS o x t ≠ none) : o.dst = some t := by
  unfold uS at h
  split at h
  · assumption
  · exact absurd rfl h

theorem uB_some {x : St × Eff} {b : Nat} (h : uB x b ≠ none) : b ∈ x.2.wr.map (·.1) := by
  unfold uB at h
  cases hw : wrAt b x.2.wr with
  | none => rw [hw] at h; exact absurd rfl h
  | some B => exact wrAt_mem hw

theorem after_fresh {s : St} {o : Oper} {e : Eff} (h : freshWr e.wr s.boxes = true) (t : Nat) : (s.after o e).look t = if o.dst = some t then e.av else s.look t := by
  rw [look_after]
  have := (fresh_tmps e.wr s h).1
  unfold St.look
  rw [this]
structure Reg (C : Ctx) (ops : List Oper) (r : List (St × Eff)) (s0 sE : St) : Prop where
  len : r.length = ops.length
  eff : ∀ (i : Nat) (o : Oper) (x : St × Eff), ops[i]? = some o → r[i]? = some x → opEff C.τ C.Γ (o.dst.getD 0) o (x.1.args o) = some x.2
  fresh : ∀ (i : Nat) (o : Oper) (x : St × Eff), ops[i]? = some o → r[i]? = some x → freshWr x.2.wr x.1.boxes = true ∧ (o.guard = none ∨ x.2.wr = [])
  look : ∀ (i : Nat) (x : St × Eff) (t : Nat), r[i]? = some x → x.1.look t = ov (fun j => decide (j < i)) (uSs ops r) 0 s0.look t
  box : ∀ (i : Nat) (x : St × Eff) (b : Nat), r[i]? = some x → lk b x.1.boxes = ov (fun j => decide (j < i)) (uBs r) 0 (fun b => lk b s0.boxes) b
  lookE : ∀ t, sE.look t = ov (fun _ => true) (uSs ops r) 0 s0.look t
  boxE : ∀ b, lk b sE.boxes = ov (fun _ => true) (uBs r) 0 (fun b => lk b s0.boxes) b

theorem effs_reg (C : Ctx) : ∀ (l : List Oper) (s : St) (r : List (St × Eff)) (sE : St), effs C l s = some (r, sE) → effsOK l r = true →
    r.length = l.length ∧ (∀ (i : Nat) (o : Oper) (x : St × Eff), l[i]? = some o → r[i]? = some x → opEff C.τ C.Γ (o.dst.getD 0) o (x.1.args o) = some x.2) ∧
    (∀ (i : Nat) (o : Oper) (x : St × Eff), l[i]? = some o → r[i]? = some x → freshWr x.2.wr x.1.boxes = true ∧ (o.guard = none ∨ x.2.wr = [])) ∧
    (∀ (k i : Nat) (x : St × Eff) (t : Nat), r[i]? = some x → x.1.look t = ov (fun j => decide (j < k + i)) (uSs l r) k s.look t) ∧
    (∀ (k i : Nat) (x : St × Eff) (b : Nat), r[i]? = some x → lk b x.1.boxes = ov (fun j => decide (j < k + i)) (uBs r) k (fun b => lk b s.boxes) b) ∧
    (∀ (k t : Nat), sE.look t = ov (fun _ => true) (uSs l r) k s.look t) ∧ (∀ (k b : Nat), lk b sE.boxes = ov (fun _ => true) (uBs r) k (fun b => lk b s.boxes) b)
  | [], s, r, sE, h, _ => by
    simp only [effs, Option.some.injEq, Prod.mk.injEq] at h
    obtain ⟨rfl, rfl⟩ := h
    simp [uSs, uBs, ov]
  | o :: l, s, r, sE, h, hok => by
    simp only [effs] at h
    split at h
    · cases h
    rename_i e he
    split at h
    · cases h
    rename_i r' s' hr
    simp only [Option.some.injEq, Prod.mk.injEq] at h
    obtain ⟨rfl, rfl⟩ := h
    simp only [effsOK, Bool.and_eq_true, Bool.or_eq_true, Option.isNone_iff_eq_none, List.isEmpty_iff] at hok
    obtain ⟨⟨hf, hg⟩, hok⟩ := hok
    obtain ⟨h1, h2, h3, h4, h5, h6, h7⟩ := effs_reg C l _ r' s' hr hok
    have hlook : ∀ t, (s.after o e).look t = lay true (uS o (s, e) t) (s.look t) := by
      intro t
      rw [after_fresh hf]
      unfold uS
      by_cases hd : o.dst = some t
      · simp [hd, lay]
      · simp [hd, lay]
    have hbox : ∀ b, lk b (s.after o e).boxes = lay true (uB (s, e) b) (lk b s.boxes) := by
      intro b
      rw [boxes_after, lk_applyB]
      unfold uB
      simp only
      cases wrAt b e.wr <;> rfl
    refine ⟨by simp [h1], fun i o' x hi hx => ?_, fun i o' x hi hx => ?_, fun k i x t hx => ?_, fun k i x b hx => ?_, fun k t => ?_, fun k b => ?_⟩
    · cases i with
      | zero => simp at hi hx; subst hi; subst hx; exact he
      | succ i => exact h2 i o' x (by simpa using hi) (by simpa using hx)
    · cases i with
      | zero => simp at hi hx; subst hi; subst hx; exact ⟨hf, hg⟩
      | succ i => exact h3 i o' x (by simpa using hi) (by simpa using hx)
    · cases i with
      | zero =>
        simp at hx
        subst hx
        rw [ov_none (fun j u hj hu => by simp)]
      | succ i =>
        rw [h4 (k + 1) i x t (by simpa using hx)]
        simp only [uSs, ov]
        rw [show k + 1 + i = k + (i + 1) by omega]
        refine ov_congr ?_ (fun _ _ _ _ => rfl)
        rw [hlook, show decide (k < k + (i + 1)) = true by simp]
    · cases i with
      | zero =>
        simp at hx
        subst hx
        rw [ov_none (fun j u hj hu => by simp)]
      | succ i =>
        rw [h5 (k + 1) i x b (by simpa using hx)]
        simp only [uBs, List.map_cons, ov]
        rw [show k + 1 + i = k + (i + 1) by omega]
        refine ov_congr ?_ (fun _ _ _ _ => rfl)
        rw [hbox, show decide (k < k + (i + 1)) = true by simp]
    · rw [h6 (k + 1) t]
      simp only [uSs, ov]
      exact ov_congr (hlook t) (fun _ _ _ _ => rfl)
    · rw [h7 (k + 1) b]
      simp only [uBs, List.map_cons, ov]
      exact ov_congr (hbox b) (fun _ _ _ _ => rfl)

theorem Reg.of {C : Ctx} {l : List Oper} {s : St} {r : List (St × Eff)} {sE : St} (h : effs C l s = some (r, sE)) (k : effsOK l r = true) : Reg C l r s sE := by
  obtain ⟨h1, h2, h3, h4, h5, h6, h7⟩ := effs_reg C l s r sE h k
  refine ⟨h1, h2, h3, fun i x t hx => ?_, fun i x b hx => ?_, fun t => h6 0 t, fun b => h7 0 b⟩
  · have := h4 0 i x t hx; simpa using this
  · have := h5 0 i x b hx; simpa using this

def wnt (A : Array Oper) (o : Oper) (a : Act) : Bool := Region.wanted o (yielded A a.tmps)

theorem wnt_none {A : Array Oper} {o : Oper} {a : Act} (h : o.guard = none) : wnt A o a = true := by simp [wnt, Region.wanted, h]
theorem wnt_some {A : Array Oper} {o oj : Oper} {a : Act} {j d : Nat} {w : Bool} (h : o.guard = some (j, w)) (hj : A[j]? = some oj) (hd : oj.dst = some d) : wnt A o a = true ↔ a.tmps.getD d undef = .bool w := by
  simp only [wnt, Region.wanted, h, yielded, hj, Option.bind_some, hd]
  cases ht : a.tmps[d]? with
  | none => simp [ht, undef]
  | some v =>
    have : a.tmps.getD d undef = v := by simp [Array.getD_eq_getD_getElem?, ht]
    rw [this]
    cases v <;> simp
structure GOK (A : Array Oper) : Prop where
  nodup : nodupN (dsts A.toList) = true
  seen : ∀ o ∈ A.toList, guardOK A.toList A.toList.length o = true
  guard : ∀ (i : Nat) o j w, A[i]? = some o → o.guard = some (j, w) → j < i ∧ ∃ oj d, A[j]? = some oj ∧ oj.dst = some d

theorem GOK.of {A : Array Oper} (h : guardsOK A.toList = true) : GOK A := by
  simp only [guardsOK, Bool.and_eq_true, List.all_eq_true] at h
  obtain ⟨⟨h1, h2⟩, h3⟩ := h
  refine ⟨h1, h2, fun i o j w hi hg => ?_⟩
  have hm : (o, i) ∈ A.toList.zipIdx := by
    rw [List.mem_zipIdx_iff_getElem?]
    simpa using hi
  have := h3 _ hm
  simp only [hg, Bool.and_eq_true] at this
  obtain ⟨k1, k2⟩ := this
  refine ⟨by simpa [Nat.blt_eq] using k1, ?_⟩
  cases hj : A.toList[j]? with
  | none => rw [hj] at k2; simp at k2
  | some oj =>
    rw [hj] at k2
    cases hd : oj.dst with
    | none => simp [hd] at k2
    | some d => exact ⟨oj, d, by simpa using hj, hd⟩
structure At (A : Array Oper) (r : List (St × Eff)) (s0 : St) (R : Ref) (a0 : Act) (L : Nat → Bool) (a : Act) (M : Mem) : Prop where
  mem : InvM R M
  box : ∀ b, lk b M.bs = ov L (uBs r) 0 (fun b => lk b s0.boxes) b
  skipped : ∀ (m : Nat) (o : Oper) (t : Nat), A[m]? = some o → o.dst = some t → L m = true → wnt A o a = false → a.tmps.getD t undef = undef
  slot : ∀ t : Nat, (∀ (m : Nat) (o : Oper), A[m]? = some o → o.dst = some t → L m = true → wnt A o a = true) → RelV M (ov L (uSs A.toList r) 0 s0.look t) (a.tmps.getD t undef)
  size : a.tmps.size = a0.tmps.size
  defers : a.defers = a0.defers
  out : ∀ t, (∀ o ∈ A.toList, o.dst ≠ some t) → a.tmps.getD t undef = a0.tmps.getD t undef
structure May (A : Array Oper) (r : List (St × Eff)) (L : Nat → Bool) (i : Nat) (f : Foot) : Prop where
  before : ∀ (j : Nat) (oj : Oper) (x : St × Eff), j < i → A[j]? = some oj → r[j]? = some x → disj (foot A.toList oj x.1 x.2) f = true ∨ L j = true
  behind : ∀ (j : Nat) (oj : Oper) (x : St × Eff), i < j → A[j]? = some oj → r[j]? = some x → disj f (foot A.toList oj x.1 x.2) = true ∨ L j = false
  self : L i = false

def Closed (A : Array Oper) (r : List (St × Eff)) (L : Nat → Bool) : Prop :=
  ∀ (i : Nat) (o : Oper) (x : St × Eff), A[i]? = some o → r[i]? = some x → L i = true → ∀ (j : Nat) (oj : Oper) (y : St × Eff), j < i → A[j]? = some oj → r[j]? = some y → disj (foot A.toList oj y.1 y.2) (foot A.toList o x.1 x.2) = true ∨ L j = true

def holdsCh (a : Act) (ch : List (Nat × Bool)) : Prop := ∀ x ∈ ch, a.tmps.getD x.1 undef = .bool x.2

section
variable {P : Program} {C : Ctx} {R : Ref} {A : Array Oper} {r : List (St × Eff)} {s0 sE : St} {a0 a : Act} {L : Nat → Bool} {M : Mem}

theorem Reg.get (G : Reg C A.toList r s0 sE) {i : Nat} {o : Oper} (h : A[i]? = some o) : ∃ x, r[i]? = some x := by
  have : i < A.toList.length := by
    have := (Array.getElem?_eq_some_iff.1 h).1
    simpa using this
  rw [← G.len] at this
  exact ⟨r[i], List.getElem?_eq_getElem this⟩
theorem chain_holds (K : GOK A) (G : Reg C A.toList r s0 sE) (H : At A r s0 R a0 L a M) (Cl : Closed A r L) : ∀ (n i : Nat) (o : Oper) (x : St × Eff), A[i]? = some o → r[i]? = some x →
    (∀ (j : Nat) (oj : Oper) (y : St × Eff), j < i → A[j]? = some oj → r[j]? = some y → disj (foot A.toList oj y.1 y.2) (foot A.toList o x.1 x.2) = true ∨ L j = true) → wnt A o a = true →
    ∀ z ∈ chain A.toList n o, a.tmps.getD z.1 undef = .bool z.2 ∧ ∃ m om, m < i ∧ A[m]? = some om ∧ om.dst = some z.1 ∧ L m = true ∧ wnt A om a = true
  | 0, i, o, x, _, _, _, _ => by simp [chain]
  | n + 1, i, o, x, hi, hx, hb, hw => by
    intro z hz
    simp only [chain] at hz
    cases hg : o.guard with
    | none => rw [hg] at hz; simp at hz
    | some jw =>
      obtain ⟨j, w⟩ := jw
      obtain ⟨hlt, oj, d, hj, hd⟩ := K.guard i o j w hi hg
      rw [hg] at hz
      have hj' : A.toList[j]? = some oj := by simpa using hj
      simp only [hj', hd] at hz
      have htd := (wnt_some hg hj hd).1 hw
      obtain ⟨y, hy⟩ := G.get hj
      have hL : L j = true := by
        rcases hb j oj y hlt hj hy with h | h
        · exfalso
          have := (disj_spec h).1 d (by simpa [foot] using hd)
          exact this.1 (by simp [foot, guardSlot, hg, hj', hd])
        · exact h
      have hwj : wnt A oj a = true := by
        cases hwj : wnt A oj a with
        | true => rfl
        | false =>
          have := H.skipped j oj d hj hd hL hwj
          rw [htd] at this
          simp [undef] at this
      rcases List.mem_cons.1 hz with rfl | hz
      · exact ⟨htd, j, oj, hlt, hj, hd, hL, hwj⟩
      · obtain ⟨h1, m, om, h2, h3⟩ := chain_holds K G H Cl n j oj y hj hy (Cl j oj y hj hy hL) hwj z hz
        exact ⟨h1, m, om, by omega, h3⟩

theorem holds_wnt (K : GOK A) {n i : Nat} {o : Oper} (hi : A[i]? = some o) (h : holdsCh a (chain A.toList (n + 1) o)) : wnt A o a = true := by
  cases hg : o.guard with
  | none => exact wnt_none hg
  | some jw =>
    obtain ⟨j, w⟩ := jw
    obtain ⟨hlt, oj, d, hj, hd⟩ := K.guard i o j w hi hg
    have hj' : A.toList[j]? = some oj := by simpa using hj
    refine (wnt_some hg hj hd).2 (h (d, w) ?_)
    simp [chain, hg, hj', hd]
theorem slot_of (K : GOK A) (L : Nat → Bool) {m : Nat} {o : Oper} {x : St × Eff} {t : Nat} (hm : A[m]? = some o) (hx : r[m]? = some x) (ht : o.dst = some t) (hL : L m = true) (f : Nat → AV) : ov L (uSs A.toList r) 0 f t = x.2.av := by
  refine ov_last m (uS o x) (uSs_get (by simpa using hm) hx) (by simp [uS, ht]) (by simpa using hL) (fun j u hj hu hut => ?_)
  obtain ⟨o', x', h1, h2, rfl⟩ := uSs_inv hu
  have := nodup_unique K.nodup (by simpa using hm) h1 ht (uS_some hut)
  omega
theorem read_slot (G : Reg C A.toList r s0 sE) {i : Nat} {o : Oper} {x : St × Eff} (hi : A[i]? = some o) (hx : r[i]? = some x) (Y : May A r L i (foot A.toList o x.1 x.2)) {t : Nat} (ht : t ∈ (foot A.toList o x.1 x.2).rt) :
    ov L (uSs A.toList r) 0 s0.look t = x.1.look t := by
  rw [G.look i x t hx]
  refine ov_congr rfl (fun j u hj hu => ?_)
  obtain ⟨o', y, h1, h2, rfl⟩ := uSs_inv hj
  have hd := uS_some hu
  simp only [Nat.zero_add]
  have h1' : A[j]? = some o' := by simpa using h1
  rcases Nat.lt_trichotomy j i with hlt | heq | hgt
  · rw [show decide (j < i) = true by simpa using hlt]
    rcases Y.before j o' y hlt h1' h2 with h | h
    · exact absurd ht ((disj_spec h).1 t (by simpa [foot] using hd)).1
    · exact h
  · subst heq
    simp [Y.self]
  · rw [show decide (j < i) = false by simp; omega]
    rcases Y.behind j o' y hgt h1' h2 with h | h
    · exact absurd ht ((disj_spec h).2.1 t (by simpa [foot] using hd))
    · exact h

theorem read_box (G : Reg C A.toList r s0 sE) {i : Nat} {o : Oper} {x : St × Eff} (hi : A[i]? = some o) (hx : r[i]? = some x) (Y : May A r L i (foot A.toList o x.1 x.2)) {b : Nat} (hb : b ∈ (foot A.toList o x.1 x.2).rb ∨ b ∈ (foot A.toList o x.1 x.2).wb) :
    ov L (uBs r) 0 (fun b => lk b s0.boxes) b = lk b x.1.boxes := by
  rw [G.box i x b hx]
  refine ov_congr rfl (fun j u hj hu => ?_)
  simp only [uBs, List.getElem?_map, Option.map_eq_some_iff] at hj
  obtain ⟨y, h2, rfl⟩ := hj
  have hd := uB_some hu
  simp only [Nat.zero_add]
  have hj' : ∃ o', A[j]? = some o' := by
    have := (List.getElem?_eq_some_iff.1 h2).1
    rw [G.len] at this
    have hh : j < A.size := by simpa using this
    exact ⟨A[j], Array.getElem?_eq_getElem hh⟩
  obtain ⟨o', h1'⟩ := hj'
  have hmem : b ∈ (foot A.toList o' y.1 y.2).wb := by simpa [foot] using hd
  rcases Nat.lt_trichotomy j i with hlt | heq | hgt
  · rw [show decide (j < i) = true by simpa using hlt]
    rcases Y.before j o' y hlt h1' h2 with h | h
    · have := (disj_spec h).2.2.1 b hmem
      exact absurd hb (fun hb => hb.elim this.1 this.2)
    · exact h
  · subst heq
    simp [Y.self]
  · rw [show decide (j < i) = false by simp; omega]
    rcases Y.behind j o' y hgt h1' h2 with h | h
    · rcases hb with hb | hb
      · exact absurd hb ((disj_spec h).2.2.2 b hmem)
      · exact absurd hmem ((disj_spec h).2.2.1 b hb).2
    · exact h
end
end Go.Ev
/- Regions that have guards, or a draw: one operation more; any order. -/
set_option linter.unusedVariables false
set_option linter.unusedSimpArgs false
namespace Go.Ev

def addL (L : Nat → Bool) (i : Nat) : Nat → Bool := fun j => L j || Nat.beq j i

theorem addL_self (L : Nat → Bool) (i : Nat) : addL L i i = true := by simp [addL]
theorem addL_ne (L : Nat → Bool) {i j : Nat} (h : j ≠ i) : addL L i j = L j := by
  unfold addL
  cases hb : Nat.beq j i with
  | true => exact absurd (Nat.eq_of_beq_eq_true hb) h
  | false => simp

section
variable {P : Program} {C : Ctx} {R : Ref} {A : Array Oper} {r : List (St × Eff)} {s0 sE : St} {a0 a : Act} {L : Nat → Bool} {M : Mem}

theorem wnt_put (K : GOK A) (G : Reg C A.toList r s0 sE) {i : Nat} {o : Oper} {x : St × Eff} (hi : A[i]? = some o) (hx : r[i]? = some x) (Y : May A r L i (foot A.toList o x.1 x.2)) (hd : ∀ k, o.dst = some k → k < a.tmps.size) (v : Value)
    {m : Nat} {om : Oper} (hm : A[m]? = some om) (hL : addL L i m = true) : wnt A om (a.put o.dst v) = wnt A om a := by
  cases hg : om.guard with
  | none => rw [wnt_none hg, wnt_none hg]
  | some jw =>
    obtain ⟨j, w⟩ := jw
    obtain ⟨hlt, oj, d, hj, hdj⟩ := K.guard m om j w hm hg
    have hne : o.dst ≠ some d := by
      intro h
      have hji := nodup_unique K.nodup (i := j) (j := i) (by simpa using hj) (by simpa using hi) hdj h
      subst hji
      have hmi : m ≠ j := by omega
      rw [addL_ne L hmi] at hL
      obtain ⟨y, hy⟩ := G.get hm
      rcases Y.behind m om y hlt hm hy with h1 | h1
      · have := ((disj_spec h1).1 d (by simpa [foot] using h)).1
        have hj' : A.toList[j]? = some oj := by simpa using hj
        exact this (by simp [foot, guardSlot, hg, hj', hdj])
      · rw [hL] at h1; cases h1
    have e : (a.put o.dst v).tmps.getD d undef = a.tmps.getD d undef := by rw [put_getD a o.dst v d hd, if_neg hne]
    have h1 := wnt_some (a := a.put o.dst v) hg hj hdj
    have h2 := wnt_some (a := a) hg hj hdj
    rw [e] at h1
    exact Bool.eq_iff_iff.2 (h1.trans h2.symm)

theorem At.put (K : GOK A) (G : Reg C A.toList r s0 sE) (H : At A r s0 R a0 L a M) {i : Nat} {o : Oper} {x : St × Eff} (hi : A[i]? = some o) (hx : r[i]? = some x) (Y : May A r L i (foot A.toList o x.1 x.2)) (hd : ∀ k, o.dst = some k → k < a.tmps.size) {v : Value} {M' : Mem}
    (I : InvM R M') (hb : ∀ b, lk b M'.bs = lk b (applyB x.2.wr M.bs)) (st : Step M M' (killed x.2.wr)) (h1 : wnt A o a = true → RelV M' x.2.av v) (h2 : wnt A o a = false → v = undef) : At A r s0 R a0 (addL L i) (a.put o.dst v) M' := by
  have hwr := (G.fresh i o x (by simpa using hi) hx).1
  refine ⟨I, fun b => ?_, fun m om t hm ht hL hw => ?_, fun t ht => ?_, (put_size _ _ _).trans H.size, (put_defers' _ _ _).trans H.defers, fun t ht => ?_⟩
  · rw [hb, lk_applyB]
    cases hw : wrAt b x.2.wr with
    | none =>
      simp only
      rw [H.box]
      refine ov_congr rfl (fun j u hj hu => ?_)
      simp only [Nat.zero_add]
      refine (addL_ne L ?_).symm
      rintro rfl
      simp only [uBs, List.getElem?_map, hx, Option.map_some, Option.some.injEq] at hj
      subst hj
      exact hu (by simp [uB, hw])
    | some B =>
      simp only
      refine (ov_last i (uB x) (by simp [uBs, hx]) (by simp [uB, hw]) (by rw [Nat.zero_add]; exact addL_self L i) (fun j u hj hju hu => ?_)).symm
      rw [Nat.zero_add, addL_ne L (by omega)]
      simp only [uBs, List.getElem?_map, Option.map_eq_some_iff] at hju
      obtain ⟨y, hy, rfl⟩ := hju
      have hmem := uB_some hu
      have hj' : ∃ o', A[j]? = some o' := by
        have := (List.getElem?_eq_some_iff.1 hy).1
        rw [G.len] at this
        have hh : j < A.size := by simpa using this
        exact ⟨A[j], Array.getElem?_eq_getElem hh⟩
      obtain ⟨o', ho'⟩ := hj'
      rcases Y.behind j o' y hj ho' hy with h | h
      · exact absurd (show b ∈ (foot A.toList o' y.1 y.2).wb by simpa [foot] using hmem) ((disj_spec h).2.2.1 b (by simpa [foot] using wrAt_mem hw)).2
      · exact h
  · rw [wnt_put K G hi hx Y hd v hm hL] at hw
    rw [put_getD a o.dst v t hd]
    by_cases hmi : m = i
    · subst hmi
      have : om = o := Option.some.inj (hm.symm.trans hi)
      subst this
      rw [if_pos ht]
      exact h2 hw
    · rw [if_neg (fun h => hmi (nodup_unique K.nodup (by simpa using hm) (by simpa using hi) ht h))]
      rw [addL_ne L hmi] at hL
      exact H.skipped m om t hm ht hL hw
  · rw [put_getD a o.dst v t hd]
    by_cases hdt : o.dst = some t
    · rw [if_pos hdt, slot_of K (addL L i) hi hx hdt (addL_self L i)]
      refine h1 ?_
      rw [← wnt_put K G hi hx Y hd v hi (addL_self L i)]
      exact ht i o hi hdt (addL_self L i)
    · rw [if_neg hdt]
      have e : ov (addL L i) (uSs A.toList r) 0 s0.look t = ov L (uSs A.toList r) 0 s0.look t := by
        refine ov_congr rfl (fun j u hj hu => ?_)
        simp only [Nat.zero_add]
        refine addL_ne L ?_
        rintro rfl
        obtain ⟨o', y, q1, q2, rfl⟩ := uSs_inv hj
        have : o' = o := Option.some.inj ((show A[j]? = some o' by simpa using q1).symm.trans hi)
        subst this
        exact hdt (uS_some hu)
      rw [e]
      refine (H.slot t (fun m om hm hmt hL => ?_)).step st (fun b hk => ?_)
      · have hmi : m ≠ i := by
          rintro rfl
          have : om = o := Option.some.inj (hm.symm.trans hi)
          subst this
          exact hdt hmt
        have hL' : addL L i m = true := by rw [addL_ne L hmi]; exact hL
        rw [← wnt_put K G hi hx Y hd v hm hL']
        exact ht m om hm hmt hL'
      · have hnone := (fresh_tmps x.2.wr x.1 hwr).2 b hk
        have hmem : b ∈ (foot A.toList o x.1 x.2).wb := by
          obtain ⟨B, hB⟩ := hk
          simp only [foot, List.mem_map]
          exact ⟨_, hB, rfl⟩
        have hMb : lk b M.bs = none := by rw [H.box, read_box G hi hx Y (.inr hmem), hnone]
        cases hh : (ov L (uSs A.toList r) 0 s0.look t).has b with
        | false => rfl
        | true => exact absurd hMb ((H.slot t (fun m om hm hmt hL => by
            have hmi : m ≠ i := by
              rintro rfl
              have : om = o := Option.some.inj (hm.symm.trans hi)
              subst this
              exact hdt hmt
            have hL' : addL L i m = true := by rw [addL_ne L hmi]; exact hL
            rw [← wnt_put K G hi hx Y hd v hm hL']
            exact ht m om hm hmt hL')).has_box b hh)
  · rw [put_getD a o.dst v t hd, if_neg (ht o (by
      have : o ∈ A := Array.mem_of_getElem? hi
      exact Array.mem_toList_iff.2 this))]
    exact H.out t ht

theorem seen_wnt (K : GOK A) {ch : List (Nat × Bool)} (hch : holdsCh a ch) {t : Nat} (hs : seen A.toList A.toList.length ch t = true) {m : Nat} {om : Oper} (hm : A[m]? = some om) (ht : om.dst = some t) : wnt A om a = true := by
  have hpos : 0 < A.toList.length := by
    have := (Array.getElem?_eq_some_iff.1 hm).1
    simp
    omega
  unfold seen at hs
  rw [find_dst K.nodup (by simpa using hm) ht] at hs
  simp only at hs
  obtain ⟨n, hn⟩ : ∃ n, A.toList.length = n + 1 := ⟨A.toList.length - 1, by omega⟩
  refine holds_wnt K (n := n) hm (fun z hz => hch z (subP_iff hs z ?_))
  rw [hn]
  exact hz

theorem eval_of (hT : Tab M.S M.w) {s : St} {y : Operand} (h : ∀ t, y = .tmp t → RelV M (s.look t) (a.tmps.getD t undef)) : RelV M (s.eval y) (a.eval y) := by
  cases y with
  | tmp t => exact h t rfl
  | const v => exact constAV_rel v
  | global g => exact global_rel hT g
  | func f => simp [St.eval, RelV, Act.eval, RelL]

theorem gcond_of {s : St} : ∀ {ch : List (Nat × Bool)}, (∀ z ∈ ch, ∀ b : Bool, s.look z.1 = .val .bool b → b = z.2) → gcond s ch = true
  | [], _ => rfl
  | (d, w) :: l, h => by
    unfold gcond
    split
    · rename_i x hx
      have := h (d, w) (by simp) x hx
      simp only at this
      subst this
      have ih := gcond_of (ch := l) (fun z hz => h z (List.mem_cons_of_mem _ hz))
      simp [ih]
    · exact gcond_of (ch := l) (fun z hz => h z (List.mem_cons_of_mem _ hz))
theorem At.step (TOK : TysOK P C.τ) (GC : CtrsOK P C.Γ) (K : GOK A) (G : Reg C A.toList r s0 sE) (H : At A r s0 R a0 L a M) (Cl : Closed A r L) {i : Nat} {o : Oper} {x : St × Eff} (hi : A[i]? = some o) (hx : r[i]? = some x)
    (Y : May A r L i (foot A.toList o x.1 x.2)) (hd : ∀ k, o.dst = some k → k < a.tmps.size) (hn : ∀ p, gneed x.1 (chain A.toList A.toList.length o) x.2.need = some p → p)
    {next : Act → World → Prop} {Q : Exit → Act → World → Prop} (hnext : ∀ a' M', At A r s0 R a0 (addL L i) a' M' → next a' M'.w) : wpOp P A Q i next a M.w := by
  unfold wpOp
  rw [hi]
  simp only
  have hmemA : o ∈ A.toList := Array.mem_toList_iff.2 (Array.mem_of_getElem? hi)
  cases hw : wnt A o a with
  | false =>
    rw [if_neg (by simpa [wnt] using hw)]
    refine hnext (a.put o.dst undef) M ?_
    have hg : o.guard ≠ none := fun hg => by rw [wnt_none hg] at hw; cases hw
    have hwr : x.2.wr = [] := ((G.fresh i o x (by simpa using hi) hx).2).resolve_left hg
    refine H.put K G hi hx Y hd H.mem (fun b => by rw [hwr]; rfl) (by rw [hwr]; exact (Step.refl M _)) (fun h => by rw [hw] at h; cases h) (fun _ => rfl)
  | true =>
    rw [if_pos (by simpa [wnt] using hw)]
    refine .inl ?_
    have hch := chain_holds K G H Cl A.toList.length i o x hi hx Y.before hw
    have hholds : holdsCh a (chain A.toList A.toList.length o) := fun z hz => (hch z hz).1
    have hslot : ∀ {ch : List (Nat × Bool)} {t : Nat}, holdsCh a ch → t ∈ (foot A.toList o x.1 x.2).rt → seen A.toList A.toList.length ch t = true → RelV M (x.1.look t) (a.tmps.getD t undef) := by
      intro ch t hc ht hs
      rw [← read_slot G hi hx Y ht]
      exact H.slot t (fun m om hm hmt _ => seen_wnt K hc hs hm hmt)
    have hrt : ∀ y ∈ o.op.operands.toList, ∀ t, y = .tmp t → t ∈ (foot A.toList o x.1 x.2).rt := by
      rintro y hy t rfl
      simp only [foot, List.mem_append, tmpsOf, List.mem_flatMap]
      exact .inl ⟨_, hy, by simp [tmpOf]⟩
    have hrel : OpRel M x.1.eval a.eval o := by
      have hs := K.seen o hmemA
      unfold guardOK at hs
      simp only at hs
      split at hs
      · rename_i c u v hop
        simp only [Bool.and_eq_true, List.all_eq_true] at hs
        obtain ⟨hs1, hs2⟩ := hs
        have hops : o.op.operands.toList = [c, u, v] := by rw [hop]; rfl
        unfold OpRel
        rw [hop]
        simp only
        have hc : RelV M (x.1.eval c) (a.eval c) := eval_of (R.tab.keeps H.mem.old) (fun t ht => hslot hholds (hrt c (by rw [hops]; simp) t ht) (hs1 t (by rw [ht]; simp [tmpOf])))
        cases c with
        | tmp s =>
          simp only [Bool.and_eq_true, List.all_eq_true] at hs2
          refine ⟨hc, fun hb => eval_of (R.tab.keeps H.mem.old) (fun t ht => hslot (ch := (s, true) :: chain A.toList A.toList.length o) ?_ (hrt u (by rw [hops]; simp) t ht) (hs2.1 t (by rw [ht]; simp [tmpOf]))),
            fun hb => eval_of (R.tab.keeps H.mem.old) (fun t ht => hslot (ch := (s, false) :: chain A.toList A.toList.length o) ?_ (hrt v (by rw [hops]; simp) t ht) (hs2.2 t (by rw [ht]; simp [tmpOf])))⟩
          · intro z hz
            rcases List.mem_cons.1 hz with rfl | hz
            · exact hb
            · exact hholds z hz
          · intro z hz
            rcases List.mem_cons.1 hz with rfl | hz
            · exact hb
            · exact hholds z hz
        | const _ | global _ | func _ =>
          simp only [Bool.and_eq_true, List.all_eq_true] at hs2
          exact ⟨hc, fun _ => eval_of (R.tab.keeps H.mem.old) (fun t ht => hslot hholds (hrt u (by rw [hops]; simp) t ht) (hs2.1 t (by rw [ht]; simp [tmpOf]))),
            fun _ => eval_of (R.tab.keeps H.mem.old) (fun t ht => hslot hholds (hrt v (by rw [hops]; simp) t ht) (hs2.2 t (by rw [ht]; simp [tmpOf])))⟩
      · rename_i hne
        rw [List.all_eq_true] at hs
        unfold OpRel
        split
        · rename_i c u v hop
          exact absurd hop (hne c u v)
        · intro y hy
          refine eval_of (R.tab.keeps H.mem.old) (fun t ht => hslot hholds (hrt y hy t ht) (hs t ?_))
          simp only [tmpsOf, List.mem_flatMap]
          exact ⟨y, hy, by rw [ht]; simp [tmpOf]⟩
    have hargs : x.1.args o = o.op.operands.toList.map fun y => argOf M.bs (x.1.eval y) := by
      unfold St.args
      refine List.map_congr_left (fun y hy => ?_)
      unfold St.arg argOf
      simp only
      cases hbx : boxOf (x.1.eval y) with
      | none => rfl
      | some b =>
        simp only [St.box]
        rw [H.box, read_box G hi hx Y (.inl ?_)]
        simp only [foot, List.mem_filterMap, St.args, List.mem_map]
        exact ⟨_, ⟨y, hy, rfl⟩, hbx⟩
    have hok : x.2.ok := by
      intro p hp
      have hq := hn
      unfold gneed at hq
      rw [hp] at hq
      simp only at hq
      split at hq
      · exact hq p rfl
      · rename_i z l hcl
        refine hq _ rfl (gcond_of (fun z hz b hzb => ?_))
        obtain ⟨h1, m, om, h2, h3, h4, h5, h6⟩ := hch z hz
        obtain ⟨y, hy⟩ := G.get h3
        have hrv := H.slot z.1 (fun m' om' hm' hmt' _ => by
          have : m' = m := nodup_unique K.nodup (by simpa using hm') (by simpa using h3) hmt' h4
          subst this
          have : om' = om := Option.some.inj (hm'.symm.trans h3)
          subst this
          exact h6)
        rw [slot_of K L h3 hy h4 h5] at hrv
        have hlk := G.look i x z.1 hx
        rw [slot_of K _ h3 hy h4 (by simpa using h2)] at hlk
        rw [hlk] at hzb
        rw [hzb] at hrv
        have := relBool hrv
        rw [h1] at this
        simpa using this.symm
    have heff := G.eff i o x (by simpa using hi) hx
    rw [hargs] at heff
    have hy := opEff_sound TOK GC H.mem (eval_func a) hrel heff hok
    refine hy.wp (fun v w' hv => ?_)
    obtain ⟨S', β', I', st', hrv⟩ := hv
    exact hnext _ ⟨w', S', β', applyB x.2.wr M.bs⟩ (H.put K G hi hx Y hd I' (fun b => rfl) st' (fun _ => hrv) (fun h => by rw [hw] at h; cases h))
end
end Go.Ev
/- Regions that have guards, or a draw: from end to end. -/
set_option linter.unusedVariables false
set_option linter.unusedSimpArgs false
namespace Go.Ev

theorem effsNeed_holds {all : List Oper} {F : St → Prop} : ∀ {l : List Oper} {r : List (St × Eff)} {t : Tree St}, (effsNeed all l r t).holds F →
    (∀ (i : Nat) (o : Oper) (x : St × Eff), l[i]? = some o → r[i]? = some x → ∀ p, gneed x.1 (chain all all.length o) x.2.need = some p → p) ∧ t.holds F
  | [], _, t, h => ⟨fun i o x hi => by simp at hi, h⟩
  | _ :: _, [], t, h => ⟨fun i o x _ hx => by simp at hx, h⟩
  | o :: l, x :: r, t, h => by
    simp only [effsNeed] at h
    obtain ⟨h1, h2⟩ := holds_needO.1 h
    obtain ⟨h3, h4⟩ := effsNeed_holds h2
    refine ⟨fun i o' x' hi hx => ?_, h4⟩
    cases i with
    | zero => simp at hi hx; subst hi; subst hx; exact h1
    | succ i => exact h3 i o' x' (by simpa using hi) (by simpa using hx)

theorem feet_get {all : List Oper} : ∀ {l : List Oper} {r : List (St × Eff)} {i : Nat} {o : Oper} {x : St × Eff}, l[i]? = some o → r[i]? = some x → (feet all l r)[i]? = some (foot all o x.1 x.2)
  | [], _, _, _, _, h, _ => by simp at h
  | _ :: _, [], _, _, _, _, h => by simp at h
  | o :: l, x :: r, 0, _, _, h, k => by simp at h k; subst h; subst k; rfl
  | o :: l, x :: r, i + 1, _, _, h, k => by simp only [feet, List.getElem?_cons_succ] at h k ⊢; exact feet_get h k

def Bound (o : Oper) (j : Nat) : Prop := ∃ e ∈ o.after, e.on = j ∧ Region.binds .any e = true

def Thru (F : List Foot) (o : Oper) (j : Nat) (g : Foot) : Prop := ∃ e ∈ o.after, Region.binds .any e = true ∧ j < e.on ∧ ∃ h, F[e.on]? = some h ∧ disj g h = false

theorem thru_of {F : List Foot} {o : Oper} {j : Nat} {g : Foot} (h : thruOK F o j g = true) : Thru F o j g := by
  simp only [thruOK, List.any_eq_true, Bool.and_eq_true] at h
  obtain ⟨e, he, ⟨h1, h2⟩, h3⟩ := h
  refine ⟨e, Array.mem_toList_iff.1 he, h1, by simpa [Nat.blt_eq] using h2, ?_⟩
  cases hF : F[e.on]? with
  | none => rw [hF] at h3; cases h3
  | some q =>
    rw [hF] at h3
    refine ⟨q, rfl, ?_⟩
    cases hd : disj g q with
    | false => rfl
    | true => simp only [hd] at h3; cases h3

theorem orderOK_spec {F : List Foot} : ∀ {l : List Oper} {fs : List Foot} {before : List (Nat × Foot)} {k : Nat}, orderOK F l fs before k = true → ∀ (i : Nat) (o : Oper) (f : Foot), l[i]? = some o → fs[i]? = some f →
    (∀ x ∈ before, Bound o x.1 ∨ disj x.2 f = true ∨ Thru F o x.1 x.2) ∧ (∀ (j : Nat) (g : Foot), j < i → fs[j]? = some g → Bound o (k + j) ∨ disj g f = true ∨ Thru F o (k + j) g) ∧ (∀ e ∈ o.after, Region.binds .any e = true → e.on < k + i)
  | [], _, _, _, _, i, _, _, hi, _ => by simp at hi
  | _ :: _, [], _, _, _, i, _, _, _, hf => by simp at hf
  | o :: l, f :: fs, before, k, h, i, o', f', hi, hf => by
    simp only [orderOK, Bool.and_eq_true, List.all_eq_true, Bool.or_eq_true, List.any_eq_true, Bool.not_eq_true'] at h
    obtain ⟨⟨h1, h2⟩, h3⟩ := h
    have hb : ∀ {o : Oper} {j : Nat}, (∃ e ∈ o.after.toList, Nat.beq e.on j = true ∧ Region.binds .any e = true) → Bound o j := by
      rintro o j ⟨e, he, h4, h5⟩
      exact ⟨e, Array.mem_toList_iff.1 he, Nat.eq_of_beq_eq_true h4, h5⟩
    cases i with
    | zero =>
      simp at hi hf
      subst hi
      subst hf
      refine ⟨fun x hx => ?_, fun j g hj => by omega, fun e he hbe => ?_⟩
      · rcases h1 x hx with (h4 | h4) | h4
        · exact .inl (hb h4)
        · exact .inr (.inl h4)
        · exact .inr (.inr (thru_of h4))
      rcases h2 e (Array.mem_toList_iff.2 he) with h4 | h4
      · rw [hbe] at h4; cases h4
      · simpa [Nat.blt_eq] using h4
    | succ i =>
      obtain ⟨q1, q2, q3⟩ := orderOK_spec h3 i o' f' (by simpa using hi) (by simpa using hf)
      refine ⟨fun x hx => q1 x (List.mem_cons_of_mem _ hx), fun j g hj hg => ?_, fun e he hbe => by have := q3 e he hbe; omega⟩
      cases j with
      | zero =>
        simp at hg
        subst hg
        exact q1 (k, f) (by simp)
      | succ j =>
        have := q2 j g (by omega) (by simpa using hg)
        rwa [show k + 1 + j = k + (j + 1) by omega] at this

theorem ov_false {b : Nat} {B : Box} {L : Nat → Bool} : ∀ {r : List (St × Eff)} {k : Nat} {f : Nat → Option (Bool × Box)}, ov L (uBs r) k f b = some (false, B) → f b = some (false, B)
  | [], _, _, h => h
  | x :: r, k, f, h => by
    simp only [uBs, List.map_cons, ov] at h
    have := ov_false (r := r) h
    unfold lay uB at this
    cases hw : wrAt b x.2.wr with
    | none =>
      rw [hw] at this
      simp only [Option.map_none] at this
      cases hL : L k <;> rw [hL] at this <;> exact this
    | some B' =>
      rw [hw] at this
      simp only [Option.map_some] at this
      cases hL : L k <;> rw [hL] at this
      · exact this
      · simp at this

theorem lk_filter {α : Type} (l : List Nat) (t : Nat) : ∀ m : List (Nat × α), lk t (m.filter fun x => !(memN x.1 l)) = if memN t l = true then none else lk t m
  | [] => by simp [lk]
  | (j, v) :: m => by
    have ih := lk_filter l t m
    simp only [List.filter_cons]
    cases hj : memN j l with
    | true =>
      simp only [Bool.not_true, Bool.false_eq_true, if_false, ih, lk]
      split
      · rfl
      · rename_i hne
        cases hb : Nat.beq j t with
        | true => rw [Nat.eq_of_beq_eq_true hb] at hj; exact absurd hj hne
        | false => rfl
    | false =>
      simp only [Bool.not_false, if_true, lk, ih]
      cases hb : Nat.beq j t with
      | true => rw [Nat.eq_of_beq_eq_true hb] at hj; simp [hj]
      | false => rfl

theorem look_drop (s : St) (l : List Nat) (t : Nat) : (s.drop l).look t = if memN t l = true then .undef else s.look t := by
  unfold St.drop
  split
  · simp [memN]
  · unfold St.look
    simp only
    rw [lk_filter]
    split <;> rfl

theorem boxes_drop (s : St) (l : List Nat) : (s.drop l).boxes = s.boxes := by
  unfold St.drop
  split <;> rfl

theorem countP_lt {p p' : Nat → Bool} : ∀ {l : List Nat}, (∀ j ∈ l, p' j = true → p j = true) → (∃ i ∈ l, p i = true ∧ p' i = false) → l.countP p' < l.countP p
  | [], _, ⟨i, hi, _⟩ => by simp at hi
  | x :: l, h, ⟨i, hi, h1, h2⟩ => by
    have hle : l.countP p' ≤ l.countP p := List.countP_mono_left (fun j hj => h j (by simp [hj]))
    simp only [List.countP_cons]
    rcases List.mem_cons.1 hi with rfl | hi
    · rw [h1, h2]
      simp
      omega
    · have := countP_lt (fun j hj => h j (by simp [hj])) ⟨i, hi, h1, h2⟩
      have hx : (if p' x = true then 1 else 0) ≤ (if p x = true then 1 else 0) := by
        cases hp : p' x with
        | false => simp
        | true => rw [h x (by simp) hp]; simp
      omega

section
variable {P : Program} {C : Ctx} {R : Ref} {A : Array Oper} {r : List (St × Eff)} {s0 sE : St} {a0 a : Act} {L : Nat → Bool} {M : Mem}

theorem Closed.add (G : Reg C A.toList r s0 sE) (Cl : Closed A r L) {i : Nat} {o : Oper} {x : St × Eff} (hi : A[i]? = some o) (hx : r[i]? = some x) (Y : May A r L i (foot A.toList o x.1 x.2)) : Closed A r (addL L i) := by
  intro m om y hm hy hL j oj z hj hoj hz
  have up : L j = true → addL L i j = true := fun h => by simp [addL, h]
  by_cases hmi : m = i
  · subst hmi
    have : om = o := Option.some.inj (hm.symm.trans hi)
    subst this
    have : y = x := Option.some.inj (hy.symm.trans hx)
    subst this
    exact (Y.before j oj z hj hoj hz).imp id up
  · rw [addL_ne L hmi] at hL
    exact (Cl m om y hm hy hL j oj z hj hoj hz).imp id up

theorem At.start {s : St} {w : World} (K : GOK A) (hL : ∀ j, L j = false) {M : Mem} (hb : M.bs = s.boxes) (I : InvM R M) (hr : ∀ t, RelV M (s.look t) (a.tmps.getD t undef)) : At A r s R a L a M := by
  refine ⟨I, fun b => ?_, fun m o t _ _ h => (by rw [hL] at h; cases h), fun t _ => ?_, rfl, rfl, fun _ _ => rfl⟩
  · rw [ov_none (fun i u _ _ => hL _), hb]
  · rw [ov_none (fun i u _ _ => hL _)]
    exact hr t

theorem At.done (K : GOK A) (G : Reg C A.toList r s0 sE) (H : At A r s0 R a0 L a M) (hL : ∀ j, j < A.size → L j = true) :
    IsSt R (sE.drop (guarded A.toList)) a M.w ∧ Apart (fun t => ∃ o ∈ A.toList, o.dst = some t) s0 a0 (sE.drop (guarded A.toList)) a := by
  have hlen : ∀ {α : Type} {us : List α} {i : Nat} {u : α}, us.length = A.toList.length → us[i]? = some u → L (0 + i) = true := by
    intro α us i u hl hu
    have := (List.getElem?_eq_some_iff.1 hu).1
    rw [hl] at this
    exact hL _ (by simpa using this)
  have lS : (uSs A.toList r).length = A.toList.length := by
    have : ∀ (l : List Oper) (r : List (St × Eff)), r.length = l.length → (uSs l r).length = l.length := by
      intro l
      induction l with
      | nil => intro r _; simp [uSs]
      | cons o l ih =>
        intro r hr
        cases r with
        | nil => simp at hr
        | cons x r => simp [uSs, ih r (by simpa using hr)]
    exact this _ _ G.len
  have lB : (uBs r).length = A.toList.length := by simp [uBs, G.len]
  have hbx : ∀ b, lk b sE.boxes = lk b M.bs := fun b => by
    rw [G.boxE, H.box]
    exact ov_congr rfl (fun i u hu _ => (hlen lB hu).symm)
  have hsl : ∀ t, sE.look t = ov L (uSs A.toList r) 0 s0.look t := fun t => by
    rw [G.lookE]
    exact ov_congr rfl (fun i u hu _ => (hlen lS hu).symm)
  have I2 : InvM R { M with bs := sE.boxes } := H.mem.sub (fun b x hx => by rw [← hbx]; exact hx)
  have st : Step M { M with bs := sE.boxes } (fun _ => False) := ⟨Keeps.refl _ _, fun b d B h _ => ⟨d, B, by rw [← h]; exact hbx b, rfl, Box.le_refl B⟩⟩
  refine ⟨⟨{ M with bs := sE.boxes }, rfl, (boxes_drop _ _).symm, I2, fun t => ?_⟩, H.size, H.defers, fun t ht => H.out t (fun o ho hd => ht ⟨o, ho, hd⟩), fun t ht => ?_, fun b B hB => ?_⟩
  · rw [look_drop]
    split
    · simp [RelV]
    · rename_i hng
      rw [hsl]
      refine (H.slot t (fun m o hm ht _ => ?_)).steps st
      refine wnt_none ?_
      cases hg : o.guard with
      | none => rfl
      | some jw =>
        refine absurd ?_ hng
        rw [memN_iff]
        unfold guarded
        rw [List.mem_filterMap]
        exact ⟨o, List.mem_filter.2 ⟨Array.mem_toList_iff.2 (Array.mem_of_getElem? hm), by simp [hg]⟩, ht⟩
  · rw [look_drop]
    split
    · exact .inl rfl
    · refine .inr ?_
      rw [hsl]
      refine ov_none (fun i u hu hut => ?_)
      obtain ⟨o, x, h1, h2, rfl⟩ := uSs_inv hu
      exact absurd ⟨o, List.mem_of_getElem? h1, uS_some hut⟩ ht
  · rw [boxes_drop, G.boxE] at hB
    exact ov_false hB
theorem text_wp (TOK : TysOK P C.τ) (GC : CtrsOK P C.Γ) (K : GOK A) (G : Reg C A.toList r s0 sE) (hd : ∀ o ∈ A.toList, ∀ k, o.dst = some k → k < a0.tmps.size)
    (hn : ∀ (i : Nat) (o : Oper) (x : St × Eff), A.toList[i]? = some o → r[i]? = some x → ∀ p, gneed x.1 (chain A.toList A.toList.length o) x.2.need = some p → p) {Q : Exit → Act → World → Prop}
    (hQ : ∀ (L : Nat → Bool) a' M', (∀ j, j < A.size → L j = true) → At A r s0 R a0 L a' M' → Q .normal a' M'.w) : ∀ (m k : Nat) (a : Act) (M : Mem), k + m = A.size → At A r s0 R a0 (fun j => decide (j < k)) a M → wpOps P A Q (List.range' k m) a M.w
  | 0, k, a, M, hk, H => by
    simp only [List.range'_zero, wpOps]
    exact hQ _ a M (fun j hj => by simpa using (show j < k by omega)) H
  | m + 1, k, a, M, hk, H => by
    rw [List.range'_succ, wpOps_cons]
    have hlt : k < A.size := by omega
    have hi : A[k]? = some A[k] := Array.getElem?_eq_getElem hlt
    obtain ⟨x, hx⟩ := G.get hi
    have Cl : Closed A r (fun j => decide (j < k)) := by
      intro i o x hi hx hL j oj y hj _ _
      simp only [decide_eq_true_eq] at hL ⊢
      exact .inr (by omega)
    have Y : May A r (fun j => decide (j < k)) k (foot A.toList A[k] x.1 x.2) := ⟨fun j oj y hj _ _ => .inr (by simpa using hj), fun j oj y hj _ _ => .inr (by simp; omega), by simp⟩
    refine H.step TOK GC K G Cl hi hx Y (fun d hdd => by rw [H.size]; exact hd _ (by simp) d hdd) (hn k A[k] x (by simp) hx) (fun a' M' H' => ?_)
    refine text_wp TOK GC K G hd hn hQ m (k + 1) a' M' (by omega) ?_
    have : addL (fun j => decide (j < k)) k = fun j => decide (j < k + 1) := by
      funext j
      unfold addL
      cases hb : Nat.beq j k with
      | true => have := Nat.eq_of_beq_eq_true hb; simp [this]
      | false =>
        have : j ≠ k := fun h => by rw [h] at hb; simp at hb
        simp
        omega
    rw [← this]
    exact H'
theorem any_wp (TOK : TysOK P C.τ) (GC : CtrsOK P C.Γ) (K : GOK A) (G : Reg C A.toList r s0 sE) (hd : ∀ o ∈ A.toList, ∀ k, o.dst = some k → k < a0.tmps.size)
    (hn : ∀ (i : Nat) (o : Oper) (x : St × Eff), A.toList[i]? = some o → r[i]? = some x → ∀ p, gneed x.1 (chain A.toList A.toList.length o) x.2.need = some p → p) (hord : orderOK (feet A.toList A.toList r) A.toList (feet A.toList A.toList r) [] 0 = true) {Q : Exit → Act → World → Prop}
    (hQ : ∀ (L : Nat → Bool) a' M', (∀ j, j < A.size → L j = true) → At A r s0 R a0 L a' M' → Q .normal a' M'.w) : ∀ (fuel : Nat) (listed : Array Bool) (a : Act) (M : Mem), listed.size = A.size →
      At A r s0 R a0 (fun j => listed.getD j false) a M → Closed A r (fun j => listed.getD j false) → (List.range A.size).countP (fun j => !listed.getD j false) ≤ fuel → wpAny P .any A Q fuel listed a M.w := by
  have hall : ∀ (listed : Array Bool), listed.size = A.size → Region.ready .any A listed = [] → ∀ j, j < A.size → listed.getD j false = true := by
    intro listed hs hr j
    induction j using Nat.strongRecOn with
    | _ j ih =>
      intro hj
      cases hl : listed.getD j false with
      | true => rfl
      | false =>
        exfalso
        have hi : A[j]? = some A[j] := Array.getElem?_eq_getElem hj
        obtain ⟨x, hx⟩ := G.get hi
        have : j ∈ Region.ready .any A listed := by
          rw [mem_ready]
          refine ⟨?_, A[j], hi, fun e he hb => ?_⟩
          · simp only [Array.getD_eq_getD_getElem?] at hl ⊢
            have hj' : j < listed.size := by omega
            simpa [hj'] using hl
          · have hi' : A.toList[j]? = some A[j] := by rw [Array.getElem?_toList]; exact hi
            have := ((orderOK_spec hord j A[j] _ hi' (feet_get hi' hx)).2.2) e he hb
            rw [Nat.zero_add] at this
            exact ih e.on this (by omega)
        rw [hr] at this
        cases this
  intro fuel
  induction fuel with
  | zero =>
    intro listed a M hs H Cl hc
    have hz : ∀ j, j < A.size → listed.getD j false = true := by
      intro j hj
      have h0 : (List.range A.size).countP (fun j => !listed.getD j false) = 0 := by omega
      rw [List.countP_eq_zero] at h0
      have := h0 j (List.mem_range.2 hj)
      simpa using this
    refine ⟨?_, hQ _ a M hz H⟩
    cases hr : Region.ready .any A listed with
    | nil => rfl
    | cons i l =>
      have hm : i ∈ Region.ready .any A listed := by rw [hr]; simp
      obtain ⟨h1, o, ho, _⟩ := mem_ready.1 hm
      have hlt := (Array.getElem?_eq_some_iff.1 ho).1
      have := hz i hlt
      have hj' : i < listed.size := by omega
      simp [hj'] at h1 this
      rw [this] at h1
      cases h1
  | succ fuel ih =>
    intro listed a M hs H Cl hc
    refine ⟨fun hr => hQ _ a M (hall listed hs hr) H, fun i hir => ?_⟩
    obtain ⟨h1, o, ho, hedge⟩ := mem_ready.1 hir
    have hlt : i < A.size := (Array.getElem?_eq_some_iff.1 ho).1
    have hlt' : i < listed.size := by omega
    have hself : listed.getD i false = false := by simp [hlt'] at h1 ⊢; exact h1
    obtain ⟨x, hx⟩ := G.get ho
    have Y : May A r (fun j => listed.getD j false) i (foot A.toList o x.1 x.2) := by
      refine ⟨fun j oj y hj hoj hy => ?_, fun j oj y hj hoj hy => ?_, hself⟩
      · have := (orderOK_spec hord i o _ (by simpa using ho) (feet_get (by simpa using ho) hx)).2.1 j _ hj (feet_get (by simpa using hoj) hy)
        rw [Nat.zero_add] at this
        rcases this with ⟨e, he, h2, h3⟩ | h2 | ⟨e, he, h3, h4, q, h5, h6⟩
        · have := hedge e he h3
          rw [h2] at this
          exact .inr this
        · exact .inl h2
        · have hl := hedge e he h3
          have hm : e.on < A.size := by
            by_cases hm : e.on < A.size
            · exact hm
            · rw [Array.getD_eq_getD_getElem?, Array.getElem?_eq_none (by omega)] at hl
              cases hl
          have hom : A[e.on]? = some A[e.on] := Array.getElem?_eq_getElem hm
          obtain ⟨ym, hym⟩ := G.get hom
          rw [feet_get (by rw [Array.getElem?_toList]; exact hom) hym] at h5
          cases h5
          rcases Cl e.on A[e.on] ym hom hym hl j oj y h4 hoj hy with h7 | h7
          · rw [h7] at h6; cases h6
          · exact .inr h7
      · cases hl : listed.getD j false with
        | false => exact .inr rfl
        | true =>
          rcases Cl j oj y hoj hy hl i o x hj ho hx with h2 | h2
          · exact .inl h2
          · exfalso
            simp only at h2
            rw [hself] at h2
            cases h2
    have hadd : (fun j => (listed.setIfInBounds i true).getD j false) = addL (fun j => listed.getD j false) i := by
      funext j
      unfold addL
      cases hb : Nat.beq j i with
      | true =>
        have := Nat.eq_of_beq_eq_true hb
        subst this
        simp [hlt']
      | false =>
        have : i ≠ j := fun h => by rw [h] at hb; simp at hb
        simp [Array.getElem?_setIfInBounds_ne this]
    refine H.step TOK GC K G Cl ho hx Y (fun d hdd => by rw [H.size]; exact hd _ (Array.mem_toList_iff.2 (Array.mem_of_getElem? ho)) d hdd) (hn i o x (by simpa using ho) hx) (fun a' M' H' => ?_)
    refine ih _ a' M' (by simpa using hs) (by rw [hadd]; exact H') (by rw [hadd]; exact Cl.add G ho hx Y) ?_
    have : (List.range A.size).countP (fun j => !(listed.setIfInBounds i true).getD j false) < (List.range A.size).countP (fun j => !listed.getD j false) := by
      refine countP_lt (fun j _ hj => ?_) ⟨i, List.mem_range.2 hlt, by simp [hself], by simp [hlt']⟩
      have hh := congrFun hadd j
      rw [hh] at hj
      unfold addL at hj
      simp only [Bool.not_or, Bool.and_eq_true] at hj
      exact hj.1
    omega

theorem drew_eq (w : World) : ({ w with drawn := w.drawn + 1 } : World) = w.drew := rfl
theorem runDraw_wp (TOK : TysOK P C.τ) (GC : CtrsOK P C.Γ) (hmix : P.follows .mixedOrders = true) {id : Nat} {ops : Array Oper} {draw : Bool} {s : St} {w : World} {F : St → Prop} (hs : IsSt R s a w) (hF : (runDraw C ops.toList draw s).holds F)
    (hd : ∀ o ∈ ops.toList, ∀ k, o.dst = some k → k < a.tmps.size) {Q : Exit → Act → World → Prop}
    (hQ : ∀ s' a' w', F s' → IsSt R s' a' w' → Apart (fun t => ∃ o ∈ ops.toList, o.dst = some t) s a s' a' → Q .normal a' w') : (Code.region id ops draw).wp P Q a w := by
  unfold runDraw at hF
  split at hF
  · exact hF.elim
  rename_i hg
  split at hF
  · exact hF.elim
  rename_i r sE he
  split at hF
  · rename_i hok
    simp only [Bool.and_eq_true, Bool.or_eq_true, Bool.not_eq_true'] at hok
    obtain ⟨hok, hord⟩ := hok
    obtain ⟨hn, hF⟩ := effsNeed_holds hF
    have K := GOK.of hg
    have G := Reg.of he hok
    have fin : ∀ (L : Nat → Bool) a' M', (∀ j, j < ops.size → L j = true) → At ops r s R a L a' M' → Q .normal a' M'.w := fun L a' M' hL H => by
      obtain ⟨h1, h2⟩ := H.done K G hL
      exact hQ _ a' M'.w hF h1 h2
    obtain ⟨M, rfl, hb, I, hr⟩ := hs
    cases draw with
    | false =>
      refine wp_region ?_
      rw [List.range_eq_range']
      exact text_wp TOK GC K G hd hn fin ops.size 0 a M (by omega) (At.start (w := M.w) K (fun j => by simp) hb I hr)
    | true =>
      have hord := hord.resolve_left (by simp)
      refine wp_region_any hmix ?_
      rw [drew_eq]
      obtain ⟨I2, st⟩ := I.grow (Grows.drew M.w)
      have hz : ∀ j, (Array.replicate ops.size false).getD j false = false := by
        intro j
        simp only [Array.getD_eq_getD_getElem?, Array.getElem?_replicate]
        split <;> rfl
      refine any_wp TOK GC K G hd hn hord fin ops.size (Array.replicate ops.size false) a { M with w := M.w.drew } (by simp) (At.start (w := M.w) K hz hb I2 (fun t => (hr t).steps st)) ?_ ?_
      · intro i o x _ _ hL
        simp only at hL
        rw [hz] at hL
        cases hL
      · exact Nat.le_trans List.countP_le_length (by simp)
  · exact hF.elim
end
end Go.Ev
/- Forks. -/
set_option linter.unusedVariables false
set_option linter.unusedSimpArgs false
namespace Go.Ev

theorem lk_marks (f : Nat → Bool → Bool) (b : Nat) : ∀ l : Bxs, lk b (l.map fun (x : Nat × Bool × Box) => (x.1, f x.1 x.2.1, x.2.2)) = (lk b l).map fun y => (f b y.1, y.2)
  | [] => rfl
  | (j, d, B) :: l => by
    have ih := lk_marks f b l
    simp only [List.map_cons, lk]
    cases hb : Nat.beq j b with
    | true => rw [Nat.eq_of_beq_eq_true hb]; rfl
    | false => exact ih

theorem clean_boxes (s : St) (b : Nat) : lk b s.clean.boxes = (lk b s.boxes).map fun y => (false, y.2) := lk_marks (fun _ _ => false) b s.boxes
theorem remark_boxes (s old : St) (b : Nat) : lk b (s.remark old).boxes = (lk b s.boxes).map fun y => (y.1 || (match lk b old.boxes with | some (d', _) => d' | none => true), y.2) :=
  lk_marks (fun b d => d || (match lk b old.boxes with | some (d', _) => d' | none => true)) b s.boxes
def Box.weak (B Z : Box) : Prop :=
  match B, Z with
  | .var g x, .var h y => ∃ e : g = h, e ▸ x = y
  | .row t g a f, .row u h b f' => t = u ∧ (∃ e : g = h, e ▸ a = b) ∧ (f = true → f' = true)
  | .iter y p, .iter z q => y = z ∧ p = q
  | _, _ => False

theorem Box.weak_refl (B : Box) : Box.weak B B := by
  cases B with
  | var g x => exact ⟨rfl, rfl⟩
  | row t g a f => exact ⟨rfl, ⟨rfl, rfl⟩, id⟩
  | iter y p => exact ⟨rfl, rfl⟩

theorem RelB.weak {R : Ref} {w : World} {S : Stab} {v : Value} {B Z : Box} (h : RelB R w S v B) (k : Box.weak B Z) : RelB R w S v Z := by
  cases B with
  | var g x =>
    cases Z with
    | var h' y =>
      obtain ⟨e, k⟩ := k
      subst e
      simp only at k
      subst k
      exact h
    | row _ _ _ _ => exact k.elim
    | iter _ _ => exact k.elim
  | iter y p =>
    cases Z with
    | var _ _ => exact k.elim
    | row _ _ _ _ => exact k.elim
    | iter z q =>
      obtain ⟨rfl, rfl⟩ := k
      exact h
  | row t g a f =>
    cases Z with
    | var _ _ => exact k.elim
    | iter _ _ => exact k.elim
    | row u h' b f' =>
      obtain ⟨e1, ⟨e2, k⟩, k2⟩ := k
      subst e1
      subst e2
      simp only at k
      subst k
      obtain ⟨cs, h1, h2, h3, h4, h5, h6⟩ := h
      exact ⟨cs, h1, h2, h3, h4, h5, fun blk hb => ⟨(h6 blk hb).1, fun o ho => ⟨k2 ((h6 blk hb).2 o ho).1, ((h6 blk hb).2 o ho).2⟩⟩⟩

theorem Box.weak.le {B Z : Box} (k : Box.weak B Z) : Box.le B Z := by
  cases B with
  | var g x =>
    cases Z with
    | var h' y =>
      obtain ⟨e, k⟩ := k
      subst e
      exact ⟨fun g p h => h, fun h => h⟩
    | row _ _ _ _ => exact k.elim
    | iter _ _ => exact k.elim
  | iter y p =>
    cases Z with
    | var _ _ => exact k.elim
    | row _ _ _ _ => exact k.elim
    | iter z q =>
      obtain ⟨rfl, rfl⟩ := k
      exact Box.le_refl _
  | row t g a f =>
    cases Z with
    | var _ _ => exact k.elim
    | iter _ _ => exact k.elim
    | row u h' b f' =>
      obtain ⟨e1, ⟨e2, k⟩, k2⟩ := k
      subst e1
      subst e2
      simp only at k
      subst k
      exact ⟨fun g p h => h, fun h => h⟩
theorem InvM.weak {R : Ref} {M : Mem} (I : InvM R M) {bs : Bxs} (h : ∀ b d Z, lk b bs = some (d, Z) → ∃ d' B, lk b M.bs = some (d', B) ∧ Box.weak B Z) : InvM R { M with bs := bs } :=
  ⟨I.os, I.tape, I.output, I.size, I.frame, I.old, I.here, fun b d Z hb => by
    obtain ⟨d', B, h1, h2⟩ := h b d Z hb
    exact (I.boxes b d' B h1).weak h2, fun b c d Z d' Z' hne hb hc => by
    obtain ⟨d1, B1, h1, _⟩ := h b d Z hb
    obtain ⟨d2, B2, h2, _⟩ := h c d' Z' hc
    exact I.sep b c d1 B1 d2 B2 hne h1 h2⟩

theorem live_has {bs : Bxs} {v : AV} (h : live bs v = true) : ∀ b, lk b bs = none → v.has b = false := by
  intro b hb
  cases v with
  | ptr c g p =>
    simp only [AV.has]
    cases hh : Nat.beq c b with
    | false => rfl
    | true =>
      have := Nat.eq_of_beq_eq_true hh
      subst this
      simp [live, hb] at h
  | tip c =>
    simp only [AV.has]
    cases hh : Nat.beq c b with
    | false => rfl
    | true =>
      have := Nat.eq_of_beq_eq_true hh
      subst this
      simp [live, hb] at h
  | undef => simp [live] at h
  | tup l => simp [live] at h
  | clo f l => simp [live] at h
  | nxt _ _ _ => rfl
  | win c _ =>
    simp only [AV.has]
    cases hh : Nat.beq c b with
    | false => rfl
    | true =>
      have := Nat.eq_of_beq_eq_true hh
      subst this
      simp [live, hb] at h
  | cst _ => rfl
  | val _ _ => rfl
  | ref _ _ => rfl

theorem RelV.weak {M : Mem} {bs : Bxs} (h : ∀ b d Z, lk b bs = some (d, Z) → ∃ d' B, lk b M.bs = some (d', B) ∧ Box.weak B Z) {v : AV} {u : Value} (hr : RelV M v u) (hl : live bs v = true) : RelV { M with bs := bs } v u := by
  have st : Step M { M with bs := bs } (fun b => lk b bs = none) := by
   refine ⟨Keeps.refl _ _, fun b d B hb hK => ?_⟩
   cases hz : lk b bs with
   | none => exact absurd hz hK
   | some y =>
     obtain ⟨d', Z⟩ := y
     obtain ⟨d1, B1, h1, h2⟩ := h b d' Z hz
     rw [h1] at hb
     simp only [Option.some.injEq, Prod.mk.injEq] at hb
     obtain ⟨rfl, rfl⟩ := hb
     exact ⟨d', Z, rfl, rfl, h2.le⟩
  exact hr.step st (live_has hl)

section
variable {R : Ref} {s s' : St} {a a' : Act} {w : World}
theorem IsSt.marks (h : IsSt R s a w) (ht : ∀ t, s'.look t = s.look t) (hb : ∀ b, (lk b s'.boxes).map (·.2) = (lk b s.boxes).map (·.2)) : IsSt R s' a w := by
  obtain ⟨M, hM, e, I, hr⟩ := h
  have hw : ∀ b d Z, lk b s'.boxes = some (d, Z) → ∃ d' B, lk b M.bs = some (d', B) ∧ Box.weak B Z := by
    intro b d Z hz
    have := hb b
    rw [hz] at this
    cases hl : lk b s.boxes with
    | none => rw [hl] at this; simp at this
    | some y =>
      rw [hl] at this
      simp only [Option.map_some, Option.some.injEq] at this
      exact ⟨y.1, y.2, by rw [e, hl], this ▸ Box.weak_refl _⟩
  refine ⟨{ M with bs := s'.boxes }, hM, rfl, I.weak hw, fun t => ?_⟩
  rw [ht]
  have st : Step M { M with bs := s'.boxes } (fun _ => False) := by
    refine ⟨Keeps.refl _ _, fun b d B hB _ => ?_⟩
    have := hb b
    rw [e] at hB
    rw [hB] at this
    cases hl : lk b s'.boxes with
    | none => rw [hl] at this; simp at this
    | some y =>
      rw [hl] at this
      simp only [Option.map_some, Option.some.injEq] at this
      exact ⟨y.1, y.2, rfl, rfl, this ▸ Box.le_refl _⟩
  exact (hr t).steps st

theorem IsSt.clean (h : IsSt R s a w) : IsSt R s.clean a w := h.marks (fun _ => rfl) (fun b => by rw [clean_boxes]; cases lk b s.boxes <;> rfl)
theorem IsSt.remark (h : IsSt R s a w) (old : St) : IsSt R (s.remark old) a w := h.marks (fun _ => rfl) (fun b => by rw [remark_boxes]; cases lk b s.boxes <;> rfl)

theorem Apart.remark {W : Nat → Prop} (h : Apart W s.clean a s' a') : Apart W s a (s'.remark s) a' := by
  refine ⟨h.size, h.defers, h.tmps, h.look, fun b B hb => ?_⟩
  rw [remark_boxes] at hb
  cases hl : lk b s'.boxes with
  | none => rw [hl] at hb; simp at hb
  | some y =>
    rw [hl] at hb
    simp only [Option.map_some, Option.some.injEq, Prod.mk.injEq, Bool.or_eq_false_iff] at hb
    obtain ⟨⟨h1, h2⟩, h3⟩ := hb
    have := h.boxes b B (by rw [hl]; obtain ⟨y1, y2⟩ := y; simp only at h1 h3; rw [h1, h3])
    rw [clean_boxes] at this
    cases hs : lk b s.boxes with
    | none => rw [hs] at this; simp at this
    | some z =>
      rw [hs] at this h2
      obtain ⟨z1, z2⟩ := z
      simp only [Option.map_some, Option.some.injEq, Prod.mk.injEq, true_and] at this h2
      rw [h2, this]

theorem mergeBox_weak {x : Bool} {A B Z : Box} (h : mergeBox x A B = some Z) : Box.weak (if x then A else B) Z := by
  cases A with
  | iter _ _ => cases B <;> simp [mergeBox] at h
  | var g p =>
    cases B with
    | row _ _ _ _ => simp [mergeBox] at h
    | iter _ _ => simp [mergeBox] at h
    | var g' q =>
      simp only [mergeBox] at h
      split at h
      · rename_i e _
        subst e
        simp only [Option.some.injEq] at h
        subst h
        cases x <;> exact ⟨rfl, rfl⟩
      · cases h
  | row t g p f =>
    cases B with
    | var _ _ => simp [mergeBox] at h
    | iter _ _ => simp [mergeBox] at h
    | row u g' q f' =>
      simp only [mergeBox] at h
      split at h
      · rename_i e1 e2 c1 c2
        clear c1 c2
        subst e1
        subst e2
        simp only [Option.some.injEq] at h
        subst h
        cases x
        · exact ⟨rfl, ⟨rfl, rfl⟩, fun hf => by simp [hf]⟩
        · exact ⟨rfl, ⟨rfl, rfl⟩, fun hf => by simp [hf]⟩
      · cases h

theorem mergeBoxes_spec {x : Bool} {sb m : Bxs} {b : Nat} : ∀ {l r : Bxs}, mergeBoxes x sb m l = some r → ∀ {d Z}, lk b r = some (d, Z) →
    ∃ da Ba db Bb, lk b l = some (da, Ba) ∧ lk b m = some (db, Bb) ∧ ((d = false ∧ da = false ∧ db = false ∧ ∃ d0, lk b sb = some (d0, Z)) ∨ (d = true ∧ mergeBox x Ba Bb = some Z))
  | [], r, h, d, Z, hz => by
    simp only [mergeBoxes, Option.some.injEq] at h
    subst h
    simp [lk] at hz
  | (c, da, Ba) :: l, r, h, d, Z, hz => by
    simp only [mergeBoxes] at h
    cases hm : lk c m with
    | none =>
      rw [hm] at h
      simp only at h
      obtain ⟨da', Ba', db, Bb, h1, h2, h3⟩ := mergeBoxes_spec h hz
      have hne : Nat.beq c b = false := by
        cases hb : Nat.beq c b with
        | false => rfl
        | true => rw [Nat.eq_of_beq_eq_true hb] at hm; rw [hm] at h2; cases h2
      exact ⟨da', Ba', db, Bb, by simp only [lk, hne]; exact h1, h2, h3⟩
    | some y =>
      obtain ⟨db, Bb⟩ := y
      rw [hm] at h
      simp only at h
      cases hd : (da || db) with
      | false =>
        rw [hd] at h
        simp only [Bool.or_eq_false_iff] at hd
        simp only at h
        split at h
        · rename_i d0 Z0 r' hs hr
          simp only [Option.some.injEq] at h
          subst h
          simp only [lk] at hz
          cases hb : Nat.beq c b with
          | true =>
            rw [hb] at hz
            have := Nat.eq_of_beq_eq_true hb
            subst this
            simp only [Option.some.injEq, Prod.mk.injEq] at hz
            obtain ⟨rfl, rfl⟩ := hz
            exact ⟨da, Ba, db, Bb, by simp [lk], hm, .inl ⟨rfl, hd.1, hd.2, d0, hs⟩⟩
          | false =>
            rw [hb] at hz
            obtain ⟨da', Ba', db', Bb', h1, h2, h3⟩ := mergeBoxes_spec hr hz
            exact ⟨da', Ba', db', Bb', by simp only [lk, hb]; exact h1, h2, h3⟩
        · cases h
      | true =>
        rw [hd] at h
        simp only at h
        split at h
        · rename_i Z0 r' hs hr
          simp only [Option.some.injEq] at h
          subst h
          simp only [lk] at hz
          cases hb : Nat.beq c b with
          | true =>
            rw [hb] at hz
            have := Nat.eq_of_beq_eq_true hb
            subst this
            simp only [Option.some.injEq, Prod.mk.injEq] at hz
            obtain ⟨rfl, rfl⟩ := hz
            exact ⟨da, Ba, db, Bb, by simp [lk], hm, .inr ⟨rfl, hs⟩⟩
          | false =>
            rw [hb] at hz
            obtain ⟨da', Ba', db', Bb', h1, h2, h3⟩ := mergeBoxes_spec hr hz
            exact ⟨da', Ba', db', Bb', by simp only [lk, hb]; exact h1, h2, h3⟩
        · cases h

theorem lk_append {α : Type} (t : Nat) : ∀ l m : List (Nat × α), lk t (l ++ m) = match lk t l with | some v => some v | none => lk t m
  | [], m => rfl
  | (j, v) :: l, m => by
    simp only [List.cons_append, lk]
    cases Nat.beq j t with
    | true => rfl
    | false => exact lk_append t l m

theorem lk_newTmps {x : Bool} {bs : Bxs} {sa sb : St} {t : Nat} : ∀ W : List Nat, lk t (newTmps x bs sa sb W) = if memN t W = true then some (match live bs (mergeAV x (sa.look t) (sb.look t)) with | true => mergeAV x (sa.look t) (sb.look t) | false => .undef) else none
  | [] => by simp [newTmps, memN, lk]
  | j :: W => by
    simp only [newTmps, lk, memN]
    cases hb : Nat.beq j t with
    | true =>
      have := Nat.eq_of_beq_eq_true hb
      subst this
      cases hl : live bs (mergeAV x (sa.look j) (sb.look j)) <;> simp [hl]
    | false =>
      have hb' : Nat.beq t j = false := by
        cases hh : Nat.beq t j with
        | false => rfl
        | true => rw [Nat.eq_of_beq_eq_true hh] at hb; simp at hb
      simp only [lk_newTmps W, hb', Bool.false_or]

theorem lk_mergeTmps {bs : Bxs} {W : List Nat} {sa sb : St} {t : Nat} : ∀ l : List (Nat × AV), lk t (mergeTmps bs W sa sb l) = (lk t l).map fun v => match memN t W || isUndef (sa.look t) || isUndef (sb.look t) || !(live bs v) with | true => AV.undef | false => v
  | [] => rfl
  | (j, v) :: l => by
    simp only [mergeTmps, lk]
    cases hb : Nat.beq j t with
    | true =>
      have := Nat.eq_of_beq_eq_true hb
      subst this
      rfl
    | false => exact lk_mergeTmps l

theorem mergeAV_rel {M : Mem} {x : Bool} {va vb : AV} {u : Value} (h : RelV M (if x then va else vb) u) : RelV M (mergeAV x va vb) u := by
  unfold mergeAV
  split
  · split
    · rename_i e _
      subst e
      cases x <;> exact h
    · simp [RelV]
  · split
    · rename_i hb
      have := Nat.eq_of_beq_eq_true hb
      subst this
      cases x <;> exact h
    · simp [RelV]
  · split
    · rename_i e hb _
      have := Nat.eq_of_beq_eq_true hb
      subst this
      subst e
      cases x <;> exact h
    · simp [RelV]
  · split
    · rename_i g a w b hb
      cases x with
      | true => exact h
      | false => exact asVal_sound h hb
    · simp [RelV]
  · split
    · rename_i w g b a hb
      cases x with
      | true => exact asVal_sound h hb
      | false => exact h
    · simp [RelV]
  · simp [RelV]

theorem isUndef_false {v : AV} (h : isUndef v = false) : v ≠ .undef := by
  rintro rfl
  simp [isUndef] at h
theorem merge_sound {x : Bool} {W : List Nat} {sa sb m : St} (hm : mergeSt x W s sa sb = some m) (hs : IsSt R (if x then sa else sb) a' w) (ha : Apart (fun t => t ∈ W) s a (if x then sa else sb) a') :
    IsSt R m a' w ∧ Apart (fun t => t ∈ W) s a m a' := by
  unfold mergeSt at hm
  split at hm
  · cases hm
  rename_i bs hbs
  simp only [Option.some.injEq] at hm
  subst hm
  obtain ⟨M, hM, e, I, hr⟩ := hs
  have key : ∀ b d Z, lk b bs = some (d, Z) → ∃ d' B, lk b (if x then sa else sb).boxes = some (d', B) ∧ Box.weak B Z ∧ (d = false → d' = false ∧ B = Z) := by
    intro b d Z hz
    obtain ⟨da, Ba, db, Bb, h1, h2, h3⟩ := mergeBoxes_spec hbs hz
    have hx : lk b (if x then sa else sb).boxes = some (if x then da else db, if x then Ba else Bb) := by cases x <;> simpa using by assumption
    rcases h3 with ⟨rfl, rfl, rfl, d0, h3⟩ | ⟨rfl, h3⟩
    · have hx' : lk b (if x then sa else sb).boxes = some (false, if x then Ba else Bb) := by rw [hx]; cases x <;> rfl
      have := ha.boxes b _ hx'
      rw [h3] at this
      simp only [Option.some.injEq, Prod.mk.injEq] at this
      refine ⟨_, _, hx', ?_, fun _ => ⟨rfl, this.2.symm⟩⟩
      rw [← this.2]
      exact Box.weak_refl _
    · exact ⟨_, _, hx, mergeBox_weak h3, fun h => by cases h⟩
  have hw : ∀ b d Z, lk b bs = some (d, Z) → ∃ d' B, lk b M.bs = some (d', B) ∧ Box.weak B Z := by
    intro b d Z hz
    obtain ⟨d', B, h1, h2, _⟩ := key b d Z hz
    exact ⟨d', B, by rw [e]; exact h1, h2⟩
  have hlook : ∀ t, St.look { tmps := newTmps x bs sa sb W ++ mergeTmps bs W sa sb s.tmps, boxes := bs } t =
      if memN t W = true then (match live bs (mergeAV x (sa.look t) (sb.look t)) with | true => mergeAV x (sa.look t) (sb.look t) | false => .undef)
      else match memN t W || isUndef (sa.look t) || isUndef (sb.look t) || !(live bs (s.look t)) with | true => AV.undef | false => s.look t := by
    intro t
    unfold St.look
    simp only
    rw [lk_append, lk_newTmps]
    split
    · rename_i v hv
      split at hv
      · simp only [Option.some.injEq] at hv
        rename_i hw
        rw [if_pos hw, ← hv]
        rfl
      · cases hv
    · rename_i hv
      split at hv
      · cases hv
      · rename_i hw
        rw [if_neg hw, lk_mergeTmps]
        cases lk t s.tmps with
        | none =>
          simp only [Option.map_none, Option.getD_none]
          split <;> rfl
        | some v => rfl
  refine ⟨⟨{ M with bs := bs }, hM, rfl, I.weak hw, fun t => ?_⟩, ha.size, ha.defers, ha.tmps, fun t ht => ?_, fun b B hb => ?_⟩
  · rw [hlook]
    split
    · split
      · rename_i hl
        refine RelV.weak hw (mergeAV_rel ?_) hl
        have := hr t
        cases x <;> exact this
      · simp [RelV]
    · rename_i hW
      split
      · simp [RelV]
      · rename_i hc
        simp only [Bool.or_eq_false_iff, Bool.not_eq_false'] at hc
        obtain ⟨⟨⟨_, h1⟩, h2⟩, h3⟩ := hc
        refine RelV.weak hw ?_ h3
        have hne : (if x then sa else sb).look t ≠ .undef := by
          cases x with
          | true => exact isUndef_false h1
          | false => exact isUndef_false h2
        rcases ha.look t (fun hm => hW (memN_iff.2 hm)) with h | h
        · exact absurd h hne
        · rw [← h]; exact hr t
  · rw [hlook, if_neg (fun hm => ht (memN_iff.1 hm))]
    split
    · exact .inl rfl
    · exact .inr rfl
  · obtain ⟨d', B', h1, h2, h3⟩ := key b false B hb
    obtain ⟨rfl, rfl⟩ := h3 rfl
    exact ha.boxes b _ h1
end

theorem single_holds {α : Type} : ∀ {t : Tree α} {ps : List Prop} {a : α}, t.single = some (ps, a) → (∀ p ∈ ps, p) → t.holds (fun y => y = a)
  | .leaf b, ps, a, h, _ => by
    simp only [Tree.single, Option.some.injEq, Prod.mk.injEq] at h
    exact h.2
  | .need p t, ps, a, h, hp => by
    simp only [Tree.single] at h
    split at h
    · rename_i qs b hq
      simp only [Option.some.injEq, Prod.mk.injEq] at h
      obtain ⟨rfl, rfl⟩ := h
      exact ⟨hp p (by simp), single_holds hq (fun q hq => hp q (by simp [hq]))⟩
    · cases h
  | .br _ _ _, _, _, h, _ => by simp [Tree.single] at h
  | .stuck, _, _, h, _ => by simp [Tree.single] at h

theorem needs_holds {α : Type} {F : α → Prop} {c : Bool} : ∀ {ps : List Prop} {t : Tree α}, (Tree.needs c ps t).holds F → (c = true → ∀ p ∈ ps, p) ∧ t.holds F
  | [], t, h => ⟨fun _ p hp => by simp at hp, h⟩
  | p :: ps, t, h => by
    obtain ⟨h1, h2⟩ := h
    obtain ⟨h3, h4⟩ := needs_holds h2
    refine ⟨fun hc q hq => ?_, h4⟩
    rcases List.mem_cons.1 hq with rfl | hq
    · exact h1 hc
    · exact h3 hc q hq

theorem mem_dedup {t : Nat} : ∀ {l : List Nat}, t ∈ dedupN l ↔ t ∈ l
  | [] => by simp [dedupN]
  | x :: l => by
    simp only [dedupN]
    cases hx : memN x l with
    | true =>
      simp only [mem_dedup (l := l), List.mem_cons]
      exact ⟨.inr, fun h => h.elim (fun e => e ▸ memN_iff.1 hx) id⟩
    | false =>
      simp only [List.mem_cons, mem_dedup (l := l)]
end Go.Ev
/- Loops. -/
set_option linter.unusedVariables false
set_option linter.unusedSimpArgs false
namespace Go.Ev
structure Far (W : Nat → Prop) (s : St) (a : Act) (s' : St) (a' : Act) : Prop where
  size : a'.tmps.size = a.tmps.size
  defers : a'.defers = a.defers
  tmps : ∀ t, ¬ W t → a'.tmps.getD t undef = a.tmps.getD t undef
  look : ∀ t, ¬ W t → s'.look t = .undef ∨ s'.look t = s.look t

theorem Far.refl (W : Nat → Prop) (s : St) (a : Act) : Far W s a s a := ⟨rfl, rfl, fun _ _ => rfl, fun _ _ => .inr rfl⟩
theorem Far.trans {W : Nat → Prop} {s s' s'' : St} {a a' a'' : Act} (h : Far W s a s' a') (k : Far W s' a' s'' a'') : Far W s a s'' a'' :=
  ⟨k.size.trans h.size, k.defers.trans h.defers, fun t ht => (k.tmps t ht).trans (h.tmps t ht), fun t ht => by
    rcases k.look t ht with h1 | h1
    · exact .inl h1
    · rcases h.look t ht with h2 | h2
      · exact .inl (h1.trans h2)
      · exact .inr (h1.trans h2)⟩
theorem Apart.far {W : Nat → Prop} {s s' : St} {a a' : Act} (h : Apart W s a s' a') : Far W s a s' a' := ⟨h.size, h.defers, h.tmps, h.look⟩

def Ex.to : Ex → Exit
  | .normal => .normal
  | .exit id => .exit id
  | .ret => .ret
  | .die v => .panic [{ v := v, recovered := false }]

theorem keepB_spec {b : Nat} : ∀ {l : List Nat} {s r : Bxs}, keepB l s = some r → (∀ {d B}, lk b r = some (d, B) → d = false ∧ b ∈ l ∧ ∃ d', lk b s = some (d', B)) ∧ (b ∈ l → ∃ d B, lk b r = some (d, B))
  | [], s, r, h => by
    simp only [keepB, Option.some.injEq] at h
    subst h
    exact ⟨fun h => by simp [lk] at h, fun h => by simp at h⟩
  | c :: l, s, r, h => by
    simp only [keepB] at h
    split at h
    · rename_i d0 B0 r' hs hr
      simp only [Option.some.injEq] at h
      subst h
      obtain ⟨ih1, ih2⟩ := keepB_spec (b := b) hr
      simp only [lk]
      cases hb : Nat.beq c b with
      | true =>
        have := Nat.eq_of_beq_eq_true hb
        subst this
        refine ⟨fun h => ?_, fun _ => ⟨_, _, rfl⟩⟩
        simp only [Option.some.injEq, Prod.mk.injEq] at h
        obtain ⟨rfl, rfl⟩ := h
        exact ⟨rfl, by simp, d0, hs⟩
      | false =>
        have hne : b ≠ c := fun h => by rw [h] at hb; simp at hb
        refine ⟨fun h => ?_, fun h => ih2 (by simpa [hne] using h)⟩
        obtain ⟨h1, h2, h3⟩ := ih1 h
        exact ⟨h1, by simp [h2], h3⟩
    · cases h

theorem lk_keepT (s : St) (t : Nat) : ∀ l : List Nat, lk t (keepT l s) = if memN t l = true then some (s.look t) else none
  | [] => by simp [keepT, memN, lk]
  | j :: l => by
    have ih := lk_keepT s t l
    simp only [keepT, List.map_cons, lk, memN] at ih ⊢
    cases hb : Nat.beq j t with
    | true =>
      have := Nat.eq_of_beq_eq_true hb
      subst this
      simp
    | false =>
      have hb' : Nat.beq t j = false := by
        cases hh : Nat.beq t j with
        | false => rfl
        | true => rw [Nat.eq_of_beq_eq_true hh] at hb; simp at hb
      simp only [hb', Bool.false_or]
      exact ih

section
variable {P : Program} {C : Ctx} {R : Ref} {s s' : St} {a a' : Act} {w : World} {L : LoopSpec}

structure Restr (L : LoopSpec) (s s' : St) : Prop where
  box : ∀ b d B, lk b s'.boxes = some (d, B) → d = false ∧ b ∈ L.boxes ∧ ∃ d', lk b s.boxes = some (d', B)
  has : ∀ b, b ∈ L.boxes → ∃ d B, lk b s'.boxes = some (d, B)
  look : ∀ t, s'.look t = if memN t L.keep = true then s.look t else .undef
  tmp : ∀ t, lk t s'.tmps = if memN t L.keep = true then some (s.look t) else none
  live : ∀ t, memN t L.keep = true → s.look t = .undef ∨ Ev.live s'.boxes (s.look t) = true

theorem restrict_spec (h : restrict L s = some s') : Restr L s s' := by
  unfold restrict at h
  split at h
  · cases h
  rename_i bs hb
  split at h
  · rename_i hl
    simp only [Option.some.injEq] at h
    subst h
    refine ⟨fun b d B hB => (keepB_spec hb).1 hB, fun b hB => (keepB_spec hb).2 hB, fun t => ?_, fun t => lk_keepT s t _, fun t ht => ?_⟩
    · show (lk t (keepT L.keep s)).getD .undef = _
      rw [lk_keepT]
      split <;> rfl
    · rw [List.all_eq_true] at hl
      have : (t, s.look t) ∈ keepT L.keep s := by
        unfold keepT
        exact List.mem_map.2 ⟨t, memN_iff.1 ht, rfl⟩
      have := hl _ this
      simp only [Bool.or_eq_true] at this
      rcases this with h | h
      · left
        cases hv : s.look t <;> rw [hv] at h <;> simp [isUndef] at h ⊢
      · exact .inr h
  · cases h

theorem Restr.weak {M : Mem} (H : Restr L s s') (hb : M.bs = s.boxes) : ∀ b d Z, lk b s'.boxes = some (d, Z) → ∃ d' B, lk b M.bs = some (d', B) ∧ Box.weak B Z := by
  intro b d Z hz
  obtain ⟨_, _, d', h⟩ := H.box b d Z hz
  exact ⟨d', Z, by rw [hb]; exact h, Box.weak_refl Z⟩

theorem Restr.rel {M : Mem} (H : Restr L s s') (hb : M.bs = s.boxes) (hr : ∀ t, RelV M (s.look t) (a.tmps.getD t undef)) (t : Nat) : RelV { M with bs := s'.boxes } (s'.look t) (a.tmps.getD t undef) := by
  rw [H.look]
  split
  · rename_i ht
    rcases H.live t ht with h | h
    · rw [h]; simp [RelV]
    · exact (hr t).weak (H.weak hb) h
  · simp [RelV]

theorem IsSt.restr (H : Restr L s s') (h : IsSt R s a w) : IsSt R s' a w := by
  obtain ⟨M, hM, hb, I, hr⟩ := h
  exact ⟨{ M with bs := s'.boxes }, hM, rfl, I.weak (H.weak hb), H.rel hb hr⟩

theorem Restr.far (H : Restr L s s') (W : Nat → Prop) : Far W s a s' a := ⟨rfl, rfl, fun _ _ => rfl, fun t _ => by
  rw [H.look]
  split
  · exact .inr rfl
  · exact .inl rfl⟩

def BodyOK (P : Program) (C : Ctx) (body : Code) : Prop :=
  ∀ (R : Ref) (s : St) (a : Act) (w : World) (F : Ex × St → Prop), IsSt R s a w → (∀ t ∈ writes body, t < a.tmps.size) → (ev C body s).holds F →
    body.wp P (fun e a' w' => ∃ x s', e = x.to ∧ F (x, s') ∧ IsSt R s' a' w' ∧ Apart (fun t => t ∈ writes body) s a s' a') a w
theorem loop_rounds {body : Code} (hB : BodyOK P C body) {F : Ex × St → Prop} {Q : Exit → Act → World → Prop} {s1 : St} {a1 : Act}
    (hQ : ∀ x sx s' a' w', x ≠ .normal → F (x, s') → IsSt R s' a' w' → Restr L sx s' → Far (fun t => t ∈ writes body) s1 a1 s' a' → Q x.to a' w') :
    ∀ (n : Nat) (s : St) (a : Act) (w : World), IsSt R s a w → (∀ t ∈ writes body, t < a.tmps.size) → Far (fun t => t ∈ writes body) s1 a1 s a → (iter L (ev C body) n s).holds F →
      ∀ (b : Frame) (k : List Item) (cs : List Frame), ∃ e a' w', Q e a' w' ∧ Arrives P (lone (b.at a (.code body :: .inLoop body :: k)) cs w) b k cs e a' w'
  | 0, s, a, w, _, _, _, h => h.elim
  | n + 1, s, a, w, hs, hsz, hf, h => by
    intro b k cs
    simp only [iter] at h
    have h' := holds_bind.1 h
    obtain ⟨e, a2, w2, ⟨x, s2, rfl, hF, hs2, hap⟩, harr⟩ := hB R s a w _ hs hsz h' b (.inLoop body :: k) cs
    simp only at hF
    split at hF
    · exact hF.elim
    rename_i s3 hr
    have H := restrict_spec hr
    have hs3 := hs2.restr H
    have hf3 : Far (fun t => t ∈ writes body) s1 a1 s3 a2 := (hf.trans hap.far).trans (H.far _)
    cases x with
    | normal =>
      obtain ⟨e, a', w', hq, harr'⟩ := loop_rounds hB hQ n s3 a2 w2 hs3 (fun t ht => by rw [hap.size]; exact hsz t ht) hf3 hF b k cs
      exact ⟨e, a', w', hq, .of_steps (Steps.trans harr (.one step_inLoop)) harr'⟩
    | exit id => exact ⟨_, a2, w2, hQ (.exit id) s2 s3 a2 w2 (by simp) hF hs3 H hf3, .pass (x := .inLoop body) rfl (fun _ _ => .inl (by simp [Ex.to])) harr⟩
    | ret => exact ⟨_, a2, w2, hQ .ret s2 s3 a2 w2 (by simp) hF hs3 H hf3, .pass (x := .inLoop body) rfl (fun _ _ => .inl (by simp [Ex.to])) harr⟩
    | die v => exact ⟨_, a2, w2, hQ (.die v) s2 s3 a2 w2 (by simp) hF hs3 H hf3, .pass (x := .inLoop body) rfl (fun _ _ => .inl (by simp [Ex.to])) harr⟩

theorem loop_wp {body : Code} (hB : BodyOK P C body) {F : Ex × St → Prop} {Q : Exit → Act → World → Prop} (hs : IsSt R s a w) (hsz : ∀ t ∈ writes body, t < a.tmps.size) {n : Nat} (h : (iter L (ev C body) n s).holds F)
    (hQ : ∀ x sx s' a' w', x ≠ .normal → F (x, s') → IsSt R s' a' w' → Restr L sx s' → Far (fun t => t ∈ writes body) s a s' a' → Q x.to a' w') : (Code.loop body).wp P Q a w := by
  intro b k cs
  obtain ⟨e, a', w', hq, harr⟩ := loop_rounds hB hQ n s a w hs hsz (Far.refl _ _ _) h b k cs
  exact ⟨e, a', w', hq, .of_steps (.one step_loop) harr⟩
theorem promote_sound : ∀ {l : List (Nat × Nat × Nat × GTy)} {s s0 : St}, promote s l = some s0 → IsSt R s a w → IsSt R s0 a w ∧ (∀ t, (∀ p ∈ l, p.1 ≠ t) → s0.look t = s.look t) ∧ (∀ b B, lk b s0.boxes = some (false, B) → lk b s.boxes = some (false, B))
  | [], s, s0, h, hs => by
    simp only [promote, Option.some.injEq] at h
    subst h
    exact ⟨hs, fun _ _ => rfl, fun _ _ h => h⟩
  | (t, k, e, g) :: l, s, s0, h, hs => by
    simp only [promote] at h
    split at h
    · rename_i _ _ _ hv
      have step : IsSt R { tmps := st' t (.val (.sl g) ([] : List (den g))) s.tmps, boxes := s.boxes } a w := by
        obtain ⟨M, hw, hb, I, hr⟩ := hs
        refine ⟨M, hw, hb, I, fun u => ?_⟩
        show RelV _ ((lk u (st' t (.val (.sl g) ([] : List (den g))) s.tmps)).getD .undef) _
        rw [lk_st]
        by_cases hu : u = t
        · rw [if_pos hu]
          have := hr u
          rw [hu, hv] at this
          simp only [RelV] at this
          simp only [Option.getD_some, RelV]
          rw [hu, this]
          exact ⟨[.slice none 0 0], ⟨none, 0, rfl, Nat.le_refl _, by simp, Nat.zero_le _, .inl rfl⟩, rfl⟩
        · rw [if_neg hu]
          exact hr u
      obtain ⟨h1, h2, h3⟩ := promote_sound h step
      refine ⟨h1, fun u hu => ?_, fun b B hB => h3 b B hB⟩
      rw [h2 u (fun p hp => hu p (by simp [hp]))]
      show (lk u (st' t (.val (.sl g) ([] : List (den g))) s.tmps)).getD .undef = _
      rw [lk_st, if_neg (fun h => hu (t, k, e, g) (by simp) h.symm)]
      rfl
    · obtain ⟨h1, h2, h3⟩ := promote_sound h hs
      exact ⟨h1, fun u hu => h2 u (fun p hp => hu p (by simp [hp])), h3⟩
    · rename_i _ _ _ hv
      split at h
      · rename_i hk hg
        have hk' : lk k s.boxes = none := by simpa [St.box] using hk
        have hg' : 0 < ncell g := by simpa [Nat.blt_eq] using hg
        have step : IsSt R { tmps := st' t (.tip k) s.tmps, boxes := st' k (true, .row e g [] false) s.boxes } a w := by
          obtain ⟨M, rfl, hb, I, hr⟩ := hs
          have hB : RelB R M.w M.S (.slice none 0 0) (.row e g [] false) :=
            ⟨[], World.ownsRow_nil _ _ _ _, rfl, by simp [maxRow], by simp [maxRow], hg', fun blk hbk => by simp [blkOf] at hbk⟩
          have I2 := I.setBox (w' := M.w) (S' := M.S) k (.row e g [] false) true rfl rfl rfl (Nat.le_refl _) (fun _ _ _ => rfl) (Keeps.refl _ _) (fun _ _ h => .inl h) hB (fun x hx => by simp [blkOf] at hx)
          have st : Step M { M with β := fun c => if c = k then .slice none 0 0 else M.β c, bs := st' k (true, .row e g [] false) M.bs } (fun c => c = k) :=
            ⟨Keeps.refl _ _, fun c d B hc hne => ⟨d, B, by simp only [lk_st]; simp [hne, hc], by simp [hne], Box.le_refl B⟩⟩
          refine ⟨{ M with β := fun c => if c = k then .slice none 0 0 else M.β c, bs := st' k (true, .row e g [] false) M.bs }, rfl, by rw [← hb], I2, fun u => ?_⟩
          show RelV _ ((lk u (st' t (.tip k) s.tmps)).getD .undef) _
          rw [lk_st]
          by_cases hu : u = t
          · rw [if_pos hu]
            have := hr u
            rw [hu, hv] at this
            simp only [RelV] at this
            simp only [Option.getD_some, RelV]
            rw [hu, this]
            exact ⟨⟨true, _, lk_st_same _ _ _, trivial⟩, by simp⟩
          · rw [if_neg hu]
            refine (hr u).step st (fun b hbk => ?_)
            subst hbk
            cases hh : (s.look u).has b with
            | false => rfl
            | true => exact absurd (by rw [hb]; exact hk') ((hr u).has_box b hh)
        obtain ⟨h1, h2, h3⟩ := promote_sound h step
        refine ⟨h1, fun u hu => ?_, fun b B hB => ?_⟩
        · rw [h2 u (fun p hp => hu p (by simp [hp]))]
          show (lk u (st' t (.tip k) s.tmps)).getD .undef = _
          rw [lk_st, if_neg (fun h => hu (t, k, e, g) (by simp) h.symm)]
          rfl
        · have := h3 b B hB
          simp only [lk_st] at this
          split at this
          · simp at this
          · exact this
      · cases h
    · obtain ⟨h1, h2, h3⟩ := promote_sound h hs
      exact ⟨h1, fun u hu => h2 u (fun p hp => hu p (by simp [hp])), h3⟩
    · cases h
end
end Go.Ev
