/- Each operation does what the evaluator says: all of them. -/
import Derived.Test.YtohodbfoeejbjaaEvOp9
set_option linter.unusedVariables false
set_option linter.unusedSimpArgs false
namespace Go.Ev

/-- What an operation reads is what is known of it. -/
def OpRel (M : Mem) (av : Operand → AV) (ρ : Operand → Value) (o : Oper) : Prop :=
  match o.op with
  | .pick c a b => RelV M (av c) (ρ c) ∧ (ρ c = .bool true → RelV M (av a) (ρ a)) ∧ (ρ c = .bool false → RelV M (av b) (ρ b))
  | op => ∀ x ∈ op.operands.toList, RelV M (av x) (ρ x)

theorem relL_map {M : Mem} {av : Operand → AV} {ρ : Operand → Value} : ∀ {l : List Operand}, (∀ x ∈ l, RelV M (av x) (ρ x)) → RelL M (l.map av) (l.map ρ)
  | [], _ => by simp [RelL]
  | x :: l, h => by
    simp only [List.map_cons, RelL]
    exact ⟨h x (by simp), relL_map (fun y hy => h y (by simp [hy]))⟩

theorem map_arg {M : Mem} {av : Operand → AV} (l : List Operand) : l.map (fun x => argOf M.bs (av x)) = (l.map av).map (argOf M.bs) := by simp

theorem maybe_run {P : Program} {w w' : World} {v : Value} {s : Sem Value} (h : s.run P w = .ok v w') : (do pure (Next.value (← s)) : Sem Next).run P w = .ok (.value v) w' := by
  simp [h]

section
variable {P : Program} {τ : Tys} {Γ : Ctrs} {R : Ref} {M : Mem}

theorem call_sound (GOK : CtrsOK P Γ) (I : InvM R M) {ρ : Operand → Value} (hρ : ∀ f, ρ (.func f) = .func (.func f) #[] #[]) {o : Oper} {f : Nat} {as : Array Operand} {ts : Array TypeId} (ho : o.op = .call { callee := .value (.func f), args := as, argTypes := ts })
    {args : List Arg} (hr : ArgsR M args (as.toList.map ρ)) {c : Ctr} (hc : Γ f = some c) {x : dens c.args} {ws : List (Nat × Bool × Box)} (ht : takes c.args args = some (x, ws)) (hn : ∀ p, c.pre = some p → p x) (nd : Option Prop) :
    Yields P ρ o M.w (After R M ⟨resAV c.res (c.fn x), ws, nd⟩) := by
  obtain ⟨⟨fn, h1, h2, h3⟩, h4⟩ := GOK f c hc
  obtain ⟨hk, S', fz, henc⟩ := takes_sound I hr ht
  have hrun : (execOp ρ o).run P M.w = .ok (.enter f (as.map ρ)) M.w := by
    simp only [execOp, ho, resolve, hρ, Deferred.ofValue, Sem.run_bind]
    have h2' : ¬ fn.body = none := by intro hh; rw [hh] at h2; simp at h2
    have h3' : ¬ fn.name = "runtime.NumGoroutine" := by simpa using h3
    simp [invoke, callFunc, h1, h2', h3']
  unfold Yields
  rw [hrun]
  simp only
  have hin : ∀ b o, S' b o → b < M.w.heap.size := fun b o hs => by
    have := (fz.inv.here b o hs).2
    exact this
  have := h4 M.w S' (as.toList.map ρ) x hin henc hn
  rw [show (as.toList.map ρ).toArray = as.map ρ from by apply Array.toList_inj.1; simp] at this
  refine this.mono (fun e w' he => ?_)
  obtain ⟨v, rfl, hg, N, hN, hres⟩ := he
  refine ⟨v, rfl, ?_⟩
  obtain ⟨I2, s2⟩ := fz.inv.grows (w' := w') hg N hN
  refine ⟨_, _, I2, (fz.step.trans s2).mono (fun b hb => ?_), resAV_rel hres⟩
  rcases hb with hb | hb <;> exact hb.elim

theorem opEff_sound (TOK : TysOK P τ) (GOK : CtrsOK P Γ) (I : InvM R M) {ρ : Operand → Value} (hρ : ∀ f, ρ (.func f) = .func (.func f) #[] #[]) {av : Operand → AV} {o : Oper} (hr : OpRel M av ρ o) {key : Nat} {e : Eff}
    (he : opEff τ Γ key o (o.op.operands.toList.map fun x => argOf M.bs (av x)) = some e) (hn : e.ok) : Yields P ρ o M.w (After R M e) := by
  obtain ⟨dst, op, type, pos, after, guard⟩ := o
  have pure : ∀ {e : Eff} {v : Value}, e.wr = [] → RelV M e.av v → After R M e v M.w := by
    intro e v h1 h2
    obtain ⟨a, b, c⟩ := e
    simp only at h1 h2
    subst h1
    exact After.pure I h2
  cases op with
  | move x =>
    simp only [Op.operands, List.map_cons, List.map_nil, opEff, v0, Option.some.injEq] at he
    subst he
    exact .value (v := ρ x) (w' := M.w) (by simp [execOp]) (pure rfl (hr x (by simp [Op.operands])))
  | assign x =>
    simp only [Op.operands, List.map_cons, List.map_nil, opEff, v0, Option.some.injEq] at he
    subst he
    exact .value (v := ρ x) (w' := M.w) (by simp [execOp]) (pure rfl (hr x (by simp [Op.operands])))
  | pick c a b =>
    simp only [Op.operands, List.map_cons, List.map_nil, opEff] at he
    obtain ⟨h1, h2, h3⟩ := hr
    obtain ⟨x, hx, hw, hv⟩ := pickEff_sound h1 h2 h3 he
    exact .value (v := if x then ρ a else ρ b) (w' := M.w) (by cases x <;> simp [execOp, hx, asBool]) (pure hw hv)
  | alloc t =>
    simp only [Op.operands, List.map_nil, opEff] at he
    split at he
    · rename_i i hi
      simp only [Option.some.injEq] at he
      subst he
      exact .value (by simp only [execOp]; exact maybe_run (alloc_run TOK hi M.w)) (After.newVar (ws := []) (Froze.refl I) (fun b hk => by obtain ⟨B, hB⟩ := hk; simp at hB) (Enc.zero M.w M.S i.g) key t none)
    · cases he
  | box t x =>
    simp only [Op.operands, List.map_cons, List.map_nil, opEff] at he
    split at he
    · rename_i i hi
      split at he
      · rename_i y w1 e1
        simp only [Option.some.injEq] at he
        subst he
        obtain ⟨hk, S', f, cs, h3, h4⟩ := take_sound I (ArgR.of (hr x (by simp [Op.operands]))) e1
        exact .value (by simp only [execOp]; rw [h4]; exact maybe_run (box_run t h3 M.w)) (After.newVar f hk h3 key t none)
      · cases he
    · cases he
  | build t ps =>
    simp only [opEff] at he
    have hrel : ∀ x ∈ ps.toList.map (·.2), RelV M (av x) (ρ x) := fun x hx => hr x (by simpa [Op.operands] using hx)
    split at he
    · rename_i i hi
      split at he
      · rename_i x w1 h1 h2
        simp only [Option.some.injEq] at he
        subst he
        have hl : (((ps.toList.map (·.1)).zip ((Op.build t ps).operands.toList.map fun x => argOf M.bs (av x))).map (·.2)) = ((ps.toList.map (·.2)).map av).map (argOf M.bs) := by
          rw [List.map_snd_zip (by simp [Op.operands])]
          simp [Op.operands]
        have hl1 : (((ps.toList.map (·.1)).zip ((Op.build t ps).operands.toList.map fun x => argOf M.bs (av x))).map (·.1)) = ps.toList.map (·.1) := by
          rw [List.map_fst_zip (by simp [Op.operands])]
        obtain ⟨v, q1, q2⟩ := build_sound TOK I hi (us := (ps.toList.map (·.2)).map ρ) (by rw [hl]; exact ArgsR.of (relL_map hrel)) (by rw [hl1]; exact h1) h2 none (ps.map fun (i, x) => (i, ρ x)) (by
          rw [hl1]
          simp only [Array.toList_map, List.map_map]
          rw [List.zip_map']
          rfl)
        exact .value (by simp only [execOp]; exact maybe_run q1) q2
      · cases he
    · cases he
  | buildSlice t n ps =>
    simp only [opEff] at he
    have hrel : ∀ x ∈ ps.toList.map (·.2), RelV M (av x) (ρ x) := fun x hx => hr x (by simpa [Op.operands] using hx)
    split at he
    · rename_i g nf b el hi
      split at he
      · rename_i x w1 h1 h2
        obtain ⟨h3, he⟩ : (n * ncell g ≤ 2 ^ 24 ∧ n * b ≤ maxRow) ∧ _ := by
          rcases needIf_spec he with ⟨hh, _⟩ | hh
          · cases hh
          · exact hh
        simp only [Option.some.injEq] at he
        subst he
        have hl : (((ps.toList.map (·.1)).zip ((Op.buildSlice t n ps).operands.toList.map fun x => argOf M.bs (av x))).map (·.2)) = ((ps.toList.map (·.2)).map av).map (argOf M.bs) := by
          rw [List.map_snd_zip (by simp [Op.operands])]
          simp [Op.operands]
        have hl1 : (((ps.toList.map (·.1)).zip ((Op.buildSlice t n ps).operands.toList.map fun x => argOf M.bs (av x))).map (·.1)) = ps.toList.map (·.1) := by
          rw [List.map_fst_zip (by simp [Op.operands])]
        have hin : ∀ y ∈ ((ps.toList.map (·.1)).zip ((Op.buildSlice t n ps).operands.toList.map fun x => argOf M.bs (av x))), y.1 < n := by
          intro y hy
          have : y.1 ∈ ps.toList.map (·.1) := by rw [← hl1]; exact List.mem_map.2 ⟨y, hy, rfl⟩
          rw [List.all_eq_true] at h1
          exact Nat.blt_eq ▸ h1 _ this
        obtain ⟨v, w', q1, q2⟩ := buildSlice_sound TOK I hi (us := (ps.toList.map (·.2)).map ρ) (by rw [hl]; exact ArgsR.of (relL_map hrel)) hin h2 key none h3.1 h3.2 (ps.map fun (i, x) => (i, ρ x)) (by
          rw [hl1]
          simp only [Array.toList_map, List.map_map]
          rw [List.zip_map']
          rfl)
        exact .value (by simp only [execOp]; exact maybe_run q1) q2
      · cases he
    · cases he
  | load t x =>
    simp only [Op.operands, List.map_cons, List.map_nil, opEff] at he
    split at he
    · rename_i i hi
      obtain ⟨v, q1, q2, q3, _⟩ := loadEff_sound TOK I hi (ArgR.of (hr x (by simp [Op.operands]))) he
      exact .value (by simp only [execOp]; exact maybe_run q1) (pure q2 q3)
    · cases he
  | store t a x =>
    simp only [Op.operands, List.map_cons, List.map_nil, opEff] at he
    split at he
    · rename_i i hi
      obtain ⟨w', q1, q2⟩ := storeEff_sound TOK I hi (hr a (by simp [Op.operands])) (ArgR.of (hr x (by simp [Op.operands]))) he
      exact .skip (by simp [execOp, q1]) q2
    · cases he
  | nilCheck x =>
    simp only [Op.operands, List.map_cons, List.map_nil, opEff] at he
    have h := hr x (by simp [Op.operands])
    have hv : ∀ v, ρ x = v → (execOp ρ ⟨dst, .nilCheck x, type, pos, after, guard⟩).run P M.w = .ok (.value v) M.w → e = ⟨av x, [], none⟩ → Yields P ρ ⟨dst, .nilCheck x, type, pos, after, guard⟩ M.w (After R M e) := by
      intro v hx hrun heq
      subst heq
      exact .value hrun (pure rfl (by rw [← hx]; exact h))
    simp only [argOf] at he
    split at he <;> simp only [v0, Option.some.injEq, reduceCtorEq] at he
    · rename_i b g p hav
      rw [hav] at h
      simp only [RelV] at h
      obtain ⟨blk, d, B, _, _, _, hu⟩ := h
      exact hv _ rfl (by simp [execOp, hu]) he.symm
    · rename_i g y hav
      rw [hav] at h
      simp only [RelV] at h
      obtain ⟨blk, off, cs, _, _, hu⟩ := h
      exact hv _ rfl (by simp [execOp, hu]) he.symm
    · rename_i f caps hav
      rw [hav] at h
      simp only [RelV] at h
      obtain ⟨vs, hu, _⟩ := h
      exact hv _ rfl (by simp [execOp, hu]) he.symm
  | binOp op t x y ty =>
    simp only [Op.operands, List.map_cons, List.map_nil, opEff] at he
    obtain ⟨v, q1, q2, q3⟩ := binEff_sound (P := P) TOK (hr x (by simp [Op.operands])) (hr y (by simp [Op.operands])) he hn x y
    exact .value (by simp only [execOp]; exact maybe_run q1) (pure q2 q3)
  | unOp op t x =>
    simp only [Op.operands, List.map_cons, List.map_nil, opEff] at he
    obtain ⟨v, q1, q2, q3⟩ := unEff_sound (P := P) (hr x (by simp [Op.operands])) he
    exact .value (by simp only [execOp]; exact maybe_run q1) (pure q2 q3)
  | convert s d x =>
    simp only [Op.operands, List.map_cons, List.map_nil, opEff] at he
    split at he
    · rename_i j i hj hi
      obtain ⟨v, q1, q2, q3⟩ := convEff_sound TOK I hj hi (hr x (by simp [Op.operands])) he
      exact .value (by simp only [execOp]; exact maybe_run q1) (pure q2 q3)
    · cases he
  | slice t x lo hi mx =>
    have hops : (Op.slice t x lo hi mx).operands.toList = x :: (lo.toList ++ hi.toList ++ mx.toList) := by
      cases lo <;> cases hi <;> cases mx <;> simp [Op.operands]
    rw [hops] at he
    simp only [List.map_cons, opEff] at he
    have hr' : ∀ y ∈ x :: (lo.toList ++ hi.toList ++ mx.toList), RelV M (av y) (ρ y) := fun y hy => hr y (by rw [show (Op.slice t x lo hi mx).operands.toList = _ from hops]; exact hy)
    split at he
    · rename_i i hti
      have hb : ∃ bs, bounds lo.isSome hi.isSome mx.isSome ((lo.toList ++ hi.toList ++ mx.toList).map fun x => argOf M.bs (av x)) = some bs := by
        cases hb : bounds lo.isSome hi.isSome mx.isSome ((lo.toList ++ hi.toList ++ mx.toList).map fun x => argOf M.bs (av x)) with
        | none => rw [hb] at he; simp [sliceEff] at he
        | some bs => exact ⟨bs, rfl⟩
      obtain ⟨bs, hb⟩ := hb
      rw [hb] at he
      have hb' := bounds_spec (M := M) (ρ := ρ) (l := (lo.toList ++ hi.toList ++ mx.toList).map av) (by rw [← map_arg]; exact hb) (relL_map (fun y hy => hr' y (List.mem_cons_of_mem _ hy)))
      obtain ⟨v, q1, q2⟩ := sliceEff_sound TOK I hti (hr' x (by simp)) hb' he hn
      exact .value (by simp only [execOp]; exact maybe_run q1) q2
    · cases he
  | fieldAddr t x k =>
    simp only [Op.operands, List.map_cons, List.map_nil, opEff] at he
    split at he
    · rename_i i hi
      obtain ⟨v, q1, q2, q3⟩ := fieldAddrEff_sound TOK I hi (hr x (by simp [Op.operands])) he
      exact .value (by simp only [execOp]; exact maybe_run q1) (pure q2 q3)
    · cases he
  | field t x k =>
    simp only [Op.operands, List.map_cons, List.map_nil, opEff] at he
    split at he
    · rename_i i hi
      obtain ⟨v, q1, q2, q3⟩ := fieldEff_sound TOK hi (hr x (by simp [Op.operands])) he
      exact .value (by simp only [execOp]; exact maybe_run q1) (pure q2 q3)
    · cases he
  | indexAddr t x i =>
    simp only [Op.operands, List.map_cons, List.map_nil, opEff] at he
    split at he
    · rename_i j hi
      obtain ⟨v, q1, q2, q3⟩ := indexAddrEff_sound TOK I hi (hr x (by simp [Op.operands])) (hr i (by simp [Op.operands])) he hn
      exact .value (by simp only [execOp]; exact maybe_run q1) (pure q2 q3)
    · cases he
  | index t x i =>
    simp only [Op.operands, List.map_cons, List.map_nil, opEff] at he
    split at he
    · rename_i j hi
      obtain ⟨v, q1, q2, q3⟩ := indexEff_sound TOK hi (hr x (by simp [Op.operands])) (hr i (by simp [Op.operands])) he hn
      exact .value (by simp only [execOp]; exact maybe_run q1) (pure q2 q3)
    · cases he
  | extract x i =>
    simp only [Op.operands, List.map_cons, List.map_nil, opEff] at he
    have h := hr x (by simp [Op.operands])
    simp only [argOf] at he
    split at he
    · rename_i l hav
      rw [hav] at h
      simp only [RelV] at h
      obtain ⟨vs, hu, hl⟩ := h
      split at he
      · rename_i v hv
        simp only [v0, Option.some.injEq] at he
        subst he
        obtain ⟨u, h1, h2⟩ := hl.get i hv
        refine .value (v := u) (w' := M.w) ?_ (pure rfl h2)
        have h1' : vs[i]? = some u := by simpa using h1
        simp [execOp, hu, Instr.extract, h1']
      · cases he
    · cases he
  | makeSlice t a b =>
    simp only [Op.operands, List.map_cons, List.map_nil, opEff] at he
    split at he
    · rename_i g nf bytes el n c hi h1 h2
      simp only [Option.some.injEq] at he
      subst he
      obtain ⟨k, e1, _⟩ := asIntAV_spec (M := M) h1 (hr a (by simp [Op.operands]))
      obtain ⟨k', e2, _⟩ := asIntAV_spec (M := M) h2 (hr b (by simp [Op.operands]))
      obtain ⟨p1, p2, p3⟩ := hn _ rfl
      obtain ⟨v, w', q1, q2⟩ := makeSlice_sound (k := k) (k' := k') TOK I hi key (some _) p1 p2 p3
      exact .value (by simp only [execOp]; rw [e1, e2]; exact maybe_run q1) q2
    · cases he
  | call c =>
    obtain ⟨callee, as, ts⟩ := c
    cases callee with
    | invoke x m => simp [opEff] at he
    | value f =>
      cases f with
      | tmp t => simp [opEff] at he
      | const v => simp [opEff] at he
      | global g => simp [opEff] at he
      | func f =>
        have hops : (Op.call { callee := .value (.func f), args := as, argTypes := ts }).operands.toList = .func f :: as.toList := by simp [Op.operands, Call.operands]
        rw [hops] at he
        simp only [List.map_cons, opEff] at he
        have hr' : ∀ y ∈ as.toList, RelV M (av y) (ρ y) := fun y hy => hr y (by rw [show (Op.call { callee := .value (.func f), args := as, argTypes := ts }).operands.toList = _ from hops]; exact List.mem_cons_of_mem _ hy)
        split at he
        · rename_i c hc
          split at he
          · rename_i x w1 ht
            simp only [Option.some.injEq] at he
            subst he
            refine call_sound GOK I hρ rfl (args := as.toList.map fun x => argOf M.bs (av x)) ?_ hc ht (fun p hp => ?_) _
            · rw [map_arg]; exact ArgsR.of (relL_map hr')
            · exact hn _ (by simp [hp])
          · cases he
        · cases he
    | builtin bi =>
      have hops : (Op.call { callee := .builtin bi, args := as, argTypes := ts }).operands.toList = as.toList := by simp [Op.operands, Call.operands]
      rw [hops] at he
      have hr' : ∀ y ∈ as.toList, RelV M (av y) (ρ y) := fun y hy => hr y (by rw [show (Op.call { callee := .builtin bi, args := as, argTypes := ts }).operands.toList = _ from hops]; exact hy)
      have hrl := relL_map hr'
      have hmap : (as.map ρ).toList = as.toList.map ρ := by simp
      cases hl : as.toList with
      | nil =>
        rw [hl] at he
        cases bi <;> simp [opEff] at he
      | cons x l =>
        rw [hl] at he hr' hrl
        have hx := hr' x (by simp)
        simp only [List.map_cons, RelL] at hrl he
        cases bi with
        | len =>
          cases l with
          | cons _ _ => simp [opEff] at he
          | nil =>
            simp only [List.map_nil, opEff] at he
            split at he
            · rename_i t hts
              split at he
              · rename_i i hi
                obtain ⟨v, q1, q2, q3⟩ := lenEff_sound TOK I hi hx he type
                refine .value (v := v) (w' := M.w) ?_ (pure q2 q3)
                have h1 : as = #[x] := by apply Array.toList_inj.1; simpa using hl
                have h2 : ts = #[t] := by apply Array.toList_inj.1; simpa using hts
                subst h1
                subst h2
                simp [execOp, resolve, invoke, builtin, q1]
              · cases he
            · cases he
        | append =>
          match l, hl, he, hr' with
          | [], hl, he, hr' => simp [opEff] at he
          | _ :: _ :: _, hl, he, hr' => simp [opEff] at he
          | [y], hl, he, hr' =>
            simp only [List.map_nil, List.map_cons, opEff] at he
            split at he
            · rename_i t u hts
              split at he
              · rename_i htu g nf b el _ hi
                subst htu
                obtain ⟨v, w', q1, q2⟩ := appendEff_sound (ty := type) TOK I hi hx (hr' y (by simp)) he hn
                refine .value (v := v) (w' := w') ?_ q2
                have h1 : as = #[x, y] := by apply Array.toList_inj.1; simpa using hl
                have h2 : ts = #[t, t] := by apply Array.toList_inj.1; simpa using hts
                subst h1
                subst h2
                simp [execOp, resolve, invoke, builtin, q1]
              · cases he
            · cases he
        | max =>
          simp only [opEff, argOf] at he
          split at he
          all_goals (try (simp at *; done))
          · rename_i k n _ l' _ hargs
            simp only [List.cons.injEq, Prod.mk.injEq] at hargs
            obtain ⟨⟨hav, _⟩, rfl⟩ := hargs
            split at he
            · rename_i m hm
              simp only [v0, Option.some.injEq] at he
              subst he
              rw [hav] at hx
              obtain ⟨hu, hk⟩ := relInt hx
              have hm' : maxmin true k ((l.map av).map (argOf M.bs)) n = some m := by rw [← map_arg]; exact hm
              obtain ⟨q1, q2⟩ := maxmin_sound (P := P) true hk hrl.2 hm'
              refine .value (v := .int k m) (w' := M.w) ?_ (pure rfl (mkInt q2))
              have h1 : as.toList.map ρ = .int k n :: l.map ρ := by rw [hl, List.map_cons, hu]
              simp only [if_true] at q1
              simp [execOp, resolve, invoke, builtin, Builtin.max_, h1, q1]
            · cases he
        | min =>
          simp only [opEff, argOf] at he
          split at he
          all_goals (try (simp at *; done))
          · rename_i k n _ l' _ hargs
            simp only [List.cons.injEq, Prod.mk.injEq] at hargs
            obtain ⟨⟨hav, _⟩, rfl⟩ := hargs
            split at he
            · rename_i m hm
              simp only [v0, Option.some.injEq] at he
              subst he
              rw [hav] at hx
              obtain ⟨hu, hk⟩ := relInt hx
              have hm' : maxmin false k ((l.map av).map (argOf M.bs)) n = some m := by rw [← map_arg]; exact hm
              obtain ⟨q1, q2⟩ := maxmin_sound (P := P) false hk hrl.2 hm'
              refine .value (v := .int k m) (w' := M.w) ?_ (pure rfl (mkInt q2))
              have h1 : as.toList.map ρ = .int k n :: l.map ρ := by rw [hl, List.map_cons, hu]
              simp only [Bool.false_eq_true, if_false] at q1
              simp [execOp, resolve, invoke, builtin, Builtin.min_, h1, q1]
            · cases he
        | _ => simp [opEff] at he
  | makeFunc fn first caps =>
    cases fn with
    | func f =>
      simp only [opEff] at he
      split at he
      · rename_i hf
        have h0 : first = #[] := by apply Array.toList_inj.1; simpa using hf
        subst h0
        simp only [v0, Option.some.injEq] at he
        subst he
        have hops : (Op.makeFunc (.func f) #[] caps).operands.toList = caps.toList := by simp [Op.operands]
        have hrl : RelL M (caps.toList.map av) (caps.toList.map ρ) := relL_map (fun y hy => hr y (by rw [show (Op.makeFunc (.func f) #[] caps).operands.toList = _ from hops]; exact hy))
        refine .value (v := .func (.func f) #[] (caps.map ρ)) (w' := M.w) (by simp [execOp, Instr.makeFunc]) (pure rfl ?_)
        simp only [RelV]
        refine ⟨_, rfl, ?_⟩
        rw [hops, map_arg, List.map_map]
        simpa [argOf, Function.comp_def] using hrl
      · cases he
    | _ => simp [opEff] at he
  | _ => simp [opEff] at he
end
end Go.Ev
