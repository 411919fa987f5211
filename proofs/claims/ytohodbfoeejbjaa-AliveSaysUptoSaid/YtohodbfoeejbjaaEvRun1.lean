/- States, held against the machine's; one operation; a region without guards. -/
import Derived.Test.YtohodbfoeejbjaaEvOp10
set_option linter.unusedVariables false
set_option linter.unusedSimpArgs false
namespace Go.Ev

mutual
theorem RelV.has_box {M : Mem} : ∀ {v : AV} {u : Value}, RelV M v u → ∀ b, v.has b = true → lk b M.bs ≠ none
  | .undef, _, _, b, hb => by simp [AV.has] at hb
  | .cst _, _, _, b, hb => by simp [AV.has] at hb
  | .val _ _, _, _, b, hb => by simp [AV.has] at hb
  | .ref _ _, _, _, b, hb => by simp [AV.has] at hb
  | .ptr c g p, _, h, b, hb => by
    simp only [AV.has] at hb
    have := Nat.eq_of_beq_eq_true hb
    subst this
    simp only [RelV] at h
    obtain ⟨blk, d, B, h1, _⟩ := h
    rw [h1]; simp
  | .tip c, _, h, b, hb => by
    simp only [AV.has] at hb
    have := Nat.eq_of_beq_eq_true hb
    subst this
    simp only [RelV] at h
    obtain ⟨⟨d, B, h1, _⟩, _⟩ := h
    rw [h1]; simp
  | .tup l, _, h, b, hb => by
    simp only [AV.has] at hb
    simp only [RelV] at h
    obtain ⟨vs, _, h⟩ := h
    exact RelL.has_box h b hb
  | .clo f l, _, h, b, hb => by
    simp only [AV.has] at hb
    simp only [RelV] at h
    obtain ⟨vs, _, h⟩ := h
    exact RelL.has_box h b hb
theorem RelL.has_box {M : Mem} : ∀ {l : List AV} {us : List Value}, RelL M l us → ∀ b, AV.hasL b l = true → lk b M.bs ≠ none
  | [], _, _, b, hb => by simp [AV.hasL] at hb
  | v :: l, [], h, _, _ => by simp [RelL] at h
  | v :: l, u :: us, h, b, hb => by
    simp only [RelL] at h
    simp only [AV.hasL, Bool.or_eq_true] at hb
    rcases hb with hb | hb
    · exact RelV.has_box h.1 b hb
    · exact RelL.has_box h.2 b hb
end

theorem look_put (s : St) (d t : Nat) (v : AV) : (s.put d v).look t = if t = d then v else s.look t := by
  unfold St.put St.look
  simp only [lk_st]
  split <;> simp

theorem wr1_boxes (s : St) (x : Nat × Bool × Box) : (s.wr1 x).boxes = st' x.1 (true, x.2.2) s.boxes := by
  unfold St.wr1
  split <;> rfl

theorem wrs_boxes : ∀ (ws : List (Nat × Bool × Box)) (s : St), (s.wrs ws).boxes = applyB ws s.boxes
  | [], _ => rfl
  | x :: l, s => by
    simp only [St.wrs, applyB]
    rw [wrs_boxes l, wr1_boxes]

theorem lk_kill (b t : Nat) : ∀ l : List (Nat × AV), lk t (kill b l) = (lk t l).map fun v => match v.has b with | true => AV.undef | false => v
  | [] => by simp [kill, lk]
  | (j, v) :: l => by
    have ih := lk_kill b t l
    simp only [kill, List.map_cons, lk] at ih ⊢
    cases Nat.beq j t with
    | true => cases hh : v.has b <;> simp [hh]
    | false => exact ih

theorem wr1_look (s : St) (x : Nat × Bool × Box) (t : Nat) :
    ((s.wr1 x).look t = .undef ∨ ((s.wr1 x).look t = s.look t ∧ (x.2.1 = true → lk x.1 s.boxes ≠ none → (s.look t).has x.1 = false))) := by
  unfold St.wr1
  split
  · rename_i B hx hB
    unfold St.look
    simp only [lk_kill]
    cases hl : lk t s.tmps with
    | none => exact .inl rfl
    | some v =>
      simp only [Option.map_some, Option.getD_some]
      cases hh : v.has x.1 with
      | true => exact .inl (by simp)
      | false => exact .inr ⟨by simp, fun _ _ => rfl⟩
  · rename_i hne
    refine .inr ⟨rfl, fun hx hb => ?_⟩
    cases hB : s.box x.1 with
    | none =>
      simp only [St.box, Option.map_eq_none_iff] at hB
      exact absurd hB hb
    | some B => exact absurd hB (hne B hx)

theorem lk_applyB_some : ∀ (ws : List (Nat × Bool × Box)) (bs : Bxs) (b : Nat), lk b bs ≠ none → lk b (applyB ws bs) ≠ none
  | [], _, _, h => h
  | x :: l, bs, b, h => by
    simp only [applyB]
    refine lk_applyB_some l _ b ?_
    rw [lk_st]
    split
    · simp
    · exact h

theorem wrs_look : ∀ (ws : List (Nat × Bool × Box)) (s : St) (t : Nat),
    (s.wrs ws).look t = .undef ∨ ((s.wrs ws).look t = s.look t ∧ ∀ b, killed ws b → lk b s.boxes ≠ none → (s.look t).has b = false)
  | [], s, t => .inr ⟨rfl, fun b hb => by obtain ⟨B, hB⟩ := hb; simp at hB⟩
  | x :: l, s, t => by
    simp only [St.wrs]
    rcases wrs_look l (s.wr1 x) t with h | ⟨h, hk⟩
    · exact .inl h
    · rcases wr1_look s x t with h1 | ⟨h1, hk1⟩
      · exact .inl (h.trans h1)
      · refine .inr ⟨h.trans h1, fun b hb hbs => ?_⟩
        obtain ⟨B, hB⟩ := hb
        rcases List.mem_cons.1 hB with hB | hB
        · rw [← hB] at hk1
          exact hk1 rfl hbs
        · rw [← h1]
          refine hk b ⟨B, hB⟩ ?_
          rw [wr1_boxes, lk_st]
          split
          · simp
          · exact hbs

theorem applyB_clean : ∀ (ws : List (Nat × Bool × Box)) (bs : Bxs) (b : Nat) (B : Box), lk b (applyB ws bs) = some (false, B) → lk b bs = some (false, B)
  | [], _, _, _, h => h
  | x :: l, bs, b, B, h => by
    simp only [applyB] at h
    have := applyB_clean l _ b B h
    rw [lk_st] at this
    split at this
    · simp at this
    · exact this

/-- A state, held against a machine's. -/
def IsSt (R : Ref) (s : St) (a : Act) (w : World) : Prop :=
  ∃ M : Mem, M.w = w ∧ M.bs = s.boxes ∧ InvM R M ∧ ∀ t, RelV M (s.look t) (a.tmps.getD t undef)

/-- What is written outside of W: nothing. -/
structure Apart (W : Nat → Prop) (s : St) (a : Act) (s' : St) (a' : Act) : Prop where
  size : a'.tmps.size = a.tmps.size
  defers : a'.defers = a.defers
  tmps : ∀ t, ¬ W t → a'.tmps.getD t undef = a.tmps.getD t undef
  look : ∀ t, ¬ W t → s'.look t = .undef ∨ s'.look t = s.look t
  boxes : ∀ b B, lk b s'.boxes = some (false, B) → lk b s.boxes = some (false, B)

theorem Apart.refl (W : Nat → Prop) (s : St) (a : Act) : Apart W s a s a := ⟨rfl, rfl, fun _ _ => rfl, fun _ _ => .inr rfl, fun _ _ h => h⟩
theorem Apart.trans {W : Nat → Prop} {s s' s'' : St} {a a' a'' : Act} (h : Apart W s a s' a') (k : Apart W s' a' s'' a'') : Apart W s a s'' a'' :=
  ⟨k.size.trans h.size, k.defers.trans h.defers, fun t ht => (k.tmps t ht).trans (h.tmps t ht), fun t ht => by
    rcases k.look t ht with h1 | h1
    · exact .inl h1
    · rcases h.look t ht with h2 | h2
      · exact .inl (h1.trans h2)
      · exact .inr (h1.trans h2), fun b B hb => h.boxes b B (k.boxes b B hb)⟩
theorem Apart.mono {W W' : Nat → Prop} {s s' : St} {a a' : Act} (h : Apart W s a s' a') (hw : ∀ t, W t → W' t) : Apart W' s a s' a' :=
  ⟨h.size, h.defers, fun t ht => h.tmps t (fun x => ht (hw t x)), fun t ht => h.look t (fun x => ht (hw t x)), h.boxes⟩

theorem put_getD (a : Act) (d : Option Nat) (v : Value) (t : Nat) (hd : ∀ k, d = some k → k < a.tmps.size) : (a.put d v).tmps.getD t undef = if d = some t then v else a.tmps.getD t undef := by
  cases d with
  | none => simp [Act.put]
  | some k =>
    have hk := hd k rfl
    simp only [Act.put]
    by_cases h : k = t
    · subst h
      simp [Array.getD_eq_getD_getElem?, Array.getElem?_setIfInBounds, hk]
    · simp [Array.getD_eq_getD_getElem?, Array.getElem?_setIfInBounds_ne h, h]

theorem put_size (a : Act) (d : Option Nat) (v : Value) : (a.put d v).tmps.size = a.tmps.size := by cases d <;> simp [Act.put]
theorem put_defers' (a : Act) (d : Option Nat) (v : Value) : (a.put d v).defers = a.defers := by cases d <;> simp [Act.put]

section
variable {P : Program} {C : Ctx} {R : Ref}

theorem look_after (s : St) (o : Oper) (e : Eff) (t : Nat) : (s.after o e).look t = if o.dst = some t then e.av else (s.wrs e.wr).look t := by
  unfold St.after St.putO
  cases o.dst with
  | none => simp
  | some d =>
    simp only [look_put]
    by_cases h : d = t
    · simp [h]
    · have h' : ¬ t = d := fun hh => h hh.symm
      simp [h, h']

theorem boxes_after (s : St) (o : Oper) (e : Eff) : (s.after o e).boxes = applyB e.wr s.boxes := by
  rw [← wrs_boxes]
  unfold St.after St.putO
  cases o.dst <;> rfl

/-- What an operation has done, told of states. -/
theorem IsSt.after {s : St} {a : Act} {w w' : World} {o : Oper} {e : Eff} {v : Value} {M : Mem} (hM : M.w = w) (hb : M.bs = s.boxes) (hr : ∀ t, RelV M (s.look t) (a.tmps.getD t undef)) (hd : ∀ k, o.dst = some k → k < a.tmps.size)
    (h : After R M e v w') : IsSt R (s.after o e) (a.put o.dst v) w' ∧ Apart (fun t => o.dst = some t) s a (s.after o e) (a.put o.dst v) := by
  obtain ⟨S', β', I, st, hv⟩ := h
  refine ⟨⟨_, rfl, by rw [boxes_after, ← hb], I, fun t => ?_⟩, put_size _ _ _, put_defers' _ _ _, fun t ht => ?_, fun t ht => ?_, fun b B hB => ?_⟩
  · rw [look_after, put_getD a o.dst v t hd]
    split
    · exact hv
    · rcases wrs_look e.wr s t with h1 | ⟨h1, h2⟩
      · rw [h1]; simp [RelV]
      · rw [h1]
        refine (hr t).step st (fun b hk => ?_)
        by_cases hbn : lk b s.boxes = none
        · cases hh : (s.look t).has b with
          | false => rfl
          | true => exact absurd (by rw [hb]; exact hbn) ((hr t).has_box b hh)
        · exact h2 b hk hbn
  · rw [put_getD a o.dst v t hd, if_neg ht]
  · rw [look_after, if_neg ht]
    rcases wrs_look e.wr s t with h1 | ⟨h1, _⟩
    · exact .inl h1
    · exact .inr h1
  · rw [boxes_after] at hB
    exact applyB_clean _ _ _ _ hB

theorem eval_func (a : Act) (f : Nat) : a.eval (.func f) = .func (.func f) #[] #[] := rfl

theorem constAV_rel {M : Mem} (v : Value) : RelV M (constAV v) v := by
  unfold constAV
  split
  · exact mkBool
  · rename_i k n
    split
    · rename_i hk
      exact mkInt (has_of_range hk)
    · simp [RelV]
  · rename_i s
    split
    · rename_i hs
      have : List.length (α := UInt8) s.data.toList ≤ maxStr := by simpa [Nat.ble_eq] using hs
      exact mkStr this
    · simp [RelV]
  · simp [RelV]

theorem eval_rel {s : St} {a : Act} {M : Mem} (hr : ∀ t, RelV M (s.look t) (a.tmps.getD t undef)) (x : Operand) : RelV M (s.eval x) (a.eval x) := by
  cases x with
  | tmp t => exact hr t
  | const v => exact constAV_rel v
  | global g => simp [St.eval, RelV]
  | func f => simp [St.eval, RelV, Act.eval, RelL]

theorem args_eq (s : St) (o : Oper) {bs : Bxs} (hb : bs = s.boxes) : s.args o = o.op.operands.toList.map fun x => argOf bs (s.eval x) := by
  subst hb
  rfl

theorem opRel_of {s : St} {a : Act} {M : Mem} (hr : ∀ t, RelV M (s.look t) (a.tmps.getD t undef)) (o : Oper) : OpRel M s.eval a.eval o := by
  unfold OpRel
  split
  · exact ⟨eval_rel hr _, fun _ => eval_rel hr _, fun _ => eval_rel hr _⟩
  · exact fun x _ => eval_rel hr x

theorem Yields.wp {o : Oper} {a : Act} {w : World} {K : Value → World → Prop} {next : Act → World → Prop} {Q : Exit → Act → World → Prop} (h : Yields P a.eval o w K) (hk : ∀ v w', K v w' → next (a.put o.dst v) w') : o.wp P a w next Q := by
  unfold Yields at h
  unfold Oper.wp
  generalize (execOp a.eval o).run P w = r at *
  cases r with
  | halt x w' => exact h.elim
  | ok n w' =>
    cases n <;> simp only [Oper.upon] at h ⊢
    case value v => exact hk v w' h
    case skip => exact hk _ w' h
    case enter f args => exact h.mono (fun e w'' he => by
      obtain ⟨v, rfl, hv⟩ := he
      exact hk v w'' hv)

/-- One operation. -/
theorem op_wp (TOK : TysOK P C.τ) (GOK : CtrsOK P C.Γ) {s : St} {a : Act} {w : World} (hs : IsSt R s a w) {o : Oper} {e : Eff} (he : opEff C.τ C.Γ (o.dst.getD 0) o (s.args o) = some e) (hn : e.ok) (hd : ∀ k, o.dst = some k → k < a.tmps.size)
    {next : Act → World → Prop} {Q : Exit → Act → World → Prop} (hnext : ∀ a' w', IsSt R (s.after o e) a' w' → Apart (fun t => o.dst = some t) s a (s.after o e) a' → next a' w') : o.wp P a w next Q := by
  obtain ⟨M, hM, hb, I, hr⟩ := hs
  rw [args_eq s o hb] at he
  have := opEff_sound TOK GOK I (eval_func a) (opRel_of hr o) he hn
  rw [hM] at this
  refine this.wp (fun v w' hv => ?_)
  obtain ⟨h1, h2⟩ := IsSt.after hM hb hr hd hv
  exact hnext _ _ h1 h2

theorem holds_bind {α β : Type} {Q : β → Prop} {k : α → Tree β} : ∀ {t : Tree α}, (t.bind k).holds Q ↔ t.holds fun a => (k a).holds Q
  | .leaf a => Iff.rfl
  | .br c t e => by
    simp only [Tree.bind, Tree.holds]
    rw [holds_bind (t := t), holds_bind (t := e)]
  | .need p t => by
    simp only [Tree.bind, Tree.holds]
    rw [holds_bind (t := t)]
  | .stuck => Iff.rfl

theorem holds_mono {α : Type} {Q Q' : α → Prop} (h : ∀ a, Q a → Q' a) : ∀ {t : Tree α}, t.holds Q → t.holds Q'
  | .leaf a, k => h a k
  | .br c t e, k => ⟨fun hc => holds_mono h (k.1 hc), fun hc => holds_mono h (k.2 hc)⟩
  | .need p t, k => ⟨k.1, holds_mono h k.2⟩
  | .stuck, k => k.elim

theorem holds_needO {α : Type} {Q : α → Prop} {p : Option Prop} {t : Tree α} : (Tree.needO p t).holds Q ↔ (∀ q, p = some q → q) ∧ t.holds Q := by
  cases p with
  | none => exact ⟨fun h => ⟨fun _ hq => (by cases hq), h⟩, fun h => h.2⟩
  | some q => exact ⟨fun h => ⟨fun q' hq => (by cases hq; exact h.1), h.2⟩, fun h => ⟨h.1 q rfl, h.2⟩⟩

/-- A region without guards. -/
theorem runOps_wp (TOK : TysOK P C.τ) (GOK : CtrsOK P C.Γ) {ops : Array Oper} {Q : Exit → Act → World → Prop} : ∀ (l : List Oper) (k : Nat) (s : St) (a : Act) (w : World) (F : St → Prop), (∀ i o, l[i]? = some o → ops[k + i]? = some o) →
    (∀ o ∈ l, o.guard = none ∧ ∀ d, o.dst = some d → d < a.tmps.size) → IsSt R s a w → (runOps C l s).holds F →
    (∀ s' a' w', F s' → IsSt R s' a' w' → Apart (fun t => ∃ o ∈ l, o.dst = some t) s a s' a' → Q .normal a' w') → wpOps P ops Q (List.range' k l.length) a w
  | [], k, s, a, w, F, _, _, hs, hF, hQ => by
    simp only [List.length_nil, List.range'_zero, wpOps]
    exact hQ s a w hF hs (Apart.refl _ _ _)
  | o :: l, k, s, a, w, F, hops, hl, hs, hF, hQ => by
    have ho : ops[k]? = some o := by simpa using hops 0 o (by simp)
    simp only [List.length_cons, List.range'_succ, wpOps, ho]
    obtain ⟨hg, hd⟩ := hl o (by simp)
    rw [if_pos (by simp [Region.wanted, hg])]
    refine .inl ?_
    simp only [runOps] at hF
    split at hF
    · exact hF.elim
    · rename_i e he
      obtain ⟨hn, hF⟩ := holds_needO.1 hF
      refine op_wp TOK GOK hs he hn hd (fun a' w' h1 h2 => ?_)
      refine runOps_wp TOK GOK l (k + 1) _ a' w' F (fun i o' hi => by have := hops (i + 1) o' (by simpa using hi); rwa [show k + 1 + i = k + (i + 1) by omega]) (fun o' ho' => ⟨(hl o' (by simp [ho'])).1, fun d hd' => by rw [h2.size]; exact (hl o' (by simp [ho'])).2 d hd'⟩) h1 hF
        (fun s' a'' w'' f1 f2 f3 => hQ s' a'' w'' f1 f2 ((h2.mono (fun t ht => ⟨o, by simp, ht⟩)).trans (f3.mono (fun t ⟨o', h3, h4⟩ => ⟨o', by simp [h3], h4⟩))))

theorem look_putO (s : St) (d : Option Nat) (v : AV) (t : Nat) : (s.putO d v).look t = if d = some t then v else s.look t := by
  cases d with
  | none => simp [St.putO]
  | some d =>
    simp only [St.putO, look_put, Option.some.injEq]
    by_cases h : t = d
    · rw [if_pos h, if_pos h.symm]
    · rw [if_neg h, if_neg (fun e => h e.symm)]
theorem boolAV_eq {v : AV} {x : Bool} (h : boolAV v = some x) : v = .val .bool x := by
  unfold boolAV at h
  split at h
  · simp only [Option.some.injEq] at h; rw [h]
  · cases h
theorem isSkip_eq {v : AV} (h : isSkip v = true) : v = .cst undef := by
  unfold isSkip at h
  split at h
  · rename_i a
    have : a = #[] := by simpa using h
    rw [this]; rfl
  · cases h
/-- A slot whose value is known anew. -/
theorem same_look {s s' : St} {a : Act} {w : World} (hb : s'.boxes = s.boxes) (hl : ∀ t, s'.look t = s.look t) (h : IsSt R s a w) : IsSt R s' a w := by
  obtain ⟨M, hM, hbs, I, hr⟩ := h
  exact ⟨M, hM, by rw [hb]; exact hbs, I, fun t => by rw [hl]; exact hr t⟩
theorem same_apart {W : Nat → Prop} {s s' : St} {a : Act} (hb : s'.boxes = s.boxes) (hl : ∀ t, s'.look t = s.look t) : Apart W s a s' a :=
  ⟨rfl, rfl, fun _ _ => rfl, fun t _ => .inr (hl t), fun b B h => by rw [← hb]; exact h⟩
theorem yielded_of {ops : Array Oper} {tmps : Array Value} {j d : Nat} (hj : (ops.toList[j]?).bind (·.dst) = some d) (x : Bool) (h : tmps.getD d undef = .bool x) : yielded ops tmps j = some x := by
  unfold yielded
  rw [← Array.getElem?_toList, hj]
  simp only [Option.bind_some]
  rw [Array.getD_eq_getD_getElem?] at h
  cases hh : tmps[d]? with
  | none => rw [hh] at h; simp [undef] at h
  | some v => rw [hh] at h; simp only [Option.getD_some] at h; rw [h]
theorem yielded_skip {ops : Array Oper} {tmps : Array Value} {j d : Nat} (hj : (ops.toList[j]?).bind (·.dst) = some d) (h : tmps.getD d undef = undef) : yielded ops tmps j = none := by
  unfold yielded
  rw [← Array.getElem?_toList, hj]
  simp only [Option.bind_some]
  rw [Array.getD_eq_getD_getElem?] at h
  cases hh : tmps[d]? with
  | none => rfl
  | some v => rw [hh] at h; simp only [Option.getD_some] at h; rw [h]; rfl

theorem skip_st {s : St} {a : Act} {w : World} {d : Option Nat} (hd : ∀ k, d = some k → k < a.tmps.size) (h : IsSt R s a w) : IsSt R (s.putO d (.cst undef)) (a.put d undef) w ∧ Apart (fun t => d = some t) s a (s.putO d (.cst undef)) (a.put d undef) := by
  obtain ⟨M, hM, hbs, I, hr⟩ := h
  have hb : (s.putO d (.cst undef)).boxes = s.boxes := by cases d <;> rfl
  refine ⟨⟨M, hM, by rw [hb]; exact hbs, I, fun t => ?_⟩, put_size _ _ _, put_defers' _ _ _, fun t ht => ?_, fun t ht => ?_, fun b B h => by rw [← hb]; exact h⟩
  · rw [look_putO, put_getD a d undef t hd]
    split
    · simp [RelV]
    · exact hr t
  · rw [put_getD a d undef t hd, if_neg ht]
  · rw [look_putO, if_neg ht]; exact .inr rfl

theorem holds_pickT {α : Type} {Q : α → Prop} {d x : Bool} {s t : Tree α} (h : (pickT d x s t).holds Q) : (x = true → s.holds Q) ∧ (x = false → t.holds Q) := by
  cases d with
  | false => exact h
  | true => cases x with
    | true => exact ⟨fun _ => h, nofun⟩
    | false => exact ⟨nofun, fun _ => h⟩

/-- A region with guards, way by way. -/
theorem runBr_wp (TOK : TysOK P C.τ) (GOK : CtrsOK P C.Γ) {ops : Array Oper} {Q : Exit → Act → World → Prop} : ∀ (l : List Oper) (k : Nat) (s : St) (a : Act) (w : World) (F : St → Prop), (∀ i o, l[i]? = some o → ops[k + i]? = some o) →
    (∀ o ∈ l, ∀ d, o.dst = some d → d < a.tmps.size) → IsSt R s a w → (runBr C ops.toList l s).holds F →
    (∀ s' a' w', F s' → IsSt R s' a' w' → Apart (fun t => ∃ o ∈ l, o.dst = some t) s a s' a' → Q .normal a' w') → wpOps P ops Q (List.range' k l.length) a w
  | [], k, s, a, w, F, _, _, hs, hF, hQ => by
    simp only [List.length_nil, List.range'_zero, wpOps]
    exact hQ s a w hF hs (Apart.refl _ _ _)
  | o :: l, k, s, a, w, F, hops, hl, hs, hF, hQ => by
    have ho : ops[k]? = some o := by simpa using hops 0 o (by simp)
    have hd := hl o (by simp)
    have hops' : ∀ i o', l[i]? = some o' → ops[k + 1 + i]? = some o' := fun i o' hi => by
      have := hops (i + 1) o' (by simpa using hi); rwa [show k + 1 + i = k + (i + 1) by omega]
    simp only [List.length_cons, List.range'_succ, wpOps, ho]
    -- it is carried out
    have run : ∀ s1 : St, s1.boxes = s.boxes → (∀ t, s1.look t = s.look t) → ∀ e, opEff C.τ C.Γ (o.dst.getD 0) o (s1.args o) = some e → (Tree.needO e.need (runBr C ops.toList l (s1.after o e))).holds F →
        o.wp P a w (wpOps P ops Q (List.range' (k + 1) l.length)) Q := by
      intro s1 hb1 hl1 e he hF1
      obtain ⟨hn, hF2⟩ := holds_needO.1 hF1
      refine op_wp TOK GOK (same_look hb1 hl1 hs) he hn hd (fun a' w' h1 h2 => ?_)
      refine runBr_wp TOK GOK l (k + 1) _ a' w' F hops' (fun o' ho' d hd' => by rw [h2.size]; exact hl o' (by simp [ho']) d hd') h1 hF2
        (fun s' a'' w'' f1 f2 f3 => hQ s' a'' w'' f1 f2 (((same_apart hb1 hl1).trans (h2.mono (fun t ht => ⟨o, by simp, ht⟩))).trans (f3.mono (fun t ⟨o', h3, h4⟩ => ⟨o', by simp [h3], h4⟩))))
    have skip : ∀ s1 : St, s1.boxes = s.boxes → (∀ t, s1.look t = s.look t) → (runBr C ops.toList l (s1.putO o.dst (.cst (.tuple #[])))).holds F → wpOps P ops Q (List.range' (k + 1) l.length) (a.put o.dst undef) w := by
      intro s1 hb1 hl1 hF1
      obtain ⟨h1, h2⟩ := skip_st hd (same_look hb1 hl1 hs)
      refine runBr_wp TOK GOK l (k + 1) _ _ w F hops' (fun o' ho' d hd' => by rw [h2.size]; exact hl o' (by simp [ho']) d hd') h1 hF1
        (fun s' a'' w'' f1 f2 f3 => hQ s' a'' w'' f1 f2 (((same_apart hb1 hl1).trans (h2.mono (fun t ht => ⟨o, by simp, ht⟩))).trans (f3.mono (fun t ⟨o', h3, h4⟩ => ⟨o', by simp [h3], h4⟩))))
    simp only [runBr] at hF
    split at hF
    · rename_i hg
      rw [if_pos (by simp [Region.wanted, hg])]
      split at hF
      · exact hF.elim
      · rename_i e he
        exact .inl (run s rfl (fun _ => rfl) e he hF)
    · rename_i j wnt hg
      split at hF
      · exact hF.elim
      · rename_i d hj
        have hrel : ∃ M : Mem, RelV M (s.look d) (a.tmps.getD d undef) := by
          obtain ⟨M, _, _, _, hr⟩ := hs
          exact ⟨M, hr d⟩
        obtain ⟨M, hrel⟩ := hrel
        split at hF
        · rename_i _ x hx
          have hv := boolAV_eq hx
          rw [hv] at hrel
          have hy := yielded_of hj x (relBool hrel)
          simp only [Region.wanted, hg, hy]
          cases hxw : x == wnt with
          | true =>
            have hx' : x = wnt := by simpa using hxw
            subst hx'
            have hF1 := (holds_pickT hF).1 hxw
            rw [if_pos (by simp)]
            split at hF1
            · exact hF1.elim
            · rename_i e he
              refine .inl (run (s.put d (.val .bool x)) rfl (fun t => ?_) e he hF1)
              rw [look_put]
              split
              · rename_i ht; subst ht; exact hv.symm
              · rfl
          | false =>
            have hx' : x = !wnt := by cases x <;> cases wnt <;> simp_all
            subst hx'
            have hF1 := (holds_pickT hF).2 hxw
            rw [if_neg (by simp)]
            refine skip (s.put d (.val .bool (!wnt))) rfl (fun t => ?_) hF1
            rw [look_put]
            split
            · rename_i ht; subst ht; exact hv.symm
            · rfl
        · rename_i hb hsk
          have hv := isSkip_eq hsk
          rw [hv] at hrel
          have hy := yielded_skip hj hrel
          simp only [Region.wanted, hg, hy]
          rw [if_neg (by simp)]
          exact skip s rfl (fun _ => rfl) hF
        · exact hF.elim
end
end Go.Ev
