/- A channel with room, used by one goroutine alone: the pieces of code beside it are told by the evaluator. -/
import Derived.Conc.LoneCalls
import Derived.Conc.SmallLaws
import Derived.Test.YtohodbfoeejbjaaDoorTextValidPairs5

set_option linter.unusedVariables false
set_option linter.unusedSimpArgs false
namespace Go.Ev
open Go.Conc

section
variable {P : Program} {C : Ctx} {b : Frame}

/-- From the code on, in this frame. -/
def CodeTo (P : Program) (b : Frame) (c : Code) (Q : Exit → Act → World → Prop) (a : Act) (w : World) : Prop :=
  ∀ (k : List Item) (cs : List Frame), ∃ e a' w', Q e a' w' ∧ Arrives P (lone (b.at a (.code c :: k)) cs w) b k cs e a' w'
/-- From so many operations of a region on. -/
def RegTo (P : Program) (b : Frame) (ops : Array Oper) (l : List Nat) (Q : Exit → Act → World → Prop) (a : Act) (w : World) : Prop :=
  ∀ (k : List Item) (cs : List Frame), ∃ e a' w', Q e a' w' ∧ Arrives P (lone (b.at a (.inRegion ops l :: k)) cs w) b k cs e a' w'

variable {Q : Exit → Act → World → Prop} {a : Act} {w : World} {ops : Array Oper} {l : List Nat}

theorem CodeTo.of_wp {c : Code} (h : c.wp P Q a w) : CodeTo P b c Q a w := fun k cs => h b k cs
theorem CodeTo.mono {c : Code} {Q' : Exit → Act → World → Prop} (h : CodeTo P b c Q a w) (hq : ∀ e a w, Q e a w → Q' e a w) : CodeTo P b c Q' a w := fun k cs =>
  let ⟨e, a', w', h1, h2⟩ := h k cs; ⟨e, a', w', hq _ _ _ h1, h2⟩
theorem CodeTo.cond {c : Operand} {x y : Code} {t : Bool} (hc : a.eval c = .bool t) (h : CodeTo P b (if t then x else y) Q a w) : CodeTo P b (.cond c x y) Q a w := fun k cs =>
  let ⟨e, a', w', q, r⟩ := h k cs; ⟨e, a', w', q, .of_steps (.one (step_cond hc)) r⟩
theorem CodeTo.region {id : Nat} (h : RegTo P b ops (List.range ops.size) Q a w) : CodeTo P b (.region id ops false) Q a w := fun k cs =>
  let ⟨e, a', w', q, r⟩ := h k cs; ⟨e, a', w', q, .of_steps (.one step_region) r⟩
theorem CodeTo.skip (h : Q .normal a w) : CodeTo P b .skip Q a w := CodeTo.of_wp (wp_skip h)

/-- Codes one behind the other. -/
def LTo (P : Program) (b : Frame) : List Code → (Exit → Act → World → Prop) → Act → World → Prop
  | [], Q, a, w => Q .normal a w
  | c :: l, Q, a, w => CodeTo P b c (Exit.then (LTo P b l Q) Q) a w
def seqs : Code → List Code
  | .seq x y => seqs x ++ seqs y
  | c => [c]

theorem CodeTo.seq {x y : Code} (h : CodeTo P b x (Exit.then (CodeTo P b y Q) Q) a w) : CodeTo P b (.seq x y) Q a w := by
  intro k cs
  obtain ⟨e, a₁, w₁, hq, harr⟩ := h (.code y :: k) cs
  cases e with
  | normal =>
    obtain ⟨e, a₂, w₂, hq', harr'⟩ := hq k cs
    exact ⟨e, a₂, w₂, hq', .of_steps (.one step_seq) (.of_steps harr harr')⟩
  | exit id => exact ⟨_, a₁, w₁, hq, .of_steps (.one step_seq) (.pass (x := .code y) rfl (fun _ _ => .inl (by simp)) harr)⟩
  | goto id => exact ⟨_, a₁, w₁, hq, .of_steps (.one step_seq) (.pass (x := .code y) rfl (fun _ _ => .inl (by simp)) harr)⟩
  | ret => exact ⟨_, a₁, w₁, hq, .of_steps (.one step_seq) (.pass (x := .code y) rfl (fun _ _ => .inl (by simp)) harr)⟩
  | panic c => exact ⟨_, a₁, w₁, hq, .of_steps (.one step_seq) (.pass (x := .code y) rfl (fun _ _ => .inl (by simp)) harr)⟩
  | outgrown => exact ⟨_, a₁, w₁, hq, .of_steps (.one step_seq) (.pass (x := .code y) rfl (fun _ _ => .inl (by simp)) harr)⟩

theorem then_id {c : Code} (h : CodeTo P b c (Exit.then (LTo P b [] Q) Q) a w) : CodeTo P b c Q a w := h.mono fun e a w hq => by cases e <;> exact hq
theorem lto_append : ∀ {l r : List Code} {Q : Exit → Act → World → Prop} {a : Act} {w : World}, LTo P b (l ++ r) Q a w → LTo P b l (Exit.then (LTo P b r Q) Q) a w
  | [], _, _, _, _, h => h
  | c :: l, r, Q, a, w, h => CodeTo.mono (c := c) h fun e a' w' hq => by
      cases e with
      | normal => exact lto_append (l := l) hq
      | _ => exact hq
theorem LTo.mono : ∀ {l : List Code} {Q Q' : Exit → Act → World → Prop} {a : Act} {w : World}, LTo P b l Q a w → (∀ e a w, Q e a w → Q' e a w) → LTo P b l Q' a w
  | [], _, _, _, _, h, hq => hq _ _ _ h
  | c :: l, Q, Q', a, w, h, hq => CodeTo.mono (c := c) h fun e a' w' h' => by
      cases e with
      | normal => exact LTo.mono (l := l) h' hq
      | _ => exact hq _ _ _ h'
theorem CodeTo.seqs : ∀ {c : Code} {Q : Exit → Act → World → Prop} {a : Act} {w : World}, LTo P b (Ev.seqs c) Q a w → CodeTo P b c Q a w
  | .seq x y, Q, a, w, h => CodeTo.seq (CodeTo.mono (CodeTo.seqs (c := x) (lto_append h)) fun e a' w' hq => by
      cases e with
      | normal => exact CodeTo.seqs (c := y) hq
      | _ => exact hq)
  | .skip, _, _, _, h | .region .., _, _, _, h | .cond .., _, _, _, h | .block .., _, _, _, h | .loop _, _, _, _, h | .rangeFunc .., _, _, _, h | .exit _, _, _, _, h | .scope _, _, _, _, h | .label _, _, _, _, h | .goto _, _, _, _, h | .ret, _, _, _, h | .refuse _, _, _, _, h => then_id h

/-- Codes that the evaluator tells. -/
def evL (C : Ctx) : List Code → St → Tree (Ex × St)
  | [], s => .leaf (.normal, s)
  | c :: l, s => (ev C c s).bind fun p => match p.1 with
    | .normal => evL C l p.2
    | e => .leaf (e, p.2)

theorem evL_to (TOK : TysOK P C.τ) (GC : CtrsOK P C.Γ) (hmix : P.follows .mixedOrders = true) {R : Ref} {F : Ex × St → Prop} {rest : List Code} : ∀ (l : List Code) (s : St) (a : Act) (w : World), (∀ c ∈ l, LamOK C c) → (∀ c ∈ l, ∀ t ∈ writes c, t < a.tmps.size) → IsSt R s a w → (evL C l s).holds F →
    (∀ z s' a' w', F (z, s') → IsSt R s' a' w' → a'.tmps.size = a.tmps.size → a'.defers = a.defers → (∀ t, (∀ c ∈ l, t ∉ writes c) → a'.tmps.getD t undef = a.tmps.getD t undef) → match z with
      | .normal => LTo P b rest Q a' w'
      | z => Q z.to a' w') → LTo P b (l ++ rest) Q a w
  | [], s, a, w, _, _, hs, hF, hQ => hQ .normal s a w hF hs rfl rfl (fun _ _ => rfl)
  | c :: l, s, a, w, hl, hsz, hs, hF, hQ => by
    have hF' := holds_bind.1 hF
    have := (ev_ok TOK GC hmix c (hl c (by simp))).1 R s a w _ hs (hsz c (by simp)) hF'
    refine (CodeTo.of_wp this).mono ?_
    rintro e a1 w1 ⟨z, s1, rfl, h1, h2, h3⟩
    cases z with
    | normal =>
      exact evL_to TOK GC hmix l s1 a1 w1 (fun c' hc' => hl c' (by simp [hc'])) (fun c' hc' t ht => by rw [h3.size]; exact hsz c' (by simp [hc']) t ht) h2 h1
        (fun z s' a' w' f1 f2 f3 f4 f5 => hQ z s' a' w' f1 f2 (f3.trans h3.size) (f4.trans h3.defers) (fun t ht => (f5 t (fun c' hc' => ht c' (by simp [hc']))).trans (h3.tmps t (ht c (by simp)))))
    | exit id => exact hQ (.exit id) s1 a1 w1 h1 h2 h3.size h3.defers (fun t ht => h3.tmps t (ht c (by simp)))
    | ret => exact hQ .ret s1 a1 w1 h1 h2 h3.size h3.defers (fun t ht => h3.tmps t (ht c (by simp)))

/-! Regions, operation by operation -/

theorem RegTo.nil (h : Q .normal a w) : RegTo P b ops [] Q a w := fun k cs => ⟨.normal, a, w, h, .one step_region_end⟩
theorem RegTo.value {i : Nat} {o : Oper} {v : Value} {w' : World} (ho : ops[i]? = some o) (hg : o.guard = none) (hr : (execOp a.eval o).run P w = .ok (.value v) w') (h : RegTo P b ops l Q (a.put o.dst v) w') : RegTo P b ops (i :: l) Q a w := by
  intro k cs
  obtain ⟨e, a', w'', hq, harr⟩ := h k cs
  have hw : Region.wanted o (yielded ops a.tmps) = true := by simp [Region.wanted, hg]
  have hgo := stepG_op (P := P) (b := b) (k := k) (cs := cs) (w := w) (rest := l) ho hw
  have hfin : ∀ v, (b.at a (.inRegion ops (i :: l) :: k)).finish v = b.at (a.put o.dst v) (.inRegion ops l :: k) := by
    intro v; rw [Frame.finish_at, ho]; rfl
  refine ⟨e, a', w'', hq, .of_steps (.one (step_lone_go ?_)) harr⟩
  rw [hgo, ← hfin]
  simp [stepG.apply, hr]

theorem RegTo.send {i : Nat} {o : Oper} {x y : Operand} {c cap s r : Nat} {buf : Array Value} {tm : Bool} {v : Value} (ho : ops[i]? = some o) (hg : o.guard = none) (hb : b.kind ≠ .early) (hop : o.op = .send x y) (hx : a.eval x = .chan (some c)) (hy : a.eval y = v)
    (hc : w.heap[c]? = some (.chan cap buf false s r tm)) (hroom : buf.size < cap) (h : RegTo P b ops l Q (a.put o.dst undef) (w.setChan c cap (buf.push v) false (s + 1) r tm)) : RegTo P b ops (i :: l) Q a w := by
  intro k cs
  obtain ⟨e, a', w'', hq, harr⟩ := h k cs
  have hw : Region.wanted o (yielded ops a.tmps) = true := by simp [Region.wanted, hg]
  refine ⟨e, a', w'', hq, .of_steps (.one ?_) harr⟩
  have hst := step_lone_send_room (P := P) (fr := b.at a (.inRegion ops (i :: l) :: k)) (cs := cs) (w := w) (stepG_comm (cases := #[scase c v (.tuple #[])]) (blocking := true) (shape := .send) (w' := w) ho hw hb (by
    unfold execOp
    rw [hop]
    simp only [hx, hy]
    simp [scase])) hc hroom
  rw [lone_eq_solo, hst, Frame.finish_at, ho]
  rfl

theorem step_lone_select_recv {fr : Frame} {cs : List Frame} {w w₁ : World} {es : Array Event} {c cap s r : Nat} {buf : Array Value} {z : Value} {tm : Bool} (h : stepG P true (G fr cs) w = .comm (G fr cs) #[rcase c z] false .select w₁ es) (hc : w₁.heap[c]? = some (.chan cap buf false s r tm)) (hsome : 0 < buf.size) :
    step P (solo (G fr cs) w) = .next (solo (G (fr.finish (.tuple #[goInt 0, .bool true, buf.getD 0 undef])) cs) (w₁.setChan c cap (buf.extract 1 buf.size) false s (r + 1) tm)) := by
  have hp := partners_alone (c := c) true
  rw [step, stepT_solo rfl]
  simp [runT, solo, G, Array.swapAt!, Array.swapAt, h, GStep.es, communicate, ways, rcase, hc, hp, hsome, choose, Sem.run, Question.forced, bind, Sem.bind, pure, Goroutine.finishComm, commResult, World.setChan] at h ⊢

theorem RegTo.select_none {i : Nat} {o : Oper} {c cap s r : Nat} {tm : Bool} {z : Value} (ho : ops[i]? = some o) (hg : o.guard = none) (hb : b.kind ≠ .early) (hex : (execOp a.eval o).run P w = .ok (.comm #[rcase c z] false .select) w)
    (hc : w.heap[c]? = some (.chan cap #[] false s r tm)) (h : RegTo P b ops l Q (a.put o.dst (.tuple #[goInt (-1), .bool false, z])) w) : RegTo P b ops (i :: l) Q a w := by
  intro k cs
  obtain ⟨e, a', w'', hq, harr⟩ := h k cs
  have hw : Region.wanted o (yielded ops a.tmps) = true := by simp [Region.wanted, hg]
  refine ⟨e, a', w'', hq, .of_steps (.one ?_) harr⟩
  have hst := step_lone_select_default (P := P) (fr := b.at a (.inRegion ops (i :: l) :: k)) (cs := cs) (w := w) (stepG_comm (cases := #[rcase c z]) (blocking := false) (shape := .select) (w' := w) ho hw hb hex) hc
  rw [lone_eq_solo, hst, Frame.finish_at, ho]
  rfl
theorem RegTo.select_recv {i : Nat} {o : Oper} {c cap s r : Nat} {tm : Bool} {buf : Array Value} {z : Value} (ho : ops[i]? = some o) (hg : o.guard = none) (hb : b.kind ≠ .early) (hex : (execOp a.eval o).run P w = .ok (.comm #[rcase c z] false .select) w)
    (hc : w.heap[c]? = some (.chan cap buf false s r tm)) (hsome : 0 < buf.size) (h : RegTo P b ops l Q (a.put o.dst (.tuple #[goInt 0, .bool true, buf.getD 0 undef])) (w.setChan c cap (buf.extract 1 buf.size) false s (r + 1) tm)) : RegTo P b ops (i :: l) Q a w := by
  intro k cs
  obtain ⟨e, a', w'', hq, harr⟩ := h k cs
  have hw : Region.wanted o (yielded ops a.tmps) = true := by simp [Region.wanted, hg]
  refine ⟨e, a', w'', hq, .of_steps (.one ?_) harr⟩
  have hst := step_lone_select_recv (P := P) (fr := b.at a (.inRegion ops (i :: l) :: k)) (cs := cs) (w := w) (stepG_comm (cases := #[rcase c z]) (blocking := false) (shape := .select) (w' := w) ho hw hb hex) hc hsome
  rw [lone_eq_solo, hst, Frame.finish_at, ho]
  rfl

/-! The frame of a call -/
theorem calls_of_to {f : FuncId} {fn : Func} {c : Code} {args : Array Value} {R : Ending → World → Prop} (hf : P.funcs[f]? = some fn) (hb : fn.body = some c)
    (h : CodeTo P { (default : Frame) with fn := f, kind := .normal } c (fun e a' w' => (e = .normal ∨ e = .ret) ∧ a'.defers = [] ∧ ∃ v, (results fn a'.tmps).run P w' = .ok v w' ∧ R (.returned v) w') { tmps := args ++ Array.replicate (fn.ntmps - args.size) undef, defers := [] } w) : Calls P f args w R := by
  intro cs
  have henter : Frame.enter P f args .normal = ({ (default : Frame) with fn := f, kind := .normal } : Frame).at { tmps := args ++ Array.replicate (fn.ntmps - args.size) undef, defers := [] } [.code c] := by
    simp [Frame.enter, Frame.at, hf, hb]
  obtain ⟨e, a', w', ⟨he, hd, v, hr, hR⟩, harr⟩ := h [] cs
  rw [← henter] at harr
  rcases he with rfl | rfl
  · exact ⟨.returned v, w', _, hR, Steps.trans harr (.one step_end), rfl, rfl, hd, rfl, fn, hf, hr⟩
  · obtain ⟨todo, hs⟩ := harr
    exact ⟨.returned v, w', _, hR, hs, rfl, rfl, hd, rfl, fn, hf, hr⟩

/-! Another world to start from, but for one block -/
theorem IsSt.frame {R : Ref} {s : St} {a : Act} {w : World} (h : IsSt R s a w) {k : Nat} (hk : k < R.w0.heap.size) (ho : ¬ R.own k) : w.heap[k]? = R.w0.heap[k]? := by
  obtain ⟨M, rfl, _, I, _⟩ := h
  exact I.frame k hk ho
theorem IsSt.grow {R : Ref} {s : St} {a : Act} {w : World} (h : IsSt R s a w) : R.w0.heap.size ≤ w.heap.size := by
  obtain ⟨M, rfl, _, I, _⟩ := h
  exact I.size

theorem rebase {R : Ref} {s : St} {a : Act} {w w' : World} (h : IsSt R s a w) (c : Nat) (hos : w'.os = w.os) (htape : w'.tape = w.tape) (hout : w'.output = w.output) (hsz : w.heap.size ≤ w'.heap.size)
    (hcell : ∀ k, k < w.heap.size → k ≠ c → w'.heap[k]? = w.heap[k]?) (hnew : R.w0.heap.size ≤ c) (hchan : ∀ cs t fr, w.heap[c]? ≠ some (.cells cs t fr)) (hchan' : ∀ cs t fr, w'.heap[c]? ≠ some (.cells cs t fr)) :
    ∃ R' : Ref, R'.w0 = w' ∧ ¬ R'.own c ∧ IsSt R' s a w' ∧ ∀ s2 a2 w2, IsSt R' s2 a2 w2 → IsSt R s2 a2 w2 := by
  obtain ⟨M, rfl, hb, I, hr⟩ := h
  have hblk' : ∀ b d B, lk b M.bs = some (d, B) → ∀ k, blkOf (M.β b) = some k → k ≠ c := by
    intro b d B hB k hk hkc
    subst hkc
    have hRB := I.boxes b d B hB
    cases B with
    | var g x =>
      obtain ⟨blk, cs, e, h1, h2, _⟩ := hRB
      rw [h1] at hk
      simp [blkOf] at hk
      subst hk
      exact hchan _ _ _ h2
    | row e g xs fz =>
      obtain ⟨cs, ho, _⟩ := hRB
      rcases ho.2 with ⟨hv, _⟩ | ⟨g', cap, cur, hv, _, h2, _⟩
      · rw [hv] at hk; simp [blkOf] at hk
      · rw [hv] at hk
        simp [blkOf] at hk
        subst hk
        exact hchan _ _ _ h2
  have nocell : ∀ (v : World) (o : Nat), (∀ cs t fr, v.heap[c]? ≠ some (.cells cs t fr)) → v.cell? ⟨c, o, none⟩ = none := by
    intro v o hv
    unfold World.cell?
    split
    · rename_i cc t fr hcc
      exact absurd hcc (hv _ _ _)
    · rfl
  have hk : Keeps M.S M.S M.w w' := by
    intro k o hS
    refine ⟨hS, ?_⟩
    by_cases hkc : k = c
    · subst hkc
      rw [nocell _ o hchan, nocell _ o hchan']
    · exact cell_of_heap (hcell k (I.here k o hS).2 hkc)
  have ref : ∀ {R1 R2 : Ref} {v : Value} {B : Box} {W : World} {S : Stab}, (∀ blk, R1.new blk → blkOf v = some blk → R2.new blk) → RelB R1 W S v B → RelB R2 W S v B := by
    intro R1 R2 v B W S hn hB
    cases B with
    | var g x =>
      obtain ⟨blk, cs, e, h1, h2, h3, h4, h5⟩ := hB
      exact ⟨blk, cs, e, h1, h2, h3, h4, hn blk h5 (by rw [h1]; rfl)⟩
    | row e g xs fz =>
      obtain ⟨cs, h1, h2, h3, h4, h5, h6⟩ := hB
      exact ⟨cs, h1, h2, h3, h4, h5, fun blk hb => ⟨hn blk (h6 blk hb).1 hb, (h6 blk hb).2⟩⟩
  have st : Step M { M with w := w' } (fun _ => False) := ⟨hk, fun b d B h _ => ⟨d, B, h, rfl, Box.le_refl B⟩⟩
  refine ⟨⟨w', fun k => R.new k ∧ k ≠ c, M.S, (R.tab.keeps I.old).keeps hk⟩, rfl, fun h => h.2 rfl, ?_, ?_⟩
  · refine ⟨{ M with w := w' }, rfl, hb, ⟨rfl, rfl, rfl, Nat.le_refl _, fun _ _ _ => rfl, Keeps.refl _ _, fun b o hs => ⟨.inl hs, Nat.lt_of_lt_of_le (I.here b o hs).2 hsz⟩, fun b d B hB => ?_, I.sep⟩, fun t => (hr t).step st (fun b hb => hb.elim)⟩
    have hRB := I.boxes b d B hB
    have hm := hRB.move hk (fun blk hblk => hcell blk (hRB.lt blk hblk) (hblk' b d B hB blk hblk)) (fun blk o hblk hs => hs)
    exact ref (fun blk hn hv => .inr ⟨hn, hblk' b d B hB blk hv⟩) hm
  · rintro s2 a2 w2 ⟨M2, rfl, hb2, I2, hr2⟩
    refine ⟨M2, rfl, hb2, ⟨I2.os.trans (hos.trans I.os), I2.tape.trans (htape.trans I.tape), I2.output.trans (hout.trans I.output), Nat.le_trans I.size (Nat.le_trans hsz I2.size), ?_, I.old.trans (hk.trans I2.old), ?_, ?_, I2.sep⟩, hr2⟩
    · intro k h1 h2
      have hkc : k ≠ c := by omega
      have hno : ¬ (R.new k ∧ k ≠ c) := by
        rintro ⟨h3 | h3, _⟩
        · omega
        · exact h2 h3
      have h4 : k < M.w.heap.size := Nat.lt_of_lt_of_le h1 I.size
      exact (I2.frame k (Nat.lt_of_lt_of_le h4 hsz) hno).trans ((hcell k h4 hkc).trans (I.frame k h1 h2))
    · intro b o hs
      obtain ⟨h1, h2⟩ := I2.here b o hs
      refine ⟨?_, h2⟩
      rcases h1 with h1 | h1 | h1
      · exact (I.here b o h1).1
      · exact .inr (.inl (Nat.le_trans (Nat.le_trans I.size hsz) h1))
      · exact .inr h1.1
    · intro b d B hB
      refine ref (fun blk hn _ => ?_) (I2.boxes b d B hB)
      rcases hn with h1 | h1
      · exact .inl (Nat.le_trans (Nat.le_trans I.size hsz) h1)
      · exact h1.1

/-! A call's beginning, and its end -/
theorem start_st {w : World} {S : Stab} {us : List Value} {gs : List GTy} {x : dens gs} (hS : ∀ b o, S b o → b < w.heap.size) (hT : Tab S w) (henc : EncD w S gs x us) (n : Nat) :
    IsSt ⟨w, fun _ => False, S, hT⟩ { tmps := number 0 (resL gs x), boxes := [] } { tmps := us.toArray ++ Array.replicate (n - us.toArray.size) undef, defers := [] } w := by
  let R : Ref := ⟨w, fun _ => False, S, hT⟩
  let M : Mem := ⟨w, S, fun _ => undef, []⟩
  have I : InvM R M := ⟨rfl, rfl, rfl, Nat.le_refl _, fun _ _ _ => rfl, Keeps.refl _ _, fun b o hs => ⟨.inl hs, hS b o hs⟩, fun b d B hb => by simp [M, lk] at hb, fun b c d B d' B' _ hb => by simp [M, lk] at hb⟩
  have hrl := resL_rel (M := M) (gs := gs) (x := x) (us := us) henc
  refine ⟨M, rfl, rfl, I, fun t => ?_⟩
  show RelV M ((lk t (number 0 (resL gs x))).getD .undef) _
  rw [lk_number]
  simp only [Nat.zero_le, if_true, Nat.sub_zero]
  cases hv : (resL gs x)[t]? with
  | none => simp [RelV]
  | some v =>
    obtain ⟨u, h1, h2⟩ := hrl.get t hv
    have hlt := (List.getElem?_eq_some_iff.1 h1).1
    have : (us.toArray ++ Array.replicate (n - us.toArray.size) undef).getD t undef = u := by
      simp only [Array.getD_eq_getD_getElem?]
      rw [Array.getElem?_append_left (by simpa using hlt)]
      simp [h1]
    rw [this]
    simpa using h2

theorem finish_st (TOK : TysOK P C.τ) {w w' : World} {S : Stab} {hT : Tab S w} {s' : St} {a' : Act} {fn : Func} {res : List GTy} {y : dens res} (hs : IsSt ⟨w, fun _ => False, S, hT⟩ s' a' w') (hF : (evRes C fn res (.normal, s')).holds (fun z => z = y)) :
    ∃ v, (results fn a'.tmps).run P w' = .ok v w' ∧ ∃ v', Ending.returned v = Ending.returned v' ∧ Grows w w' ∧ ∃ N : Stab, (∀ b o, N b o → w.heap.size ≤ b ∧ b < w'.heap.size) ∧ RelRes w' (fun b o => S b o ∨ N b o) res y v' := by
  obtain ⟨M', rfl, hb', I', hr'⟩ := hs
  simp only [evRes] at hF
  split at hF
  · exact hF.elim
  rename_i aas has
  split at hF
  · exact hF.elim
  rename_i z ws htk
  simp only [Tree.holds] at hF
  subst hF
  obtain ⟨us', q1, q2⟩ := resArgs_sound TOK I' hb' hr' has
  obtain ⟨_, S', fz, henc'⟩ := takes_sound I' q2 htk
  refine ⟨_, results_run q1, _, rfl, ⟨I'.os, I'.tape, I'.output, I'.size, fun k hk => I'.frame k hk id⟩, fun b o => S' b o ∧ w.heap.size ≤ b, fun b o hN => ⟨hN.2, (fz.inv.here b o hN.1).2⟩, us', ?_, by rcases us' with _ | ⟨u, _ | ⟨v, us⟩⟩ <;> rfl⟩
  refine henc'.keeps (fun b o hs => ⟨?_, rfl⟩)
  rcases (fz.inv.here b o hs).1 with h3 | h3 | h3
  · exact .inl h3
  · exact .inr ⟨hs, h3⟩
  · exact h3.elim

/-! Slots that nothing is known of -/
theorem IsSt.put_undef {R : Ref} {s : St} {d : Nat} {v : Value} (h : IsSt R s a w) (hd : s.look d = .undef) (hsz : d < a.tmps.size) : IsSt R s (a.put (some d) v) w := by
  obtain ⟨M, hM, hb, I, hr⟩ := h
  refine ⟨M, hM, hb, I, fun t => ?_⟩
  rw [put_getD a (some d) v t (fun k hk => by cases hk; exact hsz)]
  split
  · rename_i ht
    cases ht
    rw [hd]; simp [RelV]
  · exact hr t
theorem IsSt.put_known {R : Ref} {s : St} {d : Nat} {v : Value} {av : AV} (h : IsSt R s a w) (hv : ∀ M, RelV M av v) (hsz : d < a.tmps.size) : IsSt R (s.put d av) (a.put (some d) v) w := by
  obtain ⟨M, hM, hb, I, hr⟩ := h
  refine ⟨M, hM, hb, I, fun t => ?_⟩
  rw [put_getD a (some d) v t (fun k hk => by cases hk; exact hsz), look_put]
  by_cases ht : t = d
  · subst ht
    simp [hv]
  · rw [if_neg ht, if_neg (fun e => ht (by cases e; rfl))]
    exact hr t
theorem IsSt.grows {R : Ref} {s : St} {w' : World} (h : IsSt R s a w) (g : Grows w w') : IsSt R s a w' := by
  obtain ⟨M, rfl, hb, I, hr⟩ := h
  obtain ⟨I2, st⟩ := I.grow g
  exact ⟨{ M with w := w' }, rfl, hb, I2, fun t => (hr t).steps st⟩
theorem put_same {d t : Nat} {v : Value} (hsz : d < a.tmps.size) (h : t ≠ d) : (a.put (some d) v).tmps.getD t undef = a.tmps.getD t undef := by
  rw [put_getD a (some d) v t (fun k hk => by cases hk; exact hsz), if_neg (fun e => h (by cases e; rfl))]
theorem put_at {d : Nat} {v : Value} (hsz : d < a.tmps.size) : (a.put (some d) v).tmps.getD d undef = v := by
  rw [put_getD a (some d) v d (fun k hk => by cases hk; exact hsz), if_pos rfl]

theorem RegTo.yields {i : Nat} {o : Oper} {K : Value → World → Prop} (ho : ops[i]? = some o) (hg : o.guard = none) (h : Yields P a.eval o w K) (hk : ∀ v w', K v w' → RegTo P b ops l Q (a.put o.dst v) w') : RegTo P b ops (i :: l) Q a w := by
  intro k cs
  have hw : Region.wanted o (yielded ops a.tmps) = true := by simp [Region.wanted, hg]
  have hgo := stepG_op (P := P) (b := b) (k := k) (cs := cs) (w := w) (rest := l) ho hw
  have hfin : ∀ v, (b.at a (.inRegion ops (i :: l) :: k)).finish v = b.at (a.put o.dst v) (.inRegion ops l :: k) := by
    intro v; rw [Frame.finish_at, ho]; rfl
  unfold Yields at h
  split at h
  · rename_i v w' hr
    obtain ⟨e, a', w'', hq, harr⟩ := hk v w' h k cs
    refine ⟨e, a', w'', hq, .of_steps (.one (step_lone_go ?_)) harr⟩
    rw [hgo, ← hfin]; simp [stepG.apply, hr]
  · rename_i w' hr
    obtain ⟨e, a', w'', hq, harr⟩ := hk undef w' h k cs
    refine ⟨e, a', w'', hq, .of_steps (.one (step_lone_go ?_)) harr⟩
    rw [hgo, ← hfin]; simp [stepG.apply, hr]
  · rename_i f args w' hr
    obtain ⟨e, w'', fr, ⟨v, rfl, hv⟩, hsteps, _, hleave⟩ := h (b.at a (.inRegion ops (i :: l) :: k) :: cs)
    have henter : step P (lone (b.at a (.inRegion ops (i :: l) :: k)) cs w) = .next (lone (Frame.enter P f args .normal) (b.at a (.inRegion ops (i :: l) :: k) :: cs) w') :=
      step_lone_go (by rw [hgo]; simp [stepG.apply, hr, Frame.at])
    obtain ⟨e, a', w₃, hq, harr⟩ := hk v w'' hv k cs
    refine ⟨e, a', w₃, hq, .of_steps (.head henter (hsteps.trans (.one ?_))) harr⟩
    rw [← hfin]; exact step_leave_returned hleave
  · exact h.elim

theorem RegTo.op (TOK : TysOK P C.τ) (GOK : CtrsOK P C.Γ) {R : Ref} {s : St} {i : Nat} {o : Oper} {e : Eff} (ho : ops[i]? = some o) (hg : o.guard = none) (hs : IsSt R s a w) (he : opEff C.τ C.Γ (o.dst.getD 0) o (s.args o) = some e) (hn : e.ok) (hd : ∀ k, o.dst = some k → k < a.tmps.size)
    (hnext : ∀ a' w', IsSt R (s.after o e) a' w' → Apart (fun t => o.dst = some t) s a (s.after o e) a' → RegTo P b ops l Q a' w') : RegTo P b ops (i :: l) Q a w := by
  obtain ⟨M, hM, hb, I, hr⟩ := hs
  rw [args_eq s o hb] at he
  have := opEff_sound TOK GOK I (eval_func a) (opRel_of hr o) he hn
  rw [hM] at this
  refine RegTo.yields ho hg this (fun v w' hv => ?_)
  obtain ⟨h1, h2⟩ := IsSt.after hM hb hr hd hv
  exact hnext _ _ h1 h2

/-- A piece, read back: what is answered, or the slots of a shape. -/
def pieceT (C : Ctx) (fn : Func) (res : List GTy) (ts : List (Nat × Sh)) (bs : List (Nat × BSh)) (l : List Code) (s : St) : Tree (Option (dens res) × Option (ShT ts × ShB bs)) :=
  (evL C l s).bind fun p => match p.1 with
    | .ret => (evRes C fn res (.normal, p.2)).bind fun y => .leaf (some y, none)
    | .normal => match restrict { prom := [], keep := ts.map (·.1), boxes := bs.map (·.1), sum := fun _ => .stuck } p.2 with
      | none => .stuck
      | some s' => .leaf (none, unS ts bs s')
    | .exit _ => .stuck

theorem piece_to (TOK : TysOK P C.τ) (GC : CtrsOK P C.Γ) (hmix : P.follows .mixedOrders = true) {R : Ref} {fn : Func} {res : List GTy} {ts : List (Nat × Sh)} {bs : List (Nat × BSh)} {rest l : List Code} {s : St} {G : Option (dens res) × Option (ShT ts × ShB bs) → Prop} (hl : ∀ c ∈ l, LamOK C c) (hsz : ∀ c ∈ l, ∀ t ∈ writes c, t < a.tmps.size) (hs : IsSt R s a w) (hG : (pieceT C fn res ts bs l s).holds G)
    (hret : ∀ y s' a' w', G (some y, none) → IsSt R s' a' w' → a'.defers = a.defers → (evRes C fn res (.normal, s')).holds (fun z => z = y) → Q .ret a' w')
    (hgo : ∀ x a' w', G (none, some x) → IsSt R (mkS ts bs x) a' w' → a'.tmps.size = a.tmps.size → a'.defers = a.defers → (∀ t, (∀ c ∈ l, t ∉ writes c) → a'.tmps.getD t undef = a.tmps.getD t undef) → LTo P b rest Q a' w')
    (hbad : ¬ G (none, none)) : LTo P b (l ++ rest) Q a w := by
  refine evL_to TOK GC hmix l s a w hl hsz hs (holds_bind.1 hG) ?_
  intro z s' a' w' hF h1 h2 h3 h4
  cases z with
  | normal =>
    simp only at hF
    split at hF
    · exact hF.elim
    · rename_i s'' hr
      have h5 := h1.restr (restrict_spec hr)
      simp only [Tree.holds] at hF
      cases hu : unS ts bs s'' with
      | none => rw [hu] at hF; exact absurd hF hbad
      | some x =>
        rw [hu] at hF
        have := unS_eq hu
        subst this
        exact hgo x a' w' hF h5 h2 h3 h4
  | ret =>
    have hF' := holds_bind.1 hF
    have key : ∀ (t : Tree (dens res)), t = evRes C fn res (.normal, s') → t.holds (fun y => (Tree.leaf (some y, none)).holds G) → Q .ret a' w' := by
      intro t ht hh
      cases t with
      | leaf y => exact hret y s' a' w' hh h1 h3 (by rw [← ht]; rfl)
      | stuck => exact hh.elim
      | br c t e =>
        exfalso
        simp only [evRes] at ht
        split at ht
        · cases ht
        · split at ht <;> cases ht
      | need p t =>
        exfalso
        simp only [evRes] at ht
        split at ht
        · cases ht
        · split at ht <;> cases ht
    exact key _ rfl hF'
  | exit id => exact hF.elim

/-! A channel kept beside the evaluator -/
theorem IsSt.bool {R : Ref} {s : St} {d : Nat} {t : Bool} (h : IsSt R s a w) (hl : s.look d = .val .bool t) : a.eval (.tmp d) = .bool t := by
  obtain ⟨M, _, _, _, hr⟩ := h
  have := hr d
  rw [hl] at this
  obtain ⟨cs, h1, h2⟩ := this
  have h3 : cs = [.bool t] := h1
  subst h3
  exact h2

/-- In these slots this is known; slot d holds a channel, and what the channel is. -/
structure Hd (R0 : Ref) (c : Nat) (obj : Obj) (n d : Nat) (s : St) (a : Act) (w : World) : Prop where
  new : R0.w0.heap.size ≤ c
  size : a.tmps.size = n
  defers : a.defers = []
  slot : a.tmps.getD d undef = .chan (some c)
  st : ∃ R : Ref, R.w0.heap[c]? = some obj ∧ ¬ R.own c ∧ IsSt R s a w ∧ ∀ s2 a2 w2, IsSt R s2 a2 w2 → IsSt R0 s2 a2 w2

variable {R0 : Ref} {c : Nat} {obj : Obj} {n d : Nat} {s : St}

theorem Hd.heap (h : Hd R0 c obj n d s a w) : w.heap[c]? = some obj := by
  obtain ⟨R, h1, h2, h3, _⟩ := h.st
  rw [h3.frame (Array.getElem?_eq_some_iff.1 h1).1 h2]
  exact h1
theorem Hd.old (h : Hd R0 c obj n d s a w) : IsSt R0 s a w := by
  obtain ⟨R, _, _, h3, h4⟩ := h.st
  exact h4 _ _ _ h3
theorem Hd.restr {L : LoopSpec} {s' : St} (h : Hd R0 c obj n d s a w) (hr : restrict L s = some s') : Hd R0 c obj n d s' a w := by
  obtain ⟨R, h1, h2, h3, h4⟩ := h.st
  exact ⟨h.new, h.size, h.defers, h.slot, R, h1, h2, h3.restr (restrict_spec hr), h4⟩
theorem Hd.undef {k : Nat} {v : Value} (h : Hd R0 c obj n d s a w) (hl : s.look k = .undef) (hk : k < n) (hd : d ≠ k) : Hd R0 c obj n d s (a.put (some k) v) w := by
  obtain ⟨R, h1, h2, h3, h4⟩ := h.st
  have hk' : k < a.tmps.size := by rw [h.size]; exact hk
  exact ⟨h.new, (put_size _ _ _).trans h.size, (put_defers' _ _ _).trans h.defers, (put_same hk' hd).trans h.slot, R, h1, h2, h3.put_undef hl hk', h4⟩
theorem Hd.known {k : Nat} {v : Value} {av : AV} (h : Hd R0 c obj n d s a w) (hv : ∀ M, RelV M av v) (hk : k < n) (hd : d ≠ k) : Hd R0 c obj n d (s.put k av) (a.put (some k) v) w := by
  obtain ⟨R, h1, h2, h3, h4⟩ := h.st
  have hk' : k < a.tmps.size := by rw [h.size]; exact hk
  exact ⟨h.new, (put_size _ _ _).trans h.size, (put_defers' _ _ _).trans h.defers, (put_same hk' hd).trans h.slot, R, h1, h2, h3.put_known hv hk', h4⟩
theorem Hd.set {cap cap' sn rn sn' rn' : Nat} {buf buf' : Array Value} {cl cl' tm tm' : Bool} (h : Hd R0 c (.chan cap buf cl sn rn tm) n d s a w) : Hd R0 c (.chan cap' buf' cl' sn' rn' tm') n d s a (w.setChan c cap' buf' cl' sn' rn' tm') := by
  have hc := h.heap
  have hlt : c < w.heap.size := (Array.getElem?_eq_some_iff.1 hc).1
  have hs := heap_setChan w c cap' buf' cl' sn' rn' tm' hlt
  obtain ⟨R', h1, h2, h3, h4⟩ := rebase (w' := w.setChan c cap' buf' cl' sn' rn' tm') h.old c rfl rfl rfl (by rw [size_setChan]; exact Nat.le_refl _) (fun k _ hk => by simp [World.setChan, Array.getElem?_setIfInBounds_ne (Ne.symm hk)]) h.new (fun _ _ _ => by rw [hc]; intro e; cases e) (fun _ _ _ => by rw [hs]; intro e; cases e)
  exact ⟨h.new, h.size, h.defers, h.slot, R', by rw [h1]; exact hs, h2, h3, h4⟩
theorem at_make {cap : Nat} {buf : Array Value} {cl tm : Bool} {sn rn : Nat} (h : IsSt R0 s a (w.alloc (.chan cap buf cl sn rn tm))) (hw : R0.w0.heap.size ≤ w.heap.size) (hs : a.tmps.size = n) (hd : a.defers = []) (hc : a.tmps.getD d undef = .chan (some w.heap.size)) :
    Hd R0 w.heap.size (.chan cap buf cl sn rn tm) n d s a (w.alloc (.chan cap buf cl sn rn tm)) := by
  have hn := heap_alloc_new w (.chan cap buf cl sn rn tm)
  obtain ⟨R', h1, h2, h3, h4⟩ := rebase (w' := w.alloc (.chan cap buf cl sn rn tm)) h w.heap.size rfl rfl rfl (Nat.le_refl _) (fun _ _ _ => rfl) hw (fun _ _ _ => by rw [hn]; intro e; cases e) (fun _ _ _ => by rw [hn]; intro e; cases e)
  exact ⟨hw, hs, hd, hc, R', by rw [h1]; exact hn, h2, h3, h4⟩
theorem Hd.op (TOK : TysOK P C.τ) (GOK : CtrsOK P C.Γ) {i : Nat} {o : Oper} {e : Eff} (h : Hd R0 c obj n d s a w) (ho : ops[i]? = some o) (hg : o.guard = none) (he : opEff C.τ C.Γ (o.dst.getD 0) o (s.args o) = some e) (hn : e.ok) (hk : ∀ k, o.dst = some k → k < n ∧ k ≠ d)
    (hnext : ∀ a' w', Hd R0 c obj n d (s.after o e) a' w' → (∀ t, o.dst ≠ some t → a'.tmps.getD t Go.undef = a.tmps.getD t Go.undef) → RegTo P b ops l Q a' w') : RegTo P b ops (i :: l) Q a w := by
  obtain ⟨R, h1, h2, h3, h4⟩ := h.st
  refine RegTo.op TOK GOK ho hg h3 he hn (fun k hk' => by rw [h.size]; exact (hk k hk').1) fun a' w' h5 h6 => hnext a' w' ⟨h.new, h6.size.trans h.size, h6.defers.trans h.defers, (h6.tmps d (fun hd => (hk d hd).2 rfl)).trans h.slot, R, h1, h2, h5, h4⟩ (fun t ht => h6.tmps t ht)
theorem Hd.move {i k : Nat} {o : Oper} (h : Hd R0 c obj n d s a w) (ho : ops[i]? = some o) (hg : o.guard = none) (hop : o.op = .move (.tmp d)) (hdst : o.dst = some k) (hl : s.look k = .undef) (hk : k < n) (hd : d ≠ k)
    (hnext : ∀ a', Hd R0 c obj n d s a' w → a'.tmps.getD k Go.undef = .chan (some c) → RegTo P b ops l Q a' w) : RegTo P b ops (i :: l) Q a w := by
  refine RegTo.value (v := .chan (some c)) (w' := w) ho hg ?_ ?_
  · have he : a.eval (.tmp d) = .chan (some c) := h.slot
    unfold execOp
    rw [hop]
    simp only [he]
    rfl
  · rw [hdst]
    exact hnext _ (h.undef hl hk hd) (put_at (by rw [h.size]; exact hk))
theorem Hd.send {i k cap sn rn : Nat} {buf : Array Value} {tm : Bool} {y : Operand} {o : Oper} (h : Hd R0 c (.chan cap buf false sn rn tm) n d s a w) (ho : ops[i]? = some o) (hg : o.guard = none) (hb : b.kind ≠ .early) (hop : o.op = .send (.tmp k) y) (hdst : o.dst = none) (hx : a.tmps.getD k Go.undef = .chan (some c)) (hroom : buf.size < cap)
    (hnext : ∀ v w', Hd R0 c (.chan cap (buf.push v) false (sn + 1) rn tm) n d s a w' → RegTo P b ops l Q a w') : RegTo P b ops (i :: l) Q a w := by
  refine RegTo.send ho hg hb hop hx rfl h.heap hroom ?_
  rw [hdst]
  exact hnext _ _ h.set
theorem Hd.select {i k x et cap sn rn : Nat} {buf : Array Value} {tm : Bool} {z : Value} {o : Oper} (h : Hd R0 c (.chan cap buf false sn rn tm) n d s a w) (ho : ops[i]? = some o) (hg : o.guard = none) (hb : b.kind ≠ .early) (hop : o.op = .select #[⟨.tmp x, none, et⟩] false) (hdst : o.dst = some k) (hx : a.tmps.getD x Go.undef = .chan (some c))
    (hz : (zeroValue et).run P w = .ok z w) (hk : k < n) (hd : d ≠ k)
    (hnext : ∀ buf' rn' a' w', Hd R0 c (.chan cap buf' false sn rn' tm) n d (s.put k (.tup [.val (.int .i64) (if buf.isEmpty = true then (-1 : Int) else 0), .undef, .undef])) a' w' → RegTo P b ops l Q a' w') : RegTo P b ops (i :: l) Q a w := by
  have hex : (execOp a.eval o).run P w = .ok (.comm #[rcase c z] false .select) w := by
    have he : a.eval (.tmp x) = .chan (some c) := hx
    unfold execOp
    rw [hop]
    simp [he, hz, rcase]
  have rel : ∀ (m : Int) (e1 e2 : Value) (M : Mem), IntKind.i64.has m → RelV M (.tup [.val (.int .i64) m, .undef, .undef]) (.tuple #[.int .i64 m, e1, e2]) := by
    intro m e1 e2 M hm
    exact ⟨_, rfl, ⟨[.int .i64 m], ⟨rfl, hm⟩, rfl⟩, trivial, trivial, trivial⟩
  by_cases he : buf = #[]
  · subst he
    refine RegTo.select_none ho hg hb hex h.heap ?_
    rw [hdst]
    exact hnext #[] rn _ _ (h.known (fun M => rel (-1) _ _ M (by simp [IntKind.has, IntKind.min, IntKind.max, IntKind.bits, IntKind.signed])) hk hd)
  · have hs : 0 < buf.size := Nat.pos_of_ne_zero (fun e => he (Array.size_eq_zero_iff.1 e))
    refine RegTo.select_recv ho hg hb hex h.heap hs ?_
    rw [hdst]
    have hm : (if buf.isEmpty = true then (-1 : Int) else 0) = 0 := by simp [he]
    rw [hm] at hnext
    exact hnext _ _ _ _ (Hd.known h.set (fun M => rel 0 _ _ M (by simp [IntKind.has, IntKind.min, IntKind.max, IntKind.bits, IntKind.signed])) hk hd)
def calmL (n d : Nat) (cs : List Code) : Bool := cs.all fun x => (loopsOf x).isEmpty && (writes x).all fun t => Nat.blt t n && !(Nat.beq t d)
theorem calmL_lam {cs : List Code} (h : calmL n d cs = true) : ∀ x ∈ cs, LamOK C x := fun x hx => by
  unfold calmL at h
  rw [List.all_eq_true] at h
  have h1 := h x hx
  rw [Bool.and_eq_true] at h1
  have h2 : loopsOf x = [] := by simpa using h1.1
  exact lam_of x fun id body hm => by rw [h2] at hm; cases hm
theorem calmL_wr {cs : List Code} (h : calmL n d cs = true) : ∀ x ∈ cs, ∀ t ∈ writes x, t < n ∧ t ≠ d := fun x hx t ht => by
  unfold calmL at h
  rw [List.all_eq_true] at h
  have h1 := h x hx
  rw [Bool.and_eq_true, List.all_eq_true] at h1
  have h2 := h1.2 t ht
  rw [Bool.and_eq_true, Nat.blt_eq] at h2
  exact ⟨h2.1, fun e => by subst e; simp at h2⟩
theorem Hd.piece (TOK : TysOK P C.τ) (GC : CtrsOK P C.Γ) (hmix : P.follows .mixedOrders = true) {fn : Func} {res : List GTy} {ts : List (Nat × Sh)} {bs : List (Nat × BSh)} {rest cs : List Code} {G : Option (dens res) × Option (ShT ts × ShB bs) → Prop} (h : Hd R0 c obj n d s a w) (hcalm : calmL n d cs = true) (hG : (pieceT C fn res ts bs cs s).holds G)
    (hret : ∀ y s' a' w', G (some y, none) → IsSt R0 s' a' w' → a'.defers = [] → (evRes C fn res (.normal, s')).holds (fun z => z = y) → Q .ret a' w')
    (hgo : ∀ x a' w', G (none, some x) → Hd R0 c obj n d (mkS ts bs x) a' w' → LTo P b rest Q a' w')
    (hbad : ¬ G (none, none)) : LTo P b (cs ++ rest) Q a w := by
  obtain ⟨R, h1, h2, h3, h4⟩ := h.st
  have hsz := calmL_wr hcalm
  refine piece_to TOK GC hmix (calmL_lam hcalm) (fun x hx t ht => by rw [h.size]; exact (hsz x hx t ht).1) h3 hG ?_ ?_ hbad
  · intro y s' a' w' k1 k2 k3 k4
    exact hret y s' a' w' k1 (h4 _ _ _ k2) (k3.trans h.defers) k4
  · intro x a' w' k1 k2 k3 k4 k5
    exact hgo x a' w' k1 ⟨h.new, k3.trans h.size, k4.trans h.defers, (k5 d (fun x hx ht => (hsz x hx d ht).2 rfl)).trans h.slot, R, h1, h2, k2, h4⟩
theorem dst_ok {o : Oper} {m n d : Nat} (h : o.dst = some m) (hm : (Nat.blt m n && !(Nat.beq m d)) = true) : ∀ k, o.dst = some k → k < n ∧ k ≠ d := by
  intro k hk
  rw [h] at hk
  have e : m = k := Option.some.inj hk
  subst e
  rw [Bool.and_eq_true, Nat.blt_eq] at hm
  exact ⟨hm.1, fun e => by subst e; simp at hm⟩

/-- A call is at its end, and this is what it answers. -/
def finQ (C : Ctx) (fn : Func) (res : List GTy) (R0 : Ref) (y : dens res) (e : Exit) (a' : Act) (w' : World) : Prop :=
  (e = .normal ∨ e = .ret) ∧ a'.defers = [] ∧ ∃ s', IsSt R0 s' a' w' ∧ (evRes C fn res (.normal, s')).holds (fun z => z = y)

theorem ctr_of_to (TOK : TysOK P C.τ) {f : Nat} {k : Ctr} (hf : (P.funcs[f]?).isSome = true) (hname : ((fnOf P f).name == "runtime.NumGoroutine") = false) (hbody : (fnOf P f).body.isSome = true) (hn : ∀ x, (resL k.args x).length ≤ (fnOf P f).ntmps)
    (h : ∀ (R0 : Ref) (b : Frame) (x : dens k.args) (a : Act), b.kind ≠ .early → wtD k.args x → (∀ p, k.pre = some p → p x) → IsSt R0 { tmps := number 0 (resL k.args x), boxes := [] } a R0.w0 → a.tmps.size = (fnOf P f).ntmps → a.defers = [] →
      LTo P b (seqs (bodyOf (fnOf P f))) (finQ C (fnOf P f) k.res R0 (k.fn x)) a R0.w0) : CtrOK P f k := by
  refine ⟨⟨_, fnOf_eq hf, by rw [bodyOf_eq hbody]; rfl, hname⟩, fun w S us x hS hT henc hpre => ?_⟩
  have h0 := start_st (n := (fnOf P f).ntmps) hS hT henc
  have hlen := (resL_rel (M := ⟨w, S, fun _ => undef, []⟩) henc).length
  have hx := hn x
  refine calls_of_to (fnOf_eq hf) (bodyOf_eq hbody) ?_
  refine CodeTo.mono (CodeTo.seqs (h ⟨w, fun _ => False, S, hT⟩ _ x _ (fun e => by cases e) henc.wt hpre h0 (by simp; omega) rfl)) ?_
  rintro e a' w' ⟨he, hd, s', h1, h2⟩
  exact ⟨he, hd, finish_st TOK h1 h2⟩
end
end Go.Ev
/- Another world to start from, but for a set of blocks that no box owns. -/
set_option linter.unusedVariables false
set_option linter.unusedSimpArgs false
namespace Go.Ev
theorem rebaseK {R0 R : Ref} {K K' : Nat → Prop} {s : St} {a : Act} {w w' : World} (h : IsSt R s a w) (back : ∀ M, InvM R M → InvM R0 M) (hK : ∀ k, K k → k < R.w0.heap.size ∧ ¬ R.own k ∧ ∀ o, ¬ R.S0 k o)
    (hK' : ∀ k, K' k → K k ∨ w.heap.size ≤ k) (hnew : ∀ k, K' k → R0.w0.heap.size ≤ k) (hlt : ∀ k, K' k → k < w'.heap.size)
    (hos : w'.os = w.os) (htape : w'.tape = w.tape) (hout : w'.output = w.output) (hsz : w.heap.size ≤ w'.heap.size) (hcell : ∀ k, k < w.heap.size → ¬ K' k → w'.heap[k]? = w.heap[k]?) :
    ∃ R' : Ref, R'.w0 = w' ∧ (∀ k, K' k → k < R'.w0.heap.size ∧ ¬ R'.own k ∧ ∀ o, ¬ R'.S0 k o) ∧ IsSt R' s a w' ∧ ∀ M, InvM R' M → InvM R0 M := by
  obtain ⟨M, rfl, hb, I, hr⟩ := h
  have I0 := back M I
  have noS : ∀ k o, K' k → ¬ M.S k o := by
    intro k o hk hs
    obtain ⟨h1, h2⟩ := I.here k o hs
    rcases hK' k hk with h3 | h3
    · obtain ⟨g1, g2, g3⟩ := hK k h3
      rcases h1 with h1 | h1 | h1
      · exact g3 o h1
      · omega
      · exact g2 h1
    · omega
  have notK : ∀ k, R.new k → k < M.w.heap.size → ¬ K' k := by
    intro k hn hl hk
    rcases hK' k hk with h3 | h3
    · obtain ⟨g1, g2, g3⟩ := hK k h3
      rcases hn with h1 | h1
      · omega
      · exact g2 h1
    · omega
  have hblk' : ∀ b d B, lk b M.bs = some (d, B) → ∀ k, blkOf (M.β b) = some k → ¬ K' k := by
    intro b d B hB k hk
    have hRB := I.boxes b d B hB
    have hl := hRB.lt k hk
    refine notK k ?_ hl
    cases B with
    | var g x =>
      obtain ⟨blk, cs, e, h1, h2, h3, h4, h5⟩ := hRB
      rw [h1] at hk
      simp [blkOf] at hk
      subst hk
      exact h5
    | row e g xs fz =>
      obtain ⟨cs, h1, h2, h3, h4, h5, h6⟩ := hRB
      exact (h6 k hk).1
  have hk : Keeps M.S M.S M.w w' := by
    intro k o hS
    exact ⟨hS, cell_of_heap (hcell k (I.here k o hS).2 (fun hk => noS k o hk hS))⟩
  have ref : ∀ {R1 R2 : Ref} {v : Value} {B : Box} {W : World} {S : Stab}, (∀ blk, R1.new blk → blkOf v = some blk → R2.new blk) → RelB R1 W S v B → RelB R2 W S v B := by
    intro R1 R2 v B W S hn hB
    cases B with
    | var g x =>
      obtain ⟨blk, cs, e, h1, h2, h3, h4, h5⟩ := hB
      exact ⟨blk, cs, e, h1, h2, h3, h4, hn blk h5 (by rw [h1]; rfl)⟩
    | row e g xs fz =>
      obtain ⟨cs, h1, h2, h3, h4, h5, h6⟩ := hB
      exact ⟨cs, h1, h2, h3, h4, h5, fun blk hb => ⟨hn blk (h6 blk hb).1 hb, (h6 blk hb).2⟩⟩
  have st : Step M { M with w := w' } (fun _ => False) := ⟨hk, fun b d B h _ => ⟨d, B, h, rfl, Box.le_refl B⟩⟩
  refine ⟨⟨w', fun k => R0.new k ∧ ¬ K' k, M.S, (R0.tab.keeps I0.old).keeps hk⟩, rfl, fun k h => ⟨hlt k h, fun g => g.2 h, fun o => noS k o h⟩, ?_, ?_⟩
  · refine ⟨{ M with w := w' }, rfl, hb, ⟨rfl, rfl, rfl, Nat.le_refl _, fun _ _ _ => rfl, Keeps.refl _ _, fun b o hs => ⟨.inl hs, Nat.lt_of_lt_of_le (I.here b o hs).2 hsz⟩, fun b d B hB => ?_, I.sep⟩, fun t => (hr t).step st (fun b hb => hb.elim)⟩
    have hRB := I0.boxes b d B hB
    have hm := hRB.move hk (fun blk hblk => hcell blk (hRB.lt blk hblk) (hblk' b d B hB blk hblk)) (fun blk o hblk hs => hs)
    exact ref (fun blk hn hv => .inr ⟨hn, hblk' b d B hB blk hv⟩) hm
  · intro M2 I2
    refine ⟨I2.os.trans (hos.trans I0.os), I2.tape.trans (htape.trans I0.tape), I2.output.trans (hout.trans I0.output), Nat.le_trans I0.size (Nat.le_trans hsz I2.size), ?_, I0.old.trans (hk.trans I2.old), ?_, ?_, I2.sep⟩
    · intro k h1 h2
      have hkc : ¬ K' k := fun h => by have := hnew k h; omega
      have hno : ¬ (R0.new k ∧ ¬ K' k) := by
        rintro ⟨h3 | h3, _⟩
        · omega
        · exact h2 h3
      have h4 : k < M.w.heap.size := Nat.lt_of_lt_of_le h1 I0.size
      exact (I2.frame k (Nat.lt_of_lt_of_le h4 hsz) hno).trans ((hcell k h4 hkc).trans (I0.frame k h1 h2))
    · intro b o hs
      obtain ⟨h1, h2⟩ := I2.here b o hs
      refine ⟨?_, h2⟩
      rcases h1 with h1 | h1 | h1
      · exact (I0.here b o h1).1
      · exact .inr (.inl (Nat.le_trans (Nat.le_trans I0.size hsz) h1))
      · exact .inr h1.1
    · intro b d B hB
      refine ref (fun blk hn _ => ?_) (I2.boxes b d B hB)
      rcases hn with h1 | h1
      · exact .inl (Nat.le_trans (Nat.le_trans I0.size hsz) h1)
      · exact h1.1

section
variable {P : Program} {C : Ctx} {b : Frame} {Q : Exit → Act → World → Prop} {a : Act} {w : World} {ops : Array Oper} {l : List Nat}
/-- In these slots this is known; some slots hold these values; these blocks are such. -/
structure Kd (R0 : Ref) (K : Nat → Prop) (W : Nat → Option Obj) (n : Nat) (sl : List (Nat × Value)) (s : St) (a : Act) (w : World) : Prop where
  new : ∀ k, K k → R0.w0.heap.size ≤ k
  size : a.tmps.size = n
  defers : a.defers = []
  slots : ∀ p ∈ sl, a.tmps.getD p.1 undef = p.2
  st : ∃ R : Ref, (∀ k, K k → k < R.w0.heap.size ∧ ¬ R.own k ∧ ∀ o, ¬ R.S0 k o) ∧ (∀ k, K k → R.w0.heap[k]? = W k) ∧ IsSt R s a w ∧ ∀ M, InvM R M → InvM R0 M
variable {R0 : Ref} {K : Nat → Prop} {W : Nat → Option Obj} {n : Nat} {sl : List (Nat × Value)} {s : St}
theorem Kd.heap (h : Kd R0 K W n sl s a w) {k : Nat} (hk : K k) : w.heap[k]? = W k := by
  obtain ⟨R, h1, h2, h3, _⟩ := h.st
  rw [h3.frame (h1 k hk).1 (h1 k hk).2.1]
  exact h2 k hk
theorem Kd.old (h : Kd R0 K W n sl s a w) : IsSt R0 s a w := by
  obtain ⟨R, _, _, ⟨M, hM, hb, I, hr⟩, h4⟩ := h.st
  exact ⟨M, hM, hb, h4 M I, hr⟩
theorem Kd.start (h : IsSt R0 s a w) (hs : a.tmps.size = n) (hd : a.defers = []) (hsl : ∀ p ∈ sl, a.tmps.getD p.1 undef = p.2) : Kd R0 (fun _ => False) W n sl s a w :=
  ⟨fun _ h => h.elim, hs, hd, hsl, R0, fun _ h => h.elim, fun _ h => h.elim, h, fun _ I => I⟩
theorem Kd.world {K' : Nat → Prop} {W' : Nat → Option Obj} {w' : World} (h : Kd R0 K W n sl s a w) (hK' : ∀ k, K' k → K k ∨ w.heap.size ≤ k) (hlt : ∀ k, K' k → k < w'.heap.size) (hW : ∀ k, K' k → w'.heap[k]? = W' k)
    (hos : w'.os = w.os) (htape : w'.tape = w.tape) (hout : w'.output = w.output) (hsz : w.heap.size ≤ w'.heap.size) (hcell : ∀ k, k < w.heap.size → ¬ K' k → w'.heap[k]? = w.heap[k]?) : Kd R0 K' W' n sl s a w' := by
  have hg := h.old.grow
  obtain ⟨R, h1, h2, h3, h4⟩ := h.st
  have hn : ∀ k, K' k → R0.w0.heap.size ≤ k := fun k hk => by
    rcases hK' k hk with h5 | h5
    · exact h.new k h5
    · omega
  obtain ⟨R', e, g1, g2, g3⟩ := rebaseK h3 h4 h1 hK' hn hlt hos htape hout hsz hcell
  exact ⟨hn, h.size, h.defers, h.slots, R', g1, fun k hk => by rw [e]; exact hW k hk, g2, g3⟩
theorem Kd.restr {L : LoopSpec} {s' : St} (h : Kd R0 K W n sl s a w) (hr : restrict L s = some s') : Kd R0 K W n sl s' a w := by
  obtain ⟨R, h1, h2, h3, h4⟩ := h.st
  exact ⟨h.new, h.size, h.defers, h.slots, R, h1, h2, h3.restr (restrict_spec hr), h4⟩
/-- A slot that nothing is known of takes a value that is to be kept. -/
theorem Kd.keep {k : Nat} {v : Value} (h : Kd R0 K W n sl s a w) (hl : s.look k = .undef) (hk : k < n) (hd : ∀ p ∈ sl, p.1 ≠ k) : Kd R0 K W n ((k, v) :: sl) s (a.put (some k) v) w := by
  obtain ⟨R, h1, h2, h3, h4⟩ := h.st
  have hk' : k < a.tmps.size := by rw [h.size]; exact hk
  refine ⟨h.new, (put_size _ _ _).trans h.size, (put_defers' _ _ _).trans h.defers, fun p hp => ?_, R, h1, h2, h3.put_undef hl hk', h4⟩
  rcases List.mem_cons.1 hp with rfl | hp
  · exact put_at hk'
  · exact (put_same hk' (hd p hp)).trans (h.slots p hp)
theorem Kd.less {sl' : List (Nat × Value)} (h : Kd R0 K W n sl s a w) (hs : ∀ p ∈ sl', p ∈ sl) : Kd R0 K W n sl' s a w :=
  ⟨h.new, h.size, h.defers, fun p hp => h.slots p (hs p hp), h.st⟩
theorem Kd.op (TOK : TysOK P C.τ) (GOK : CtrsOK P C.Γ) {i : Nat} {o : Oper} {e : Eff} (h : Kd R0 K W n sl s a w) (ho : ops[i]? = some o) (hg : o.guard = none) (he : opEff C.τ C.Γ (o.dst.getD 0) o (s.args o) = some e) (hn : e.ok) (hk : ∀ k, o.dst = some k → k < n ∧ ∀ p ∈ sl, p.1 ≠ k)
    (hnext : ∀ a' w', Kd R0 K W n sl (s.after o e) a' w' → RegTo P b ops l Q a' w') : RegTo P b ops (i :: l) Q a w := by
  obtain ⟨R, h1, h2, h3, h4⟩ := h.st
  refine RegTo.op TOK GOK ho hg h3 he hn (fun k hk' => by rw [h.size]; exact (hk k hk').1) fun a' w' h5 h6 => hnext a' w' ⟨h.new, h6.size.trans h.size, h6.defers.trans h.defers, fun p hp => (h6.tmps p.1 (fun hd => (hk p.1 hd).2 p hp rfl)).trans (h.slots p hp), R, h1, h2, h5, h4⟩
/-- Pieces that keep out of these slots. -/
def farL (ts : List Nat) (cs : List Code) : Bool := cs.all fun x => (writes x).all fun t => ts.all fun d => !(Nat.beq t d)
theorem farL_out {ts : List Nat} {cs : List Code} (h : farL ts cs = true) {d : Nat} (hd : d ∈ ts) : ∀ x ∈ cs, d ∉ writes x := fun x hx ht => by
  unfold farL at h
  rw [List.all_eq_true] at h
  have h1 := h x hx
  rw [List.all_eq_true] at h1
  have h2 := h1 d ht
  rw [List.all_eq_true] at h2
  have h3 := h2 d hd
  simp at h3
theorem Kd.piece (TOK : TysOK P C.τ) (GC : CtrsOK P C.Γ) (hmix : P.follows .mixedOrders = true) {fn : Func} {res : List GTy} {ts : List (Nat × Sh)} {bs : List (Nat × BSh)} {rest cs : List Code} {G : Option (dens res) × Option (ShT ts × ShB bs) → Prop} (h : Kd R0 K W n sl s a w) (hcalm : calmL n n cs = true) (hfar : farL (sl.map (·.1)) cs = true) (hG : (pieceT C fn res ts bs cs s).holds G)
    (hret : ∀ y s' a' w', G (some y, none) → IsSt R0 s' a' w' → a'.defers = [] → (evRes C fn res (.normal, s')).holds (fun z => z = y) → Q .ret a' w')
    (hgo : ∀ x a' w', G (none, some x) → Kd R0 K W n sl (mkS ts bs x) a' w' → LTo P b rest Q a' w')
    (hbad : ¬ G (none, none)) : LTo P b (cs ++ rest) Q a w := by
  obtain ⟨R, h1, h2, h3, h4⟩ := h.st
  have hsz := calmL_wr hcalm
  refine piece_to TOK GC hmix (calmL_lam hcalm) (fun x hx t ht => by rw [h.size]; exact (hsz x hx t ht).1) h3 hG ?_ ?_ hbad
  · rintro y s' a' w' k1 ⟨M, hM, hb, I, hr⟩ k3 k4
    exact hret y s' a' w' k1 ⟨M, hM, hb, h4 M I, hr⟩ (k3.trans h.defers) k4
  · intro x a' w' k1 k2 k3 k4 k5
    exact hgo x a' w' k1 ⟨h.new, k3.trans h.size, k4.trans h.defers, fun p hp => (k5 p.1 (farL_out hfar (List.mem_map_of_mem hp))).trans (h.slots p hp), R, h1, h2, k2, h4⟩
/-- A loop, with what holds at its head and what goes down. -/
theorem CodeTo.loop {c : Code} (I : Nat → Act → World → Prop) (n0 : Nat) (h0 : I n0 a w) (round : ∀ n a w, I n a w → CodeTo P b c (Exit.then (fun a' w' => ∃ m, m < n ∧ I m a' w') Q) a w) : CodeTo P b (.loop c) Q a w := by
  intro k cs
  have key : ∀ n a w, I n a w → ∃ e a' w', Q e a' w' ∧ Arrives P (lone (b.at a (.code c :: .inLoop c :: k)) cs w) b k cs e a' w' := by
    intro n
    induction n using Nat.strongRecOn with
    | _ n ih =>
      intro a w hI
      obtain ⟨e, a1, w1, hq, harr⟩ := round n a w hI (.inLoop c :: k) cs
      cases e with
      | normal =>
        obtain ⟨m, hlt, hI1⟩ := hq
        obtain ⟨e2, a2, w2, hq2, harr2⟩ := ih m hlt a1 w1 hI1
        exact ⟨e2, a2, w2, hq2, .of_steps (Steps.trans harr (.one step_inLoop)) harr2⟩
      | exit id => exact ⟨_, a1, w1, hq, .pass (x := .inLoop c) rfl (fun _ _ => .inl (by simp)) harr⟩
      | goto l => exact ⟨_, a1, w1, hq, .pass (x := .inLoop c) rfl (fun _ _ => .inl (by simp)) harr⟩
      | ret => exact ⟨_, a1, w1, hq, .pass (x := .inLoop c) rfl (fun _ _ => .inl (by simp)) harr⟩
      | panic ch => exact ⟨_, a1, w1, hq, .pass (x := .inLoop c) rfl (fun _ _ => .inl (by simp)) harr⟩
      | outgrown => exact ⟨_, a1, w1, hq, .pass (x := .inLoop c) rfl (fun _ _ => .inl (by simp)) harr⟩
  obtain ⟨e, a', w', hq, harr⟩ := key n0 a w h0
  exact ⟨e, a', w', hq, .of_steps (.one step_loop) harr⟩
/-- A block: its own exit is its end. -/
theorem CodeTo.block {id : Nat} {c : Code} (h : CodeTo P b c (Exit.inBlock id Q) a w) : CodeTo P b (.block id c) Q a w := by
  intro k cs
  obtain ⟨e, a1, w1, hq, harr⟩ := h (.inBlock id :: k) cs
  cases e with
  | normal => exact ⟨.normal, a1, w1, hq, .head step_block (Steps.trans harr (.one step_inBlock))⟩
  | exit id' =>
    by_cases hid : id' = id
    · simp only [Exit.inBlock, hid, if_true] at hq
      exact ⟨.normal, a1, w1, hq, .head step_block (harr k (by simp [exitTo, hid]))⟩
    · simp only [Exit.inBlock, hid, if_false] at hq
      refine ⟨.exit id', a1, w1, hq, fun k' hk => .head step_block (harr k' ?_)⟩
      have : (id == id') = false := by simp; exact fun h => hid h.symm
      simp [exitTo, this, hk]
  | goto l => exact ⟨_, a1, w1, hq, fun k' hk => .head step_block (harr k' (by simp [gotoIn, hk]))⟩
  | ret => exact ⟨_, a1, w1, hq, .of_steps (.one step_block) harr⟩
  | panic ch => exact ⟨_, a1, w1, hq, .of_steps (.one step_block) harr⟩
  | outgrown => exact ⟨_, a1, w1, hq, .of_steps (b := b) (k := k) (cs := cs) (e := .outgrown) (.one step_block) harr⟩
theorem CodeTo.exit {id : Nat} (h : Q (.exit id) a w) : CodeTo P b (.exit id) Q a w := fun _ _ => ⟨.exit id, a, w, h, fun _ hk => .one (step_exit hk)⟩
end
end Go.Ev
/- A call beside the evaluator: of a function, or of a function value, whose Calls is given. -/
set_option linter.unusedVariables false
set_option linter.unusedSimpArgs false
namespace Go.Ev
open Go.Conc
theorem yields_call {P : Program} {ρ : Operand → Value} {o : Oper} {w : World} {K : Value → World → Prop} {x : Operand} {aas : Array Operand} {ts : Array TypeId} {f : Nat} {caps : Array Value} {fn : Func} {R : Ending → World → Prop}
    (ho : o.op = .call { callee := .value x, args := aas, argTypes := ts }) (hx : ρ x = .func (.func f) #[] caps) (hf : P.funcs[f]? = some fn) (hb : fn.body.isNone = false) (hn : (fn.name == "runtime.NumGoroutine") = false)
    (h : Calls P f (aas.map ρ ++ caps) w R) (hR : ∀ e w', R e w' → ∃ v, e = .returned v ∧ K v w') : Yields P ρ o w K := by
  have hrun : (execOp ρ o).run P w = .ok (.enter f (aas.map ρ ++ caps)) w := by
    simp only [execOp, ho, resolve, hx, Deferred.ofValue, Sem.run_bind]
    have h2' : ¬ fn.body = none := by intro hh; rw [hh] at hb; simp at hb
    have h3' : ¬ fn.name = "runtime.NumGoroutine" := by simpa using hn
    simp [invoke, callFunc, hf, h2', h3']
  unfold Yields
  rw [hrun]
  exact h.mono hR
section
variable {P : Program} {C : Ctx} {b : Frame} {Q : Exit → Act → World → Prop} {a : Act} {w : World} {ops : Array Oper} {l : List Nat} {R0 : Ref} {K : Nat → Prop} {W : Nat → Option Obj} {n : Nat} {sl : List (Nat × Value)} {s : St}
/-- What a part of a tuple is. -/
theorem RegTo.extract {i j : Nat} {o : Oper} {x : Operand} {vs : Array Value} {v : Value} (ho : ops[i]? = some o) (hg : o.guard = none) (hop : o.op = .extract x j) (hx : a.eval x = .tuple vs) (hv : vs[j]? = some v) (h : RegTo P b ops l Q (a.put o.dst v) w) : RegTo P b ops (i :: l) Q a w := by
  refine RegTo.value ho hg (v := v) (w' := w) ?_ h
  unfold execOp
  rw [hop]
  simp [hx, hv, Instr.extract]
/-- A slot's value, moved. -/
theorem RegTo.moved {i : Nat} {o : Oper} {x : Operand} (ho : ops[i]? = some o) (hg : o.guard = none) (hop : o.op = .move x ∨ o.op = .assign x) (h : RegTo P b ops l Q (a.put o.dst (a.eval x)) w) : RegTo P b ops (i :: l) Q a w := by
  refine RegTo.value ho hg (v := a.eval x) (w' := w) ?_ h
  unfold execOp
  rcases hop with hop | hop <;> rw [hop] <;> rfl
/-- A call that writes only kept blocks and new ones; what it leaves in new blocks is kept, or not. -/
theorem Kd.call {i f : Nat} {o : Oper} {x : Operand} {ar : Array Operand} {ts : Array TypeId} {caps args : Array Value} {fn : Func} {R : Ending → World → Prop} (h : Kd R0 K W n sl s a w)
    (ho : ops[i]? = some o) (hg : o.guard = none) (hop : o.op = .call { callee := .value x, args := ar, argTypes := ts }) (hx : a.eval x = .func (.func f) #[] caps) (hargs : ar.map a.eval ++ caps = args) (hf : P.funcs[f]? = some fn) (hb : fn.body.isNone = false) (hn : (fn.name == "runtime.NumGoroutine") = false)
    (hc : Calls P f args w R)
    (hR : ∀ e w', R e w' → ∃ v K' W', e = .returned v ∧ (∀ k, K' k → K k ∨ w.heap.size ≤ k) ∧ (∀ k, K' k → k < w'.heap.size) ∧ (∀ k, K' k → w'.heap[k]? = W' k) ∧ w'.os = w.os ∧ w'.tape = w.tape ∧ w'.output = w.output ∧ w.heap.size ≤ w'.heap.size ∧ (∀ k, k < w.heap.size → ¬ K' k → w'.heap[k]? = w.heap[k]?) ∧
      (Kd R0 K' W' n sl s a w' → RegTo P b ops l Q (a.put o.dst v) w')) : RegTo P b ops (i :: l) Q a w := by
  refine RegTo.yields ho hg (K := fun v w' => RegTo P b ops l Q (a.put o.dst v) w') (yields_call hop hx hf hb hn (hargs ▸ hc) fun e w' hr => ?_) (fun v w' hv => hv)
  obtain ⟨v, K', W', h1, h2, h3, h4, h5, h6, h7, h8, h9, h10⟩ := hR e w' hr
  exact ⟨v, h1, h10 (h.world h2 h3 h4 h5 h6 h7 h8 h9)⟩
theorem LTo.cons {c : Code} {cs : List Code} (h : CodeTo P b c (Exit.then (LTo P b cs Q) Q) a w) : LTo P b (c :: cs) Q a w := h
theorem Kd.known {k : Nat} {v : Value} {av : AV} (h : Kd R0 K W n sl s a w) (hv : ∀ M, RelV M av v) (hk : k < n) (hd : ∀ p ∈ sl, p.1 ≠ k) : Kd R0 K W n sl (s.put k av) (a.put (some k) v) w := by
  obtain ⟨R, h1, h2, h3, h4⟩ := h.st
  have hk' : k < a.tmps.size := by rw [h.size]; exact hk
  exact ⟨h.new, (put_size _ _ _).trans h.size, (put_defers' _ _ _).trans h.defers, fun p hp => (put_same hk' (hd p hp)).trans (h.slots p hp), R, h1, h2, h3.put_known hv hk', h4⟩
/-- Operations of a region, told by the evaluator, read back. -/
def opsT (C : Ctx) (ts : List (Nat × Sh)) (bs : List (Nat × BSh)) (l : List Oper) (s : St) : Tree (Option (ShT ts × ShB bs)) :=
  (runOps C l s).bind fun s' => match restrict { prom := [], keep := ts.map (·.1), boxes := bs.map (·.1), sum := fun _ => .stuck } s' with
    | none => .stuck
    | some s'' => .leaf (unS ts bs s'')
def farO (n : Nat) (ds : List Nat) (l : List Oper) : Bool := l.all fun o => o.guard.isNone && match o.dst with
  | some d => Nat.blt d n && ds.all fun t => !(Nat.beq t d)
  | none => true
theorem Kd.ops_run (TOK : TysOK P C.τ) (GOK : CtrsOK P C.Γ) {F : St → Prop} {l2 : List Nat} : ∀ (l1 : List Nat) {s : St} {a : Act} {w : World}, Kd R0 K W n sl s a w → (∀ i ∈ l1, i < ops.size) → farO n (sl.map (·.1)) (l1.map fun i => ops.getD i default) = true → (runOps C (l1.map fun i => ops.getD i default) s).holds F →
    (∀ s' a' w', F s' → Kd R0 K W n sl s' a' w' → RegTo P b ops l2 Q a' w') → RegTo P b ops (l1 ++ l2) Q a w
  | [], s, a, w, h, _, _, hF, hgo => hgo s a w hF h
  | i :: l1, s, a, w, h, hi, hfar, hF, hgo => by
    have hlt := hi i (by simp)
    have ho : ops[i]? = some (ops.getD i default) := by simp [hlt]
    generalize ops.getD i default = o at *
    have ho2 : ops.getD i default = o := by simp [Array.getD_eq_getD_getElem?, ho]
    simp only [List.map_cons, ho2] at hfar hF
    unfold farO at hfar
    rw [List.all_cons, Bool.and_eq_true, Bool.and_eq_true] at hfar
    obtain ⟨⟨hg, hd⟩, hrest⟩ := hfar
    simp only [runOps] at hF
    split at hF
    · exact hF.elim
    · rename_i e he
      have hF' : e.ok ∧ (runOps C (l1.map fun i => ops.getD i default) (s.after o e)).holds F := by
        cases hn : e.need with
        | none =>
          rw [hn] at hF
          exact ⟨(fun p hp => by rw [hn] at hp; cases hp), hF⟩
        | some p =>
          rw [hn] at hF
          exact ⟨(fun q hq => by rw [hn] at hq; cases hq; exact hF.1), hF.2⟩
      refine h.op TOK GOK ho (by simpa using hg) he hF'.1 (fun k hk => ?_) fun a' w' h' => Kd.ops_run TOK GOK l1 h' (fun j hj => hi j (by simp [hj])) (by unfold farO; exact hrest) hF'.2 hgo
      rw [hk] at hd
      simp only [Bool.and_eq_true, Nat.blt_eq] at hd
      refine ⟨hd.1, fun p hp => ?_⟩
      have := List.all_eq_true.1 hd.2 p.1 (List.mem_map_of_mem hp)
      intro e
      rw [e] at this
      simp at this
theorem Kd.opsL (TOK : TysOK P C.τ) (GOK : CtrsOK P C.Γ) {ts : List (Nat × Sh)} {bs : List (Nat × BSh)} {G : Option (ShT ts × ShB bs) → Prop} {l2 : List Nat} (l1 : List Nat) (h : Kd R0 K W n sl s a w) (hi : (l1.all fun i => Nat.blt i ops.size) = true) (hfar : farO n (sl.map (·.1)) (l1.map fun i => ops.getD i default) = true)
    (hG : (opsT C ts bs (l1.map fun i => ops.getD i default) s).holds G) (hgo : ∀ x a' w', G (some x) → Kd R0 K W n sl (mkS ts bs x) a' w' → RegTo P b ops l2 Q a' w') (hbad : ¬ G none) : RegTo P b ops (l1 ++ l2) Q a w := by
  refine h.ops_run TOK GOK l1 (fun i hm => ?_) hfar (holds_bind.1 hG) fun s' a' w' hF h' => ?_
  · have := List.all_eq_true.1 hi i hm
    simpa [Nat.blt_eq] using this
  · split at hF
    · exact hF.elim
    · rename_i s'' hr
      have h5 := h'.restr hr
      simp only [Tree.holds] at hF
      cases hu : unS ts bs s'' with
      | none => rw [hu] at hF; exact absurd hF hbad
      | some x =>
        rw [hu] at hF
        have := unS_eq hu
        subst this
        exact hgo x a' w' hF h5
end
theorem known_u8 {R : Ref} {s : St} {a : Act} {w : World} {t : Nat} {n : Int} (h : IsSt R s a w) (hl : s.look t = .val (.int .u8) n) : a.tmps.getD t undef = .int .u8 n := by
  obtain ⟨M, _, _, _, hr⟩ := h
  have := hr t
  rw [hl] at this
  obtain ⟨cs, h1, h2⟩ := this
  have h3 : cs = [.int .u8 n] := h1.1
  subst h3
  exact h2
theorem known_i64 {R : Ref} {s : St} {a : Act} {w : World} {t : Nat} {n : Int} (h : IsSt R s a w) (hl : s.look t = .val (.int .i64) n) : a.tmps.getD t undef = .int .i64 n := by
  obtain ⟨M, _, _, _, hr⟩ := h
  have := hr t
  rw [hl] at this
  obtain ⟨cs, h1, h2⟩ := this
  have h3 : cs = [.int .i64 n] := h1.1
  subst h3
  exact h2
theorem known_u64 {R : Ref} {s : St} {a : Act} {w : World} {t : Nat} {n : Int} (h : IsSt R s a w) (hl : s.look t = .val (.int .u64) n) : a.tmps.getD t undef = .int .u64 n := by
  obtain ⟨M, _, _, _, hr⟩ := h
  have := hr t
  rw [hl] at this
  obtain ⟨cs, h1, h2⟩ := this
  have h3 : cs = [.int .u64 n] := h1.1
  subst h3
  exact h2
theorem known_u32 {R : Ref} {s : St} {a : Act} {w : World} {t : Nat} {n : Int} (h : IsSt R s a w) (hl : s.look t = .val (.int .u32) n) : a.tmps.getD t undef = .int .u32 n := by
  obtain ⟨M, _, _, _, hr⟩ := h
  have := hr t
  rw [hl] at this
  obtain ⟨cs, h1, h2⟩ := this
  have h3 : cs = [.int .u32 n] := h1.1
  subst h3
  exact h2
theorem known_str {R : Ref} {s : St} {a : Act} {w : World} {t : Nat} {n : List UInt8} (h : IsSt R s a w) (hl : s.look t = .val .str n) : a.tmps.getD t undef = .string ⟨⟨n⟩⟩ := by
  obtain ⟨M, _, _, _, hr⟩ := h
  have := hr t
  rw [hl] at this
  obtain ⟨cs, h1, h2⟩ := this
  have h3 : cs = [.string ⟨⟨n⟩⟩] := h1.1
  subst h3
  exact h2
def rThen : Code → Code
  | .cond _ x _ => x
  | _ => .skip
def rElse : Code → Code
  | .cond _ _ x => x
  | _ => .skip
def rIn : Code → Code
  | .block _ c => c
  | _ => .skip
def rOps : Code → Array Oper
  | .region _ ops _ => ops
  | _ => #[]
def rOp (c : Code) (i : Nat) : Oper := (rOps c).getD i default
def rNth (c : Code) (i : Nat) : Code := (seqs c).getD i .skip
end Go.Ev
/- Configurations as texts, in plain Lean. -/
set_option linter.unusedVariables false
set_option linter.unusedSimpArgs false
namespace Go.Ev
def numBad (n : Int) : Bool := bif decide (n < (0 : Int)) then true else decide (n > (1073741824 : Int))
def rulesBad (r : DRules) : Bool := bif numBad r.1 then true else bif numBad r.2.1 then true else bif numBad r.2.2.1 then true else numBad r.2.2.2
def headT (c : DConf) : List UInt8 := (([110, 111, 100, 101, 32] ++ textN (withF 0 c.1)) ++ [10, 114, 117, 108, 101, 115]) ++ ([32] ++ itoaF c.2.1.1) ++ ([32] ++ itoaF c.2.1.2.1) ++ ([32] ++ itoaF c.2.1.2.2.1) ++ ([32] ++ itoaF c.2.1.2.2.2) ++ [10]
/-- One link's line. -/
def lineB (c : DCosts) (n : Int) : List UInt8 := ((([108, 105, 110, 107, 32] ++ textN (withF 0 n)) ++ [32]) ++ natT (c.2.getD n.toNat 0).toNat) ++ [10]
def linesB (c : DCosts) (l : List Int) : List UInt8 := l.flatMap (lineB c)
theorem lines_cons (c : DCosts) (j : Int) (l : List Int) : linesB c (j :: l) = lineB c j ++ linesB c l := rfl
theorem lineB_len (c : DCosts) (n : Int) : (lineB c n).length ≤ 60 := by
  have h1 := textN_len (withF 0 n)
  have h3 := digN_len 20 (c.2.getD n.toNat 0).toNat
  unfold lineB natT
  simp only [List.length_append, List.length_cons, List.length_nil]
  omega
def printF (c : DConf) : List UInt8 × Int := bif (bif !rightF c.1 then true else !soundF c.2.2) then ([], 1) else bif rulesBad c.2.1 then ([], 1) else (headT c ++ linesB c.2.2 (elemsF c.2.2.1 16), 0)
theorem print_bad {c : DConf} (h : (bif !rightF c.1 then true else !soundF c.2.2) = true) : ([], (1 : Int)) = printF c := by unfold printF; rw [h]; rfl
theorem print_num {c : DConf} (h : (bif !rightF c.1 then true else !soundF c.2.2) = false) (h2 : rulesBad c.2.1 = true) : ([], (1 : Int)) = printF c := by unfold printF; rw [h, h2]; rfl
theorem print_good {c : DConf} (h : (bif !rightF c.1 then true else !soundF c.2.2) = false) (h2 : rulesBad c.2.1 = false) : (headT c ++ linesB c.2.2 (elemsF c.2.2.1 16), (0 : Int)) = printF c := by unfold printF; rw [h, h2]; rfl
theorem rb1 {r : DRules} (h : numBad r.1 = true) : rulesBad r = true := by unfold rulesBad; rw [h]; rfl
theorem rb2 {r : DRules} (h1 : numBad r.1 = false) (h : numBad r.2.1 = true) : rulesBad r = true := by unfold rulesBad; rw [h1, h]; rfl
theorem rb3 {r : DRules} (h1 : numBad r.1 = false) (h2 : numBad r.2.1 = false) (h : numBad r.2.2.1 = true) : rulesBad r = true := by unfold rulesBad; rw [h1, h2, h]; rfl
theorem rb4 {r : DRules} (h1 : numBad r.1 = false) (h2 : numBad r.2.1 = false) (h3 : numBad r.2.2.1 = false) {b : Bool} (h : numBad r.2.2.2 = b) : rulesBad r = b := by unfold rulesBad; rw [h1, h2, h3, h]; rfl
theorem within_iff {n a b : Int} : withinF n a b = true ↔ a ≤ n ∧ n ≤ b := by
  unfold withinF
  by_cases h : n ≥ a
  · rw [decide_eq_true h]
    show decide (n ≤ b) = true ↔ _
    rw [decide_eq_true_eq]
    exact ⟨fun h2 => ⟨h, h2⟩, fun h2 => h2.2⟩
  · rw [decide_eq_false h]
    exact ⟨(fun h2 => by cases h2), fun h2 => absurd h2.1 h⟩
theorem and_true' {a b : Bool} (h : (bif a then b else false) = true) : a = true ∧ b = true := by cases a <;> simp_all
theorem num_ok {n : Int} (h0 : 0 ≤ n) (h1 : n ≤ 1073741824) : numBad n = false := by
  unfold numBad
  rw [decide_eq_false (show ¬ n < 0 by omega), decide_eq_false (show ¬ n > 1073741824 by omega)]; rfl
theorem rules_ok {r : DRules} (h : rulesF r = true) : rulesBad r = false := by
  unfold rulesF at h
  obtain ⟨h, h4⟩ := and_true' h
  obtain ⟨h, h3⟩ := and_true' h
  obtain ⟨h, h2b⟩ := and_true' h
  obtain ⟨h1, h2a⟩ := and_true' h
  have q1 := within_iff.1 h1
  have q2 := of_decide_eq_true h2a
  have q3 := of_decide_eq_true h2b
  have q4 := within_iff.1 h3
  have q5 := within_iff.1 h4
  exact rb4 (num_ok (by omega) (by omega)) (num_ok (by omega) (by omega)) (num_ok (by omega) (by omega)) (num_ok (by omega) (by omega))
theorem right_print {c : DConf} (h : (confF c != 0) = false) : ((printF c).2 == (0 : Int)) = true := by
  unfold confF at h
  cases h1 : (bif !rightF c.1 then true else !soundF c.2.2) with
  | true => rw [h1] at h; cases h
  | false =>
    rw [h1] at h
    cases h2 : hasF c.2.2.1 c.1 with
    | true => rw [h2] at h; cases h
    | false =>
      rw [h2] at h
      cases h3 : rulesF c.2.1 with
      | false => rw [h3] at h; cases h
      | true => rw [← print_good h1 (rules_ok h3)]; rfl
theorem pair_both (a b : DConf) : cpairF a b = cpairF b a := by
  unfold cpairF
  have e : (a.1 != b.1) = (b.1 != a.1) := by
    rw [Bool.eq_iff_iff]
    simp only [bne_iff_ne, ne_eq]
    exact ⟨fun h h2 => h h2.symm, fun h h2 => h h2.symm⟩
  rw [e]
  cases (b.1 != a.1) <;> cases hasF a.2.2.1 b.1 <;> cases hasF b.2.2.1 a.1 <;> rfl
theorem pair_one (a : DConf) : cpairF a a = false := by
  unfold cpairF
  simp
end Go.Ev
