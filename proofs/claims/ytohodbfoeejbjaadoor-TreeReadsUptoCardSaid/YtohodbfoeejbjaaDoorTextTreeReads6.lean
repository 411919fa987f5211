/- Another world to start from, but for a set of blocks that no box owns. -/
import Derived.Lib.TrailingZeros
import Derived.Test.YtohodbfoeejbjaaDoorTextTreeReads5

set_option linter.unusedVariables false
set_option linter.unusedSimpArgs false
namespace Go.Ev
theorem rebaseK {R0 R : Ref} {K K' : Nat → Prop} {s : St} {a : Act} {w w' : World} (h : IsSt R s a w) (back : ∀ M, InvM R M → InvM R0 M) (hK : ∀ k, K k → k < R.w0.heap.size ∧ ¬ R.own k ∧ ∀ o, ¬ R.S0 k o)
    (hK' : ∀ k, K' k → K k ∨ w.heap.size ≤ k) (hnew : ∀ k, K' k → R0.w0.heap.size ≤ k) (hlt : ∀ k, K' k → k < w'.heap.size)
    (hos : w'.os = w.os) (htape : w'.tape = w.tape) (hout : w'.output = w.output) (hsz : w.heap.size ≤ w'.heap.size) (hcell : ∀ k, k < w.heap.size → ¬ K' k → w'.heap[k]? = w.heap[k]?) :
    ∃ R' : Ref, R'.w0 = w' ∧ (∀ k, K' k → k < R'.w0.heap.size ∧ ¬ R'.own k ∧ ∀ o, ¬ R'.S0 k o) ∧ IsSt R' s a w' ∧ ∀ M, InvM R' M → InvM R0 M := by
  obtain ⟨M, rfl, hb, I, hr⟩ := h
  have I0 := back M I
  have noS : ∀ k o, K' k → ¬ M.S k o := by
    intro k o hk hs
    obtain ⟨h1, h2⟩ := I.here k o hs
    rcases hK' k hk with h3 | h3
    · obtain ⟨g1, g2, g3⟩ := hK k h3
      rcases h1 with h1 | h1 | h1
      · exact g3 o h1
      · omega
      · exact g2 h1
    · omega
  have notK : ∀ k, R.new k → k < M.w.heap.size → ¬ K' k := by
    intro k hn hl hk
    rcases hK' k hk with h3 | h3
    · obtain ⟨g1, g2, g3⟩ := hK k h3
      rcases hn with h1 | h1
      · omega
      · exact g2 h1
    · omega
  have hblk' : ∀ b d B, lk b M.bs = some (d, B) → ∀ k, blkOf (M.β b) = some k → ¬ K' k := by
    intro b d B hB k hk
    have hRB := I.boxes b d B hB
    have hl := hRB.lt k hk
    refine notK k ?_ hl
    cases B with
    | var g x =>
      obtain ⟨blk, cs, e, h1, h2, h3, h4, h5⟩ := hRB
      rw [h1] at hk
      simp [blkOf] at hk
      subst hk
      exact h5
    | row e g xs fz =>
      obtain ⟨cs, h1, h2, h3, h4, h5, h6⟩ := hRB
      exact (h6 k hk).1
    | iter y pos => exact hRB.new k hk
  have hk : Keeps M.S M.S M.w w' := by
    intro k o hS
    exact ⟨hS, cell_of_heap (hcell k (I.here k o hS).2 (fun hk => noS k o hk hS))⟩
  have ref : ∀ {R1 R2 : Ref} {v : Value} {B : Box} {W : World} {S : Stab}, (∀ blk, R1.new blk → blkOf v = some blk → R2.new blk) → RelB R1 W S v B → RelB R2 W S v B := by
    intro R1 R2 v B W S hn hB
    cases B with
    | var g x =>
      obtain ⟨blk, cs, e, h1, h2, h3, h4, h5⟩ := hB
      exact ⟨blk, cs, e, h1, h2, h3, h4, hn blk h5 (by rw [h1]; rfl)⟩
    | row e g xs fz =>
      obtain ⟨cs, h1, h2, h3, h4, h5, h6⟩ := hB
      exact ⟨cs, h1, h2, h3, h4, h5, fun blk hb => ⟨hn blk (h6 blk hb).1 hb, (h6 blk hb).2⟩⟩
    | iter y pos =>
      obtain ⟨blk, h1, h2, h3, h4, h5⟩ := hB
      exact ⟨blk, h1, h2, h3, h4, hn blk h5 (by rw [h1]; rfl)⟩
  have st : Step M { M with w := w' } (fun _ => False) := ⟨hk, fun b d B h _ => ⟨d, B, h, rfl, Box.le_refl B⟩⟩
  refine ⟨⟨w', fun k => R0.new k ∧ ¬ K' k, M.S, (R0.tab.keeps I0.old).keeps hk⟩, rfl, fun k h => ⟨hlt k h, fun g => g.2 h, fun o => noS k o h⟩, ?_, ?_⟩
  · refine ⟨{ M with w := w' }, rfl, hb, ⟨rfl, rfl, rfl, Nat.le_refl _, fun _ _ _ => rfl, Keeps.refl _ _, fun b o hs => ⟨.inl hs, Nat.lt_of_lt_of_le (I.here b o hs).2 hsz⟩, fun b d B hB => ?_, I.sep⟩, fun t => (hr t).step st (fun b hb => hb.elim)⟩
    have hRB := I0.boxes b d B hB
    have hm := hRB.move hk (fun blk hblk => hcell blk (hRB.lt blk hblk) (hblk' b d B hB blk hblk)) (fun blk o hblk hs => hs)
    exact ref (fun blk hn hv => .inr ⟨hn, hblk' b d B hB blk hv⟩) hm
  · intro M2 I2
    refine ⟨I2.os.trans (hos.trans I0.os), I2.tape.trans (htape.trans I0.tape), I2.output.trans (hout.trans I0.output), Nat.le_trans I0.size (Nat.le_trans hsz I2.size), ?_, I0.old.trans (hk.trans I2.old), ?_, ?_, I2.sep⟩
    · intro k h1 h2
      have hkc : ¬ K' k := fun h => by have := hnew k h; omega
      have hno : ¬ (R0.new k ∧ ¬ K' k) := by
        rintro ⟨h3 | h3, _⟩
        · omega
        · exact h2 h3
      have h4 : k < M.w.heap.size := Nat.lt_of_lt_of_le h1 I0.size
      exact (I2.frame k (Nat.lt_of_lt_of_le h4 hsz) hno).trans ((hcell k h4 hkc).trans (I0.frame k h1 h2))
    · intro b o hs
      obtain ⟨h1, h2⟩ := I2.here b o hs
      refine ⟨?_, h2⟩
      rcases h1 with h1 | h1 | h1
      · exact (I0.here b o h1).1
      · exact .inr (.inl (Nat.le_trans (Nat.le_trans I0.size hsz) h1))
      · exact .inr h1.1
    · intro b d B hB
      refine ref (fun blk hn _ => ?_) (I2.boxes b d B hB)
      rcases hn with h1 | h1
      · exact .inl (Nat.le_trans (Nat.le_trans I0.size hsz) h1)
      · exact h1.1

section
variable {P : Program} {C : Ctx} {b : Frame} {Q : Exit → Act → World → Prop} {a : Act} {w : World} {ops : Array Oper} {l : List Nat}
/-- In these slots this is known; some slots hold these values; these blocks are such. -/
structure Kd (R0 : Ref) (K : Nat → Prop) (W : Nat → Option Obj) (n : Nat) (sl : List (Nat × Value)) (s : St) (a : Act) (w : World) : Prop where
  new : ∀ k, K k → R0.w0.heap.size ≤ k
  size : a.tmps.size = n
  defers : a.defers = []
  slots : ∀ p ∈ sl, a.tmps.getD p.1 undef = p.2
  st : ∃ R : Ref, (∀ k, K k → k < R.w0.heap.size ∧ ¬ R.own k ∧ ∀ o, ¬ R.S0 k o) ∧ (∀ k, K k → R.w0.heap[k]? = W k) ∧ IsSt R s a w ∧ ∀ M, InvM R M → InvM R0 M
variable {R0 : Ref} {K : Nat → Prop} {W : Nat → Option Obj} {n : Nat} {sl : List (Nat × Value)} {s : St}
theorem Kd.heap (h : Kd R0 K W n sl s a w) {k : Nat} (hk : K k) : w.heap[k]? = W k := by
  obtain ⟨R, h1, h2, h3, _⟩ := h.st
  rw [h3.frame (h1 k hk).1 (h1 k hk).2.1]
  exact h2 k hk
theorem Kd.old (h : Kd R0 K W n sl s a w) : IsSt R0 s a w := by
  obtain ⟨R, _, _, ⟨M, hM, hb, I, hr⟩, h4⟩ := h.st
  exact ⟨M, hM, hb, h4 M I, hr⟩
theorem Kd.start (h : IsSt R0 s a w) (hs : a.tmps.size = n) (hd : a.defers = []) (hsl : ∀ p ∈ sl, a.tmps.getD p.1 undef = p.2) : Kd R0 (fun _ => False) W n sl s a w :=
  ⟨fun _ h => h.elim, hs, hd, hsl, R0, fun _ h => h.elim, fun _ h => h.elim, h, fun _ I => I⟩
theorem Kd.world {K' : Nat → Prop} {W' : Nat → Option Obj} {w' : World} (h : Kd R0 K W n sl s a w) (hK' : ∀ k, K' k → K k ∨ w.heap.size ≤ k) (hlt : ∀ k, K' k → k < w'.heap.size) (hW : ∀ k, K' k → w'.heap[k]? = W' k)
    (hos : w'.os = w.os) (htape : w'.tape = w.tape) (hout : w'.output = w.output) (hsz : w.heap.size ≤ w'.heap.size) (hcell : ∀ k, k < w.heap.size → ¬ K' k → w'.heap[k]? = w.heap[k]?) : Kd R0 K' W' n sl s a w' := by
  have hg := h.old.grow
  obtain ⟨R, h1, h2, h3, h4⟩ := h.st
  have hn : ∀ k, K' k → R0.w0.heap.size ≤ k := fun k hk => by
    rcases hK' k hk with h5 | h5
    · exact h.new k h5
    · omega
  obtain ⟨R', e, g1, g2, g3⟩ := rebaseK h3 h4 h1 hK' hn hlt hos htape hout hsz hcell
  exact ⟨hn, h.size, h.defers, h.slots, R', g1, fun k hk => by rw [e]; exact hW k hk, g2, g3⟩
theorem Kd.restr {L : LoopSpec} {s' : St} (h : Kd R0 K W n sl s a w) (hr : restrict L s = some s') : Kd R0 K W n sl s' a w := by
  obtain ⟨R, h1, h2, h3, h4⟩ := h.st
  exact ⟨h.new, h.size, h.defers, h.slots, R, h1, h2, h3.restr (restrict_spec hr), h4⟩
/-- A slot that nothing is known of takes a value that is to be kept. -/
theorem Kd.keep {k : Nat} {v : Value} (h : Kd R0 K W n sl s a w) (hl : s.look k = .undef) (hk : k < n) (hd : ∀ p ∈ sl, p.1 ≠ k) : Kd R0 K W n ((k, v) :: sl) s (a.put (some k) v) w := by
  obtain ⟨R, h1, h2, h3, h4⟩ := h.st
  have hk' : k < a.tmps.size := by rw [h.size]; exact hk
  refine ⟨h.new, (put_size _ _ _).trans h.size, (put_defers' _ _ _).trans h.defers, fun p hp => ?_, R, h1, h2, h3.put_undef hl hk', h4⟩
  rcases List.mem_cons.1 hp with rfl | hp
  · exact put_at hk'
  · exact (put_same hk' (hd p hp)).trans (h.slots p hp)
theorem Kd.less {sl' : List (Nat × Value)} (h : Kd R0 K W n sl s a w) (hs : ∀ p ∈ sl', p ∈ sl) : Kd R0 K W n sl' s a w :=
  ⟨h.new, h.size, h.defers, fun p hp => h.slots p (hs p hp), h.st⟩
theorem Kd.op (TOK : TysOK P C.τ) (GOK : CtrsOK P C.Γ) {i : Nat} {o : Oper} {e : Eff} (h : Kd R0 K W n sl s a w) (ho : ops[i]? = some o) (hg : o.guard = none) (he : opEff C.τ C.Γ (o.dst.getD 0) o (s.args o) = some e) (hn : e.ok) (hk : ∀ k, o.dst = some k → k < n ∧ ∀ p ∈ sl, p.1 ≠ k)
    (hnext : ∀ a' w', Kd R0 K W n sl (s.after o e) a' w' → RegTo P b ops l Q a' w') : RegTo P b ops (i :: l) Q a w := by
  obtain ⟨R, h1, h2, h3, h4⟩ := h.st
  refine RegTo.op TOK GOK ho hg h3 he hn (fun k hk' => by rw [h.size]; exact (hk k hk').1) fun a' w' h5 h6 => hnext a' w' ⟨h.new, h6.size.trans h.size, h6.defers.trans h.defers, fun p hp => (h6.tmps p.1 (fun hd => (hk p.1 hd).2 p hp rfl)).trans (h.slots p hp), R, h1, h2, h5, h4⟩
/-- Pieces that keep out of these slots. -/
def farL (ts : List Nat) (cs : List Code) : Bool := cs.all fun x => (writes x).all fun t => ts.all fun d => !(Nat.beq t d)
theorem farL_out {ts : List Nat} {cs : List Code} (h : farL ts cs = true) {d : Nat} (hd : d ∈ ts) : ∀ x ∈ cs, d ∉ writes x := fun x hx ht => by
  unfold farL at h
  rw [List.all_eq_true] at h
  have h1 := h x hx
  rw [List.all_eq_true] at h1
  have h2 := h1 d ht
  rw [List.all_eq_true] at h2
  have h3 := h2 d hd
  simp at h3
theorem Kd.piece (TOK : TysOK P C.τ) (GC : CtrsOK P C.Γ) (hmix : P.follows .mixedOrders = true) {fn : Func} {res : List GTy} {ts : List (Nat × Sh)} {bs : List (Nat × BSh)} {rest cs : List Code} {G : Option (dens res) × Option (ShT ts × ShB bs) → Prop} (h : Kd R0 K W n sl s a w) (hcalm : calmL n n cs = true) (hfar : farL (sl.map (·.1)) cs = true) (hG : (pieceT C fn res ts bs cs s).holds G)
    (hret : ∀ y s' a' w', G (some y, none) → IsSt R0 s' a' w' → a'.defers = [] → (evRes C fn res (.normal, s')).holds (fun z => z = y) → Q .ret a' w')
    (hgo : ∀ x a' w', G (none, some x) → Kd R0 K W n sl (mkS ts bs x) a' w' → LTo P b rest Q a' w')
    (hbad : ¬ G (none, none)) : LTo P b (cs ++ rest) Q a w := by
  obtain ⟨R, h1, h2, h3, h4⟩ := h.st
  have hsz := calmL_wr hcalm
  refine piece_to TOK GC hmix (calmL_lam hcalm) (fun x hx t ht => by rw [h.size]; exact (hsz x hx t ht).1) h3 hG ?_ ?_ hbad
  · rintro y s' a' w' k1 ⟨M, hM, hb, I, hr⟩ k3 k4
    exact hret y s' a' w' k1 ⟨M, hM, hb, h4 M I, hr⟩ (k3.trans h.defers) k4
  · intro x a' w' k1 k2 k3 k4 k5
    exact hgo x a' w' k1 ⟨h.new, k3.trans h.size, k4.trans h.defers, fun p hp => (k5 p.1 (farL_out hfar (List.mem_map_of_mem hp))).trans (h.slots p hp), R, h1, h2, k2, h4⟩
/-- A loop, with what holds at its head and what goes down. -/
theorem CodeTo.loop {c : Code} (I : Nat → Act → World → Prop) (n0 : Nat) (h0 : I n0 a w) (round : ∀ n a w, I n a w → CodeTo P b c (Exit.then (fun a' w' => ∃ m, m < n ∧ I m a' w') Q) a w) : CodeTo P b (.loop c) Q a w := by
  intro k cs
  have key : ∀ n a w, I n a w → ∃ e a' w', Q e a' w' ∧ Arrives P (lone (b.at a (.code c :: .inLoop c :: k)) cs w) b k cs e a' w' := by
    intro n
    induction n using Nat.strongRecOn with
    | _ n ih =>
      intro a w hI
      obtain ⟨e, a1, w1, hq, harr⟩ := round n a w hI (.inLoop c :: k) cs
      cases e with
      | normal =>
        obtain ⟨m, hlt, hI1⟩ := hq
        obtain ⟨e2, a2, w2, hq2, harr2⟩ := ih m hlt a1 w1 hI1
        exact ⟨e2, a2, w2, hq2, .of_steps (Steps.trans harr (.one step_inLoop)) harr2⟩
      | exit id => exact ⟨_, a1, w1, hq, .pass (x := .inLoop c) rfl (fun _ _ => .inl (by simp)) harr⟩
      | goto l => exact ⟨_, a1, w1, hq, .pass (x := .inLoop c) rfl (fun _ _ => .inl (by simp)) harr⟩
      | ret => exact ⟨_, a1, w1, hq, .pass (x := .inLoop c) rfl (fun _ _ => .inl (by simp)) harr⟩
      | panic ch => exact ⟨_, a1, w1, hq, .pass (x := .inLoop c) rfl (fun _ _ => .inl (by simp)) harr⟩
      | outgrown => exact ⟨_, a1, w1, hq, .pass (x := .inLoop c) rfl (fun _ _ => .inl (by simp)) harr⟩
  obtain ⟨e, a', w', hq, harr⟩ := key n0 a w h0
  exact ⟨e, a', w', hq, .of_steps (.one step_loop) harr⟩
/-- A block: its own exit is its end. -/
theorem CodeTo.block {id : Nat} {c : Code} (h : CodeTo P b c (Exit.inBlock id Q) a w) : CodeTo P b (.block id c) Q a w := by
  intro k cs
  obtain ⟨e, a1, w1, hq, harr⟩ := h (.inBlock id :: k) cs
  cases e with
  | normal => exact ⟨.normal, a1, w1, hq, .head step_block (Steps.trans harr (.one step_inBlock))⟩
  | exit id' =>
    by_cases hid : id' = id
    · simp only [Exit.inBlock, hid, if_true] at hq
      exact ⟨.normal, a1, w1, hq, .head step_block (harr k (by simp [exitTo, hid]))⟩
    · simp only [Exit.inBlock, hid, if_false] at hq
      refine ⟨.exit id', a1, w1, hq, fun k' hk => .head step_block (harr k' ?_)⟩
      have : (id == id') = false := by simp; exact fun h => hid h.symm
      simp [exitTo, this, hk]
  | goto l => exact ⟨_, a1, w1, hq, fun k' hk => .head step_block (harr k' (by simp [gotoIn, hk]))⟩
  | ret => exact ⟨_, a1, w1, hq, .of_steps (.one step_block) harr⟩
  | panic ch => exact ⟨_, a1, w1, hq, .of_steps (.one step_block) harr⟩
  | outgrown => exact ⟨_, a1, w1, hq, .of_steps (b := b) (k := k) (cs := cs) (e := .outgrown) (.one step_block) harr⟩
theorem CodeTo.exit {id : Nat} (h : Q (.exit id) a w) : CodeTo P b (.exit id) Q a w := fun _ _ => ⟨.exit id, a, w, h, fun _ hk => .one (step_exit hk)⟩
end
end Go.Ev
/- A call beside the evaluator: of a function, or of a function value, whose Calls is given. -/
set_option linter.unusedVariables false
set_option linter.unusedSimpArgs false
namespace Go.Ev
open Go.Conc
theorem yields_call {P : Program} {ρ : Operand → Value} {o : Oper} {w : World} {K : Value → World → Prop} {x : Operand} {aas : Array Operand} {ts : Array TypeId} {f : Nat} {caps : Array Value} {fn : Func} {R : Ending → World → Prop}
    (ho : o.op = .call { callee := .value x, args := aas, argTypes := ts }) (hx : ρ x = .func (.func f) #[] caps) (hf : P.funcs[f]? = some fn) (hb : fn.body.isNone = false) (hn : (fn.name == "runtime.NumGoroutine") = false)
    (h : Calls P f (aas.map ρ ++ caps) w R) (hR : ∀ e w', R e w' → ∃ v, e = .returned v ∧ K v w') : Yields P ρ o w K := by
  have hrun : (execOp ρ o).run P w = .ok (.enter f (aas.map ρ ++ caps)) w := by
    simp only [execOp, ho, resolve, hx, Deferred.ofValue, Sem.run_bind]
    have h2' : ¬ fn.body = none := by intro hh; rw [hh] at hb; simp at hb
    have h3' : ¬ fn.name = "runtime.NumGoroutine" := by simpa using hn
    simp [invoke, callFunc, hf, h2', h3']
  unfold Yields
  rw [hrun]
  exact h.mono hR
section
variable {P : Program} {C : Ctx} {b : Frame} {Q : Exit → Act → World → Prop} {a : Act} {w : World} {ops : Array Oper} {l : List Nat} {R0 : Ref} {K : Nat → Prop} {W : Nat → Option Obj} {n : Nat} {sl : List (Nat × Value)} {s : St}
/-- What a part of a tuple is. -/
theorem RegTo.extract {i j : Nat} {o : Oper} {x : Operand} {vs : Array Value} {v : Value} (ho : ops[i]? = some o) (hg : o.guard = none) (hop : o.op = .extract x j) (hx : a.eval x = .tuple vs) (hv : vs[j]? = some v) (h : RegTo P b ops l Q (a.put o.dst v) w) : RegTo P b ops (i :: l) Q a w := by
  refine RegTo.value ho hg (v := v) (w' := w) ?_ h
  unfold execOp
  rw [hop]
  simp [hx, hv, Instr.extract]
/-- A slot's value, moved. -/
theorem RegTo.moved {i : Nat} {o : Oper} {x : Operand} (ho : ops[i]? = some o) (hg : o.guard = none) (hop : o.op = .move x ∨ o.op = .assign x) (h : RegTo P b ops l Q (a.put o.dst (a.eval x)) w) : RegTo P b ops (i :: l) Q a w := by
  refine RegTo.value ho hg (v := a.eval x) (w' := w) ?_ h
  unfold execOp
  rcases hop with hop | hop <;> rw [hop] <;> rfl
/-- A call that writes only kept blocks and new ones; what it leaves in new blocks is kept, or not. -/
theorem Kd.call {i f : Nat} {o : Oper} {x : Operand} {ar : Array Operand} {ts : Array TypeId} {caps args : Array Value} {fn : Func} {R : Ending → World → Prop} (h : Kd R0 K W n sl s a w)
    (ho : ops[i]? = some o) (hg : o.guard = none) (hop : o.op = .call { callee := .value x, args := ar, argTypes := ts }) (hx : a.eval x = .func (.func f) #[] caps) (hargs : ar.map a.eval ++ caps = args) (hf : P.funcs[f]? = some fn) (hb : fn.body.isNone = false) (hn : (fn.name == "runtime.NumGoroutine") = false)
    (hc : Calls P f args w R)
    (hR : ∀ e w', R e w' → ∃ v K' W', e = .returned v ∧ (∀ k, K' k → K k ∨ w.heap.size ≤ k) ∧ (∀ k, K' k → k < w'.heap.size) ∧ (∀ k, K' k → w'.heap[k]? = W' k) ∧ w'.os = w.os ∧ w'.tape = w.tape ∧ w'.output = w.output ∧ w.heap.size ≤ w'.heap.size ∧ (∀ k, k < w.heap.size → ¬ K' k → w'.heap[k]? = w.heap[k]?) ∧
      (Kd R0 K' W' n sl s a w' → RegTo P b ops l Q (a.put o.dst v) w')) : RegTo P b ops (i :: l) Q a w := by
  refine RegTo.yields ho hg (K := fun v w' => RegTo P b ops l Q (a.put o.dst v) w') (yields_call hop hx hf hb hn (hargs ▸ hc) fun e w' hr => ?_) (fun v w' hv => hv)
  obtain ⟨v, K', W', h1, h2, h3, h4, h5, h6, h7, h8, h9, h10⟩ := hR e w' hr
  exact ⟨v, h1, h10 (h.world h2 h3 h4 h5 h6 h7 h8 h9)⟩
theorem LTo.cons {c : Code} {cs : List Code} (h : CodeTo P b c (Exit.then (LTo P b cs Q) Q) a w) : LTo P b (c :: cs) Q a w := h
theorem Kd.known {k : Nat} {v : Value} {av : AV} (h : Kd R0 K W n sl s a w) (hv : ∀ M, RelV M av v) (hk : k < n) (hd : ∀ p ∈ sl, p.1 ≠ k) : Kd R0 K W n sl (s.put k av) (a.put (some k) v) w := by
  obtain ⟨R, h1, h2, h3, h4⟩ := h.st
  have hk' : k < a.tmps.size := by rw [h.size]; exact hk
  exact ⟨h.new, (put_size _ _ _).trans h.size, (put_defers' _ _ _).trans h.defers, fun p hp => (put_same hk' (hd p hp)).trans (h.slots p hp), R, h1, h2, h3.put_known hv hk', h4⟩
/-- Operations of a region, told by the evaluator, read back. -/
def opsT (C : Ctx) (ts : List (Nat × Sh)) (bs : List (Nat × BSh)) (l : List Oper) (s : St) : Tree (Option (ShT ts × ShB bs)) :=
  (runOps C l s).bind fun s' => match restrict { prom := [], keep := ts.map (·.1), boxes := bs.map (·.1), sum := fun _ => .stuck } s' with
    | none => .stuck
    | some s'' => .leaf (unS ts bs s'')
def farO (n : Nat) (ds : List Nat) (l : List Oper) : Bool := l.all fun o => o.guard.isNone && match o.dst with
  | some d => Nat.blt d n && ds.all fun t => !(Nat.beq t d)
  | none => true
theorem Kd.ops_run (TOK : TysOK P C.τ) (GOK : CtrsOK P C.Γ) {F : St → Prop} {l2 : List Nat} : ∀ (l1 : List Nat) {s : St} {a : Act} {w : World}, Kd R0 K W n sl s a w → (∀ i ∈ l1, i < ops.size) → farO n (sl.map (·.1)) (l1.map fun i => ops.getD i default) = true → (runOps C (l1.map fun i => ops.getD i default) s).holds F →
    (∀ s' a' w', F s' → Kd R0 K W n sl s' a' w' → RegTo P b ops l2 Q a' w') → RegTo P b ops (l1 ++ l2) Q a w
  | [], s, a, w, h, _, _, hF, hgo => hgo s a w hF h
  | i :: l1, s, a, w, h, hi, hfar, hF, hgo => by
    have hlt := hi i (by simp)
    have ho : ops[i]? = some (ops.getD i default) := by simp [hlt]
    generalize ops.getD i default = o at *
    have ho2 : ops.getD i default = o := by simp [Array.getD_eq_getD_getElem?, ho]
    simp only [List.map_cons, ho2] at hfar hF
    unfold farO at hfar
    rw [List.all_cons, Bool.and_eq_true, Bool.and_eq_true] at hfar
    obtain ⟨⟨hg, hd⟩, hrest⟩ := hfar
    simp only [runOps] at hF
    split at hF
    · exact hF.elim
    · rename_i e he
      have hF' : e.ok ∧ (runOps C (l1.map fun i => ops.getD i default) (s.after o e)).holds F := by
        cases hn : e.need with
        | none =>
          rw [hn] at hF
          exact ⟨(fun p hp => by rw [hn] at hp; cases hp), hF⟩
        | some p =>
          rw [hn] at hF
          exact ⟨(fun q hq => by rw [hn] at hq; cases hq; exact hF.1), hF.2⟩
      refine h.op TOK GOK ho (by simpa using hg) he hF'.1 (fun k hk => ?_) fun a' w' h' => Kd.ops_run TOK GOK l1 h' (fun j hj => hi j (by simp [hj])) (by unfold farO; exact hrest) hF'.2 hgo
      rw [hk] at hd
      simp only [Bool.and_eq_true, Nat.blt_eq] at hd
      refine ⟨hd.1, fun p hp => ?_⟩
      have := List.all_eq_true.1 hd.2 p.1 (List.mem_map_of_mem hp)
      intro e
      rw [e] at this
      simp at this
theorem Kd.opsL (TOK : TysOK P C.τ) (GOK : CtrsOK P C.Γ) {ts : List (Nat × Sh)} {bs : List (Nat × BSh)} {G : Option (ShT ts × ShB bs) → Prop} {l2 : List Nat} (l1 : List Nat) (h : Kd R0 K W n sl s a w) (hi : (l1.all fun i => Nat.blt i ops.size) = true) (hfar : farO n (sl.map (·.1)) (l1.map fun i => ops.getD i default) = true)
    (hG : (opsT C ts bs (l1.map fun i => ops.getD i default) s).holds G) (hgo : ∀ x a' w', G (some x) → Kd R0 K W n sl (mkS ts bs x) a' w' → RegTo P b ops l2 Q a' w') (hbad : ¬ G none) : RegTo P b ops (l1 ++ l2) Q a w := by
  refine h.ops_run TOK GOK l1 (fun i hm => ?_) hfar (holds_bind.1 hG) fun s' a' w' hF h' => ?_
  · have := List.all_eq_true.1 hi i hm
    simpa [Nat.blt_eq] using this
  · split at hF
    · exact hF.elim
    · rename_i s'' hr
      have h5 := h'.restr hr
      simp only [Tree.holds] at hF
      cases hu : unS ts bs s'' with
      | none => rw [hu] at hF; exact absurd hF hbad
      | some x =>
        rw [hu] at hF
        have := unS_eq hu
        subst this
        exact hgo x a' w' hF h5
end
theorem known_u8 {R : Ref} {s : St} {a : Act} {w : World} {t : Nat} {n : Int} (h : IsSt R s a w) (hl : s.look t = .val (.int .u8) n) : a.tmps.getD t undef = .int .u8 n := by
  obtain ⟨M, _, _, _, hr⟩ := h
  have := hr t
  rw [hl] at this
  obtain ⟨cs, h1, h2⟩ := this
  have h3 : cs = [.int .u8 n] := h1.1
  subst h3
  exact h2
theorem known_i64 {R : Ref} {s : St} {a : Act} {w : World} {t : Nat} {n : Int} (h : IsSt R s a w) (hl : s.look t = .val (.int .i64) n) : a.tmps.getD t undef = .int .i64 n := by
  obtain ⟨M, _, _, _, hr⟩ := h
  have := hr t
  rw [hl] at this
  obtain ⟨cs, h1, h2⟩ := this
  have h3 : cs = [.int .i64 n] := h1.1
  subst h3
  exact h2
theorem known_u64 {R : Ref} {s : St} {a : Act} {w : World} {t : Nat} {n : Int} (h : IsSt R s a w) (hl : s.look t = .val (.int .u64) n) : a.tmps.getD t undef = .int .u64 n := by
  obtain ⟨M, _, _, _, hr⟩ := h
  have := hr t
  rw [hl] at this
  obtain ⟨cs, h1, h2⟩ := this
  have h3 : cs = [.int .u64 n] := h1.1
  subst h3
  exact h2
theorem known_u32 {R : Ref} {s : St} {a : Act} {w : World} {t : Nat} {n : Int} (h : IsSt R s a w) (hl : s.look t = .val (.int .u32) n) : a.tmps.getD t undef = .int .u32 n := by
  obtain ⟨M, _, _, _, hr⟩ := h
  have := hr t
  rw [hl] at this
  obtain ⟨cs, h1, h2⟩ := this
  have h3 : cs = [.int .u32 n] := h1.1
  subst h3
  exact h2
theorem known_str {R : Ref} {s : St} {a : Act} {w : World} {t : Nat} {n : List UInt8} (h : IsSt R s a w) (hl : s.look t = .val .str n) : a.tmps.getD t undef = .string ⟨⟨n⟩⟩ := by
  obtain ⟨M, _, _, _, hr⟩ := h
  have := hr t
  rw [hl] at this
  obtain ⟨cs, h1, h2⟩ := this
  have h3 : cs = [.string ⟨⟨n⟩⟩] := h1.1
  subst h3
  exact h2
def rThen : Code → Code
  | .cond _ x _ => x
  | _ => .skip
def rElse : Code → Code
  | .cond _ _ x => x
  | _ => .skip
def rIn : Code → Code
  | .block _ c => c
  | _ => .skip
def rOps : Code → Array Oper
  | .region _ ops _ => ops
  | _ => #[]
def rOp (c : Code) (i : Nat) : Oper := (rOps c).getD i default
def rNth (c : Code) (i : Nat) : Code := (seqs c).getD i .skip
end Go.Ev
/- Sound costs, and configurations that may be, plainly. -/
set_option linter.unusedVariables false
set_option linter.unusedSimpArgs false
namespace Go.Ev
def costAt (c : DCosts) (n : Int) : Int := c.2.getD n.toNat 0
def okAt (c : DCosts) (n : Int) : Bool := bif hasF c.1 n then rcostF (costAt c n) else costAt c n == 0
def allOk (c : DCosts) : Nat → Bool
  | 0 => true
  | k + 1 => okAt c (16 - (k + 1 : Nat)) && allOk c k
def soundF (c : DCosts) : Bool := bif bif decide (c.1 < 0) then true else decide (c.1 ≥ 65536) then false else allOk c 16
def firstBad (c : DCosts) : Nat → Int
  | 0 => 16
  | k + 1 => bif okAt c (16 - (k + 1 : Nat)) then firstBad c k else 16 - (k + 1 : Nat)

def goodL (c : DCosts) (l : List Int) : Bool := l.all fun n => rcostF (costAt c n)
def fillL (c : DCosts) : List Int → List Int → List Int
  | [], w => w
  | n :: r, w => fillL c r (w.set n.toNat (costAt c n))
def badL (c : DCosts) : List Int → List Int → Int → Int × List Int
  | [], w, i => (i, w)
  | n :: r, w, i => bif rcostF (costAt c n) then badL c r (w.set n.toNat (costAt c n)) (i + 1) else (i, w)

theorem drop_step {α : Type} {l : List α} {i : Int} (d : α) (h0 : 0 ≤ i) (h1 : i < l.length) : l.drop i.toNat = l.getD i.toNat d :: l.drop (i + 1).toNat := by
  have h : i.toNat < l.length := by omega
  rw [List.drop_eq_getElem_cons h, show (i + 1).toNat = i.toNat + 1 by omega]
  simp [List.getD, h]

theorem mem_elems {s n : Int} : ∀ {k : Nat}, k ≤ 16 → (n ∈ elemsF s k ↔ 16 - (k : Int) ≤ n ∧ n < 16 ∧ hasF s n = true)
  | 0, _ => by simp [elemsF]; omega
  | k + 1, hk => by
    rw [elemsF, List.mem_append, mem_elems (by omega)]
    by_cases hn : n = 16 - ((k + 1 : Nat) : Int)
    · subst hn
      cases hasF s (16 - ((k + 1 : Nat) : Int)) <;> simp <;> omega
    · have : n ∈ (bif hasF s (16 - ((k + 1 : Nat) : Int)) then [(16 : Int) - ((k + 1 : Nat) : Int)] else []) ↔ False := by
        cases hasF s (16 - ((k + 1 : Nat) : Int)) with
        | false => simp
        | true => simp only [cond_true, List.mem_singleton, hn]
      rw [this, false_or]
      constructor
      · rintro ⟨a, b, c⟩; exact ⟨by omega, b, c⟩
      · rintro ⟨a, b, c⟩; exact ⟨by omega, b, c⟩

theorem allOk_iff {c : DCosts} : ∀ {k : Nat}, k ≤ 16 → (allOk c k = true ↔ ∀ n : Int, 16 - (k : Int) ≤ n → n < 16 → okAt c n = true)
  | 0, _ => by simp [allOk]; intro n h1 h2; omega
  | k + 1, hk => by
    rw [allOk, Bool.and_eq_true, allOk_iff (by omega)]
    constructor
    · rintro ⟨a, b⟩ n h1 h2
      by_cases hn : n = 16 - ((k + 1 : Nat) : Int)
      · rw [hn]; exact a
      · exact b n (by omega) h2
    · intro h
      exact ⟨h _ (by omega) (by omega), fun n h1 h2 => h n (by omega) h2⟩

theorem fill_len (c : DCosts) : ∀ (l w : List Int), (fillL c l w).length = w.length
  | [], w => rfl
  | n :: r, w => by rw [fillL, fill_len c r]; simp
theorem fill_get (c : DCosts) : ∀ (l w : List Int) (j : Nat), (∀ n ∈ l, 0 ≤ n) → j < w.length → (fillL c l w).getD j 0 = if (j : Int) ∈ l then costAt c j else w.getD j 0
  | [], w, j, _, hj => by simp [fillL]
  | n :: r, w, j, hp, hj => by
    have hn := hp n (by simp)
    rw [fillL, fill_get c r _ j (fun m hm => hp m (by simp [hm])) (by simpa using hj)]
    by_cases h : (j : Int) ∈ r
    · simp [h]
    · rw [if_neg h]
      by_cases h2 : (j : Int) = n
      · subst h2
        simp [hj]
      · have h3 : n.toNat ≠ j := by omega
        have h4 : ¬ (j : Int) ∈ n :: r := by simp [h, h2]
        rw [if_neg h4]
        simp [List.getD, List.getElem?_set, h3]

theorem go_int {k : IntKind} : ∀ (x y : List Int), x.length = y.length → geq.go (geq (.int k)) x y = decide (x = y)
  | [], [], _ => rfl
  | a :: x, b :: y, h => by
    have ih := go_int (k := k) x y (by simpa using h)
    simp only [geq.go, ih]
    show (a == b && decide (x = y)) = _
    rw [Bool.eq_iff_iff]
    simp
  | [], _ :: _, h => by simp at h
  | _ :: _, [], h => by simp at h
theorem geqArr {n : Nat} {k : IntKind} {x y : List Int} (h : x.length = y.length) : geq (.arr n (.int k)) x y = decide (x = y) := go_int x y h

theorem sound_core {c : DCosts} (hl : c.2.length = 16) :
    (bif goodL c (elemsF c.1 16) then geq (.arr 16 (.int .u32)) c.2 (fillL c (elemsF c.1 16) (List.replicate 16 0)) else false) = allOk c 16 := by
  obtain ⟨z, hz⟩ : ∃ z, z = List.replicate 16 (0 : Int) := ⟨_, rfl⟩
  have zl : z.length = 16 := by rw [hz]; rfl
  have z0 : ∀ j, z.getD j 0 = 0 := fun j => by
    rw [hz, List.getD, List.getElem?_replicate]
    split <;> rfl
  rw [← hz]
  clear hz
  rw [geqArr (by rw [fill_len, hl, zl]), Bool.eq_iff_iff, allOk_iff (Nat.le_refl _)]
  have hpos : ∀ n ∈ elemsF c.1 16, (0 : Int) ≤ n := fun n hn => by
    have := (mem_elems (Nat.le_refl _)).1 hn
    omega
  have hg : goodL c (elemsF c.1 16) = true ↔ ∀ n : Int, 0 ≤ n → n < 16 → hasF c.1 n = true → rcostF (costAt c n) = true := by
    unfold goodL
    rw [List.all_eq_true]
    constructor
    · intro h n h1 h2 h3
      exact h n ((mem_elems (Nat.le_refl _)).2 ⟨by omega, h2, h3⟩)
    · intro h n hn
      obtain ⟨h1, h2, h3⟩ := (mem_elems (Nat.le_refl _)).1 hn
      exact h n (by omega) h2 h3
  have he : c.2 = fillL c (elemsF c.1 16) z ↔ ∀ n : Int, 0 ≤ n → n < 16 → hasF c.1 n = false → costAt c n = 0 := by
    constructor
    · intro h n h1 h2 h3
      have hg := fill_get c (elemsF c.1 16) z n.toNat hpos (by omega)
      rw [← h] at hg
      have hm : ¬ ((n.toNat : Nat) : Int) ∈ elemsF c.1 16 := by
        rw [show ((n.toNat : Nat) : Int) = n by omega, mem_elems (Nat.le_refl _), h3]
        simp
      rw [if_neg hm] at hg
      unfold costAt
      rw [hg]
      exact z0 _
    · intro h
      apply List.ext_getElem
      · rw [fill_len, hl, zl]
      · intro j h1 h2
        have hj : j < 16 := by omega
        have hg := fill_get c (elemsF c.1 16) z j hpos (by omega)
        have e1 : (fillL c (elemsF c.1 16) z).getD j 0 = (fillL c (elemsF c.1 16) z)[j] := by rw [List.getD, List.getElem?_eq_getElem h2]; rfl
        have e2 : costAt c j = c.2[j] := by simp [costAt, List.getD, h1]
        rw [← e1, hg, ← e2]
        cases hb : hasF c.1 j with
        | true => rw [if_pos ((mem_elems (Nat.le_refl _)).2 ⟨by omega, by omega, hb⟩)]
        | false =>
          have hm : ¬ (j : Int) ∈ elemsF c.1 16 := by rw [mem_elems (Nat.le_refl _), hb]; simp
          rw [if_neg hm, h j (by omega) (by omega) hb]
          exact (z0 _).symm
  constructor
  · intro h n h1 h2
    cases hgg : goodL c (elemsF c.1 16) with
    | false => rw [hgg] at h; cases h
    | true =>
      rw [hgg] at h
      have h' := he.1 (of_decide_eq_true h)
      unfold okAt
      cases hb : hasF c.1 n with
      | true => exact hg.1 hgg n (by omega) h2 hb
      | false =>
        have := h' n (by omega) h2 hb
        simp [this]
  · intro h
    have h1 : goodL c (elemsF c.1 16) = true := hg.2 fun n h1 h2 h3 => by
      have := h n (by omega) h2
      unfold okAt at this
      rw [h3] at this
      exact this
    rw [h1]
    simp only [cond_true, decide_eq_true_eq]
    refine he.2 fun n h1 h2 h3 => ?_
    have := h n (by omega) h2
    unfold okAt at this
    rw [h3] at this
    simpa using this
theorem round_ok {c : DCosts} {n : Int} :
    (bif !geq GTy.bool (hasF c.1 n) (bif decide (costAt c n ≥ 1) then decide (costAt c n ≤ 65536) else false) then true else bif !hasF c.1 n then costAt c n != 0 else false) = !okAt c n := by
  unfold okAt rcostF
  rw [geqB]
  cases hasF c.1 n with
  | true => simp
  | false =>
    by_cases h : costAt c n = 0
    · simp [h]
    · have : (costAt c n != 0) = true := by simpa using h
      rw [this]
      have h2 : (costAt c n == 0) = false := by simpa using h
      rw [h2]
      simp
theorem sound_fn {c : DCosts} (hl : c.2.length = 16) :
    (bif bif decide (c.1 < 0) then true else decide (c.1 ≥ 65536) then false else bif goodL c (elemsF c.1 16) then geq (.arr 16 (.int .u32)) c.2 (fillL c (elemsF c.1 16) (List.replicate 16 0)) else false) = soundF c := by
  rw [sound_core hl]
  rfl
theorem rsound_fn (c : DCosts) : (bif allOk c 16 then bif decide (c.1 ≥ 0) then decide (c.1 ≤ 65535) else false else false) = soundF c := by
  unfold soundF
  cases allOk c 16 <;> by_cases h1 : c.1 < 0 <;> by_cases h2 : c.1 ≥ 65536 <;> simp [h1, h2] <;> omega
end Go.Ev
/- Equality of values, told as equality. -/
set_option linter.unusedVariables false
namespace Go.Ev
theorem geq_go_self {α : Type} {f : α → α → Bool} (h : ∀ x, f x x = true) : ∀ l : List α, geq.go f l l = true
  | [] => rfl
  | x :: l => by rw [geq_go_cons, h, geq_go_self h l]; rfl
theorem geq_self : ∀ (g : GTy) (x : den g), cmp g = true → geq g x x = true
  | .bool, x, _ => by simp [geq]
  | .int _, x, _ => by simp [geq]
  | .str, x, _ => by simp [geq]
  | .unit, _, _ => rfl
  | .prod a b, x, h => by
    have h' : (cmp a && cmp b) = true := h
    rw [Bool.and_eq_true] at h'
    show (geq a x.1 x.1 && geq b x.2 x.2) = true
    rw [geq_self a _ h'.1, geq_self b _ h'.2]; rfl
  | .arr n a, x, h => geq_go_self (fun y => geq_self a y h) x
  | .sl _, _, h => by cases h
  | .err, _, h => by cases h
theorem geq_go_eq {α : Type} {f : α → α → Bool} {p : α → Prop} (h : ∀ x y, p x → p y → f x y = true → x = y) :
    ∀ l m : List α, l.length = m.length → (∀ x ∈ l, p x) → (∀ x ∈ m, p x) → geq.go f l m = true → l = m
  | [], [], _, _, _, _ => rfl
  | [], _ :: _, e, _, _, _ => by cases e
  | _ :: _, [], e, _, _, _ => by cases e
  | x :: l, y :: m, e, hl, hm, g => by
    rw [geq_go_cons, Bool.and_eq_true] at g
    rw [h x y (hl x (List.mem_cons_self ..)) (hm y (List.mem_cons_self ..)) g.1,
      geq_go_eq h l m (by simpa using e) (fun z hz => hl z (List.mem_cons_of_mem _ hz)) (fun z hz => hm z (List.mem_cons_of_mem _ hz)) g.2]
theorem geq_eq : ∀ (g : GTy) (x y : den g), cmp g = true → wt g x → wt g y → geq g x y = true → x = y
  | .bool, x, y, _, _, _, h => by simpa [geq] using h
  | .int _, x, y, _, _, _, h => by simpa [geq] using h
  | .str, x, y, _, _, _, h => by simpa [geq] using h
  | .unit, _, _, _, _, _, _ => rfl
  | .prod a b, x, y, c, hx, hy, h => by
    have c' : (cmp a && cmp b) = true := c
    rw [Bool.and_eq_true] at c'
    have h' : (geq a x.1 y.1 && geq b x.2 y.2) = true := h
    rw [Bool.and_eq_true] at h'
    exact Prod.ext (geq_eq a _ _ c'.1 hx.1 hy.1 h'.1) (geq_eq b _ _ c'.2 hx.2 hy.2 h'.2)
  | .arr n a, x, y, c, hx, hy, h => geq_go_eq (p := wt a) (fun u v hu hv g => geq_eq a u v c hu hv g) x y (hx.1.trans hy.1.symm) hx.2 hy.2 h
  | .sl _, _, _, c, _, _, _ => by cases c
  | .err, _, _, c, _, _, _ => by cases c
end Go.Ev
/- Counts, in plain Lean. -/
set_option linter.unusedVariables false
set_option linter.unusedSimpArgs false
namespace Go.Ev
/-- A row gone through, place by place: what is behind place i is still to be turned. -/
def restF (n : Nat) (f : Nat → Int → Int) (i : Nat) (o : List Int) : List Int := (List.range n).map fun j => bif Nat.blt j i then o.getD j 0 else f j (o.getD j 0)
theorem blt_true {j i : Nat} (h : j < i) : Nat.blt j i = true := by rw [Nat.blt_eq]; exact h
theorem blt_false {j i : Nat} (h : ¬ j < i) : Nat.blt j i = false := by
  cases hb : Nat.blt j i with
  | false => rfl
  | true => rw [Nat.blt_eq] at hb; exact absurd hb h
theorem getD_set {o : List Int} {i j : Nat} {v : Int} (h : i < o.length) : (o.set i v).getD j 0 = if i = j then v else o.getD j 0 := by
  simp only [List.getD, List.getElem?_set]
  by_cases hij : i = j
  · subst hij; simp [h]
  · simp [hij]
theorem restF_step {n : Nat} {f : Nat → Int → Int} {i : Nat} {o : List Int} (ho : o.length = n) (hi : i < n) : restF n f (i + 1) (o.set i (f i (o.getD i 0))) = restF n f i o := by
  unfold restF
  refine List.map_congr_left fun j hj => ?_
  rw [getD_set (by omega)]
  by_cases h1 : j < i
  · rw [blt_true h1, blt_true (by omega), if_neg (by omega)]
  · by_cases h2 : i = j
    · subst h2
      rw [blt_true (by omega), blt_false (by omega), if_pos rfl]; rfl
    · rw [blt_false h1, blt_false (by omega), if_neg h2]
theorem restF_end {n : Nat} {f : Nat → Int → Int} {o : List Int} (ho : o.length = n) : restF n f n o = o := by
  unfold restF
  refine List.ext_getElem (by simp [ho]) fun j h1 h2 => ?_
  have : j < n := by rw [ho] at h2; exact h2
  simp [blt_true this, List.getD, h2]
theorem restF_get {n : Nat} {f : Nat → Int → Int} {o : List Int} {j : Nat} (hj : j < n) : (restF n f 0 o).getD j 0 = f j (o.getD j 0) := by
  unfold restF
  simp [List.getD, hj, blt_false (Nat.not_lt_zero j)]
theorem restF_len {n : Nat} {f : Nat → Int → Int} {i : Nat} {o : List Int} : (restF n f i o).length = n := by simp [restF]
theorem list_ext {n : Nat} {a b : List Int} (ha : a.length = n) (hb : b.length = n) (h : ∀ j, j < n → a.getD j 0 = b.getD j 0) : a = b := by
  refine List.ext_getElem (by omega) fun j h1 h2 => ?_
  have := h j (by omega)
  simpa [List.getD, h1, h2] using this
theorem set_same {o : List Int} {i : Nat} (h : i < o.length) : o.set i (o.getD i 0) = o :=
  list_ext (n := o.length) (by simp) rfl fun j hj => by
    rw [getD_set h]
    split
    · rename_i e; rw [e]
    · rfl
/-- A count, and n more. -/
def satF (a n : Int) : Int := bif bif bif decide (n ≤ 0) then true else decide (a < 0) then true else decide (a > (1152921504606846976 : Int)) then a else a + min n ((1152921504606846976 : Int) - a)
def inF (w : Int) : Bool := bif decide (w < 0) then false else decide (w < 8)
def caddF (l : List Int) (w n : Int) : List Int := bif inF w then l.set w.toNat (satF (l.getD w.toNat 0) n) else l
def cgetF (l : List Int) (w : Int) : Int := bif inF w then l.getD w.toNat 0 else 0
def plusF (o x : List Int) : List Int := restF 8 (fun j v => satF v (x.getD j 0)) 0 o
def csumF (l : List (List Int)) : List Int := l.foldl plusF (List.replicate 8 0)
def difB (old now : List Int) (j : Nat) : Bool := bif decide (old.getD j 0 ≥ 0) then decide (now.getD j 0 > old.getD j 0) else false
def cdiffF (old now : List Int) : List Int := restF 8 (fun j v => bif difB old now j then now.getD j 0 - old.getD j 0 else v) 0 (List.replicate 8 0)
def wordsL : List (List UInt8) := [[102, 114, 97, 109, 101, 115], [98, 97, 100], [111, 108, 100], [104, 101, 114, 101], [111, 110], [116, 116, 108], [110, 111, 110, 101], [114, 101, 115, 101, 116]]
def digF (n : Int) : List UInt8 := bif decide (n < 0) then [45] else natT n.toNat
def pieceF (i : Nat) (n : Int) : List UInt8 :=
  bif n == 0 then [] else ((wordsL.getD i [] ++ [32]) ++ digF n) ++ [10]
def textK (l : List Int) : Nat → List UInt8
  | 0 => []
  | k + 1 => pieceF (7 - k) (l.getD (7 - k) 0) ++ textK l k
def ctextF (l : List Int) : List UInt8 := textK l 8
theorem digF_len (n : Int) : (digF n).length ≤ 20 := by
  unfold digF natT
  have h2 := digN_len 20 n.toNat
  cases decide (n < 0) <;> simp <;> omega
theorem words_len (i : Nat) : (wordsL.getD i []).length ≤ 6 := by
  match i with
  | 0 | 1 | 2 | 3 | 4 | 5 | 6 | 7 => decide
  | i + 8 => simp [wordsL, List.getD]
theorem pieceF_len (i : Nat) (n : Int) : (pieceF i n).length ≤ 28 := by
  unfold pieceF
  have h1 := words_len i
  have h2 := digF_len n
  cases n == 0 with
  | true => simp
  | false => simp only [cond_false, List.length_append, List.length_cons, List.length_nil]; omega
theorem itoa_pos {n : Int} (h : 0 < n) : itoaF n = digF n := by
  unfold itoaF digF
  have : decide (n < 0) = false := by simp; omega
  rw [this]; rfl
theorem satF_id {a n : Int} (h : n ≤ 0 ∨ a < 0 ∨ a > (1152921504606846976 : Int)) : satF a n = a := by
  unfold satF
  have : (bif bif decide (n ≤ 0) then true else decide (a < 0) then true else decide (a > (1152921504606846976 : Int))) = true := by
    rcases h with h | h | h
    · simp [h]
    · cases decide (n ≤ 0) <;> simp [h]
    · cases decide (n ≤ 0) <;> cases decide (a < 0) <;> simp [h]
  rw [this]; rfl
theorem satF_go {a n : Int} (h1 : 0 < n) (h2 : 0 ≤ a) (h3 : a ≤ (1152921504606846976 : Int)) : satF a n = a + min n ((1152921504606846976 : Int) - a) := by
  unfold satF
  have e1 : decide (n ≤ 0) = false := by simp; omega
  have e2 : decide (a < 0) = false := by simp; omega
  have e3 : decide (a > (1152921504606846976 : Int)) = false := by simp; omega
  rw [e1, e2, e3]; rfl
theorem sat_stop {v n : Int} (h : (bif bif decide (n ≤ 0) then true else decide (v < 0) then true else decide (v > (1152921504606846976 : Int))) = true) : satF v n = v := by
  unfold satF; rw [h]; rfl
theorem sat_neg {v n : Int} (h : (bif decide (n ≤ 0) then true else decide (v < 0)) = true) : satF v n = v := by
  unfold satF; rw [h]; rfl
theorem sat_pos {v n : Int} (h : (bif decide (n ≤ 0) then true else decide (v < 0)) = false) : 0 < n ∧ 0 ≤ v := by
  cases h1 : decide (n ≤ 0) with
  | true => rw [h1] at h; cases h
  | false =>
    rw [h1] at h
    have h1' := of_decide_eq_false h1
    have h2' : ¬ v < 0 := of_decide_eq_false h
    omega
theorem cadd_at {o : List Int} {i n : Int} (h0 : 0 ≤ i) (h1 : i < 8) : caddF o i n = o.set i.toNat (satF (o.getD i.toNat 0) n) := by
  unfold caddF inF
  have e1 : decide (i < 0) = false := by simp; omega
  have e2 : decide (i < 8) = true := by simp; omega
  rw [e1, e2]; rfl
theorem diff_at {o old now : List Int} {i : Nat} (ho : o.length = 8) (hi : i < 8) (hn : IntKind.i64.has (now.getD i 0)) :
    (bif difB old now i then o.set i (IntKind.wrap IntKind.i64 (now.getD i 0 - old.getD i 0)) else o) = o.set i (bif difB old now i then now.getD i 0 - old.getD i 0 else o.getD i 0) := by
  rw [has_i64] at hn
  cases h : difB old now i with
  | false =>
    show o = o.set i (o.getD i 0)
    rw [set_same (by omega)]
  | true =>
    unfold difB at h
    cases h1 : decide (old.getD i 0 ≥ 0) with
    | false => rw [h1] at h; cases h
    | true =>
      rw [h1] at h
      have h1' := of_decide_eq_true h1
      have h2' : now.getD i 0 > old.getD i 0 := of_decide_eq_true h
      simp only [cond_true]
      rw [i64_id (by omega) (by omega)]
theorem restF_all {n : Nat} {f : Nat → Int → Int} {i : Nat} {o : List Int} (ho : o.length = n) (hi : n ≤ i) : restF n f i o = o := by
  unfold restF
  refine List.ext_getElem (by simp [ho]) fun j h1 h2 => ?_
  have : j < i := by omega
  simp [blt_true this, List.getD, h2]
theorem drop_row {l : List (List Int)} {i : Int} (d : List Int) (h0 : 0 ≤ i) (h1 : i < l.length) : l.drop i.toNat = l.getD i.toNat d :: l.drop (i + 1).toNat := by
  have hlt : i.toNat < l.length := by omega
  rw [List.drop_eq_getElem_cons hlt, show (i + 1).toNat = i.toNat + 1 by omega]
  simp [List.getD, hlt]
theorem dig_one {x : Int} (h0 : 0 ≤ x) (h1 : x < 10) : bytesToStr [IntKind.wrap IntKind.u8 (IntKind.wrap IntKind.i64 ((48 : Int) + x))] = digF x := by
  rw [show IntKind.wrap IntKind.i64 ((48 : Int) + x) = 48 + x from i64_id (by omega) (by omega), show IntKind.wrap IntKind.u8 ((48 : Int) + x) = 48 + x from u8_id (by omega) (by omega)]
  unfold digF natT
  have e : decide (x < 0) = false := by simp; omega
  have e2 : Nat.blt x.toNat 10 = true := blt_true (by omega)
  rw [e]
  show _ = (bif Nat.blt x.toNat 10 then _ else _)
  rw [e2]
  show [UInt8.ofNat (48 + x).toNat] = [UInt8.ofNat (48 + x.toNat)]
  rw [show (48 + x).toNat = 48 + x.toNat by omega]
theorem dig_more {x : Int} (h0 : ¬ x < 10) (h1 : x ≤ 9223372036854775807) : digF (IntKind.wrap IntKind.i64 (Int.tdiv x (10 : Int))) ++ bytesToStr [IntKind.wrap IntKind.u8 (IntKind.wrap IntKind.i64 ((48 : Int) + Int.tmod x (10 : Int)))] = digF x := by
  rw [Int.tdiv_eq_ediv_of_nonneg (by omega), Int.tmod_eq_emod_of_nonneg (by omega)]
  rw [show IntKind.wrap IntKind.i64 (x / 10) = x / 10 from i64_id (by omega) (by omega), show IntKind.wrap IntKind.i64 ((48 : Int) + x % 10) = 48 + x % 10 from i64_id (by omega) (by omega), show IntKind.wrap IntKind.u8 ((48 : Int) + x % 10) = 48 + x % 10 from u8_id (by omega) (by omega)]
  unfold digF natT
  have e : decide (x < 0) = false := by simp; omega
  have e1 : decide (x / 10 < 0) = false := by simp; omega
  have e2 : Nat.blt x.toNat 10 = false := blt_false (by omega)
  rw [e, e1]
  show digN 20 (x / 10).toNat ++ _ = (bif Nat.blt x.toNat 10 then _ else digN 19 (x.toNat / 10) ++ [UInt8.ofNat (48 + x.toNat % 10)])
  rw [e2]
  simp only [cond_false]
  rw [show (x / 10).toNat = x.toNat / 10 by omega, digN_more 19 (x.toNat / 10) (by omega) (by omega)]
  show _ ++ [UInt8.ofNat (48 + x % 10).toNat] = _
  rw [show (48 + x % 10).toNat = 48 + x.toNat % 10 by omega]
theorem textK_len (l : List Int) : ∀ k, (textK l k).length ≤ 28 * k
  | 0 => Nat.le_refl _
  | k + 1 => by
    have := textK_len l k
    have h2 := pieceF_len (7 - k) (l.getD (7 - k) 0)
    simp only [textK, List.length_append]
    omega
theorem piece_eq (out : List UInt8) (i : Nat) (v : Int) : (bif decide (v > 0) then out ++ (((wordsL.getD i [] ++ [32]) ++ itoaF v) ++ [10]) else bif decide (v < 0) then out ++ (wordsL.getD i [] ++ [32, 45, 10]) else out) = out ++ pieceF i v := by
  unfold pieceF
  by_cases hp : v > 0
  · have e1 : decide (v > 0) = true := by simpa using hp
    have e2 : (v == 0) = false := by simp; omega
    rw [e1, e2, itoa_pos hp]; rfl
  · have e1 : decide (v > 0) = false := by simpa using hp
    rw [e1]
    by_cases hn : v < 0
    · have e2 : decide (v < 0) = true := by simpa using hn
      have e3 : (v == 0) = false := by simp; omega
      rw [e2, e3]
      unfold digF
      rw [e2]
      simp
    · have e2 : decide (v < 0) = false := by simpa using hn
      have e3 : (v == 0) = true := by simp; omega
      rw [e2, e3]
      simp
theorem rpiece_eq (out : List UInt8) (i : Nat) (v : Int) : (bif v != 0 then out ++ (((wordsL.getD i [] ++ [32]) ++ digF v) ++ [10]) else out) = out ++ pieceF i v := by
  unfold pieceF
  cases h : v == 0 with
  | true => simp [bne, h]
  | false => simp [bne, h]
theorem text_step (out : List UInt8) (l : List Int) {i : Int} (h0 : 0 ≤ i) (h1 : i < 8) : (out ++ pieceF i.toNat (l.getD i.toNat 0)) ++ textK l (8 - (i + 1).toNat) = out ++ textK l (8 - i.toNat) := by
  have hk : 8 - i.toNat = (7 - i.toNat) + 1 := by omega
  rw [hk, show 8 - (i + 1).toNat = 7 - i.toNat by omega, List.append_assoc]
  show _ = out ++ (pieceF (7 - (7 - i.toNat)) (l.getD (7 - (7 - i.toNat)) 0) ++ textK l (7 - i.toNat))
  rw [show 7 - (7 - i.toNat) = i.toNat by omega]
theorem satF_ge {a n : Int} (h0 : 0 ≤ a) (h1 : a ≤ 1152921504606846976) : a ≤ satF a n ∧ satF a n ≤ 1152921504606846976 := by
  by_cases hn : n ≤ 0
  · rw [satF_id (.inl hn)]; omega
  · rw [satF_go (by omega) h0 h1]; omega
theorem caddF_len {l : List Int} {w n : Int} (h : l.length = 8) : (caddF l w n).length = 8 := by
  unfold caddF
  cases inF w with
  | true => simp [h]
  | false => exact h
theorem caddF_get {l : List Int} {w n : Int} (h : l.length = 8) (hl : ∀ j, 0 ≤ l.getD j 0 ∧ l.getD j 0 ≤ 1152921504606846976) (j : Nat) : l.getD j 0 ≤ (caddF l w n).getD j 0 ∧ (caddF l w n).getD j 0 ≤ 1152921504606846976 := by
  unfold caddF
  cases hi : inF w with
  | false => exact ⟨Int.le_refl _, (hl j).2⟩
  | true =>
    have hw : w.toNat < l.length := by
      unfold inF at hi
      cases h1 : decide (w < 0) with
      | true => rw [h1] at hi; cases hi
      | false =>
        rw [h1] at hi
        have h2 : w < 8 := of_decide_eq_true hi
        have := of_decide_eq_false h1
        omega
    simp only [cond_true]
    rw [getD_set hw]
    by_cases hj : w.toNat = j
    · rw [if_pos hj, ← hj]
      exact satF_ge (hl _).1 (hl _).2
    · rw [if_neg hj]
      exact ⟨Int.le_refl _, (hl j).2⟩
/-- By how much counts rose, added again. -/
theorem sum_diff {a b : List Int} (ha : a.length = 8) (hb : b.length = 8) (h : ∀ j, 0 ≤ a.getD j 0 ∧ a.getD j 0 ≤ b.getD j 0 ∧ b.getD j 0 ≤ 1152921504606846976) : csumF [a, cdiffF a b] = b := by
  show plusF (plusF (List.replicate 8 0) a) (cdiffF a b) = b
  refine list_ext (n := 8) restF_len hb fun j hj => ?_
  unfold plusF
  rw [restF_get hj, restF_get hj]
  obtain ⟨h1, h2, h3⟩ := h j
  have hz : (List.replicate 8 (0 : Int)).getD j 0 = 0 := by rw [List.getD_eq_getElem?_getD, List.getElem?_replicate, if_pos hj]; rfl
  rw [hz]
  have e1 : satF 0 (a.getD j 0) = a.getD j 0 := by
    by_cases h4 : a.getD j 0 ≤ 0
    · rw [satF_id (.inl h4)]; omega
    · rw [satF_go (by omega) (by omega) (by omega)]; omega
  rw [e1]
  have e2 : (cdiffF a b).getD j 0 = b.getD j 0 - a.getD j 0 := by
    unfold cdiffF
    rw [restF_get hj, hz]
    by_cases h4 : b.getD j 0 > a.getD j 0
    · have : difB a b j = true := by
        unfold difB
        have e1 : decide (a.getD j 0 ≥ 0) = true := decide_eq_true h1
        have e2 : decide (b.getD j 0 > a.getD j 0) = true := decide_eq_true h4
        rw [e1, e2]; rfl
      rw [this]; rfl
    · have : difB a b j = false := by
        unfold difB
        have e2 : decide (b.getD j 0 > a.getD j 0) = false := decide_eq_false h4
        rw [e2]
        cases decide (a.getD j 0 ≥ 0) <;> rfl
      rw [this]
      simp only [cond_false]
      omega
  rw [e2]
  by_cases h4 : b.getD j 0 - a.getD j 0 ≤ 0
  · rw [satF_id (.inl h4)]; omega
  · rw [satF_go (by omega) h1 (by omega)]; omega
theorem or_false' {a b : Bool} (h : (bif a then true else b) = false) : a = false ∧ b = false := by
  cases a <;> simp_all
theorem or_true' {a b : Bool} (h : (bif a then true else b) = true) : a = true ∨ b = true := by
  cases a <;> simp_all
theorem sat_more {v n : Int} (h : (bif bif decide (n ≤ 0) then true else decide (v < 0) then true else decide (v > (1152921504606846976 : Int))) = false) :
    IntKind.wrap IntKind.i64 (v + if IntKind.wrap IntKind.i64 ((1152921504606846976 : Int) - v) < n then IntKind.wrap IntKind.i64 ((1152921504606846976 : Int) - v) else n) = satF v n := by
  obtain ⟨h1, h2⟩ := or_false' h
  obtain ⟨h3, h4⟩ := sat_pos h1
  have h5 : ¬ v > 1152921504606846976 := of_decide_eq_false h2
  rw [satF_go h3 h4 (by omega), show IntKind.wrap IntKind.i64 ((1152921504606846976 : Int) - v) = 1152921504606846976 - v from i64_id (by omega) (by omega)]
  have e2 : (if 1152921504606846976 - v < n then 1152921504606846976 - v else n) = min n (1152921504606846976 - v) := by
    by_cases hh : 1152921504606846976 - v < n
    · rw [if_pos hh]; omega
    · rw [if_neg hh]; omega
  rw [e2, i64_id (by omega) (by omega)]
theorem sat_full {v n : Int} (hv : v ≤ 9223372036854775807) (h : (bif decide (n ≤ 0) then true else decide (v < 0)) = false) (h4 : (bif decide (v ≥ (1152921504606846976 : Int)) then true else decide (n ≥ IntKind.wrap IntKind.i64 ((1152921504606846976 : Int) - v))) = true) :
    (if v < (1152921504606846976 : Int) then (1152921504606846976 : Int) else v) = satF v n := by
  obtain ⟨h3, h5⟩ := sat_pos h
  rw [show IntKind.wrap IntKind.i64 ((1152921504606846976 : Int) - v) = 1152921504606846976 - v from i64_id (by omega) (by omega)] at h4
  rcases or_true' h4 with h6 | h6
  · have h6' := of_decide_eq_true h6
    rw [if_neg (by omega)]
    by_cases h7 : v = 1152921504606846976
    · rw [satF_go h3 h5 (by omega)]; omega
    · rw [satF_id (.inr (.inr (by omega)))]
  · have h6' := of_decide_eq_true h6
    by_cases h7 : v < 1152921504606846976
    · rw [if_pos h7, satF_go h3 h5 (by omega)]; omega
    · rw [if_neg h7]
      by_cases h8 : v = 1152921504606846976
      · rw [satF_go h3 h5 (by omega)]; omega
      · rw [satF_id (.inr (.inr (by omega)))]
theorem sat_room {v n : Int} (hv : v ≤ 9223372036854775807) (h : (bif decide (n ≤ 0) then true else decide (v < 0)) = false) (h4 : (bif decide (v ≥ (1152921504606846976 : Int)) then true else decide (n ≥ IntKind.wrap IntKind.i64 ((1152921504606846976 : Int) - v))) = false) :
    IntKind.wrap IntKind.i64 (v + n) = satF v n := by
  obtain ⟨h3, h5⟩ := sat_pos h
  rw [show IntKind.wrap IntKind.i64 ((1152921504606846976 : Int) - v) = 1152921504606846976 - v from i64_id (by omega) (by omega)] at h4
  obtain ⟨h6, h7⟩ := or_false' h4
  have h6' := of_decide_eq_false h6
  have h7' := of_decide_eq_false h7
  rw [satF_go h3 h5 (by omega), i64_id (by omega) (by omega)]
  omega
end Go.Ev
/- Trees of destinations, in plain Lean. -/
set_option linter.unusedVariables false
set_option linter.unusedSimpArgs false
namespace Go.Ev
abbrev gEnt : GTy := .prod (.int .u32) (.int .i64)
abbrev gTree : GTy := .arr 16 gEnt
abbrev DEnt := Int × Int
def farE : DEnt := ((4294967295 : Int), (-1 : Int))
def farT : List DEnt := List.replicate 16 farE
def entAt (t : List DEnt) (i : Nat) : DEnt := t.getD i ((0 : Int), (0 : Int))
def newT (r : Int) : List DEnt := bif rightF r then farT.set r.toNat ((0 : Int), (entAt farT r.toNat).2) else farT
def getT (t : List DEnt) (j : Int) : DEnt := bif !rightF j then farE else entAt t j.toNat
def putT (t : List DEnt) (j : Int) (e : DEnt) : List DEnt := bif rightF j then t.set j.toNat e else t
def dupB (t : List DEnt) : Nat → Int → Bool
  | 0, _ => false
  | k + 1, r => bif (entAt t (15 - k)).1 != (0 : Int) then dupB t k r else bif decide (r ≥ (0 : Int)) then true else dupB t k (15 - k : Nat)
def dupR (t : List DEnt) : Nat → Int → Int
  | 0, r => r
  | k + 1, r => bif (entAt t (15 - k)).1 != (0 : Int) then dupR t k r else bif decide (r ≥ (0 : Int)) then r else dupR t k (15 - k : Nat)
def dupI (t : List DEnt) : Nat → Int → Int
  | 0, r => r
  | k + 1, r => bif (entAt t (15 - k)).1 != (0 : Int) then dupI t k r else bif decide (r ≥ (0 : Int)) then (15 - k : Nat) else dupI t k (15 - k : Nat)
def lastR (t : List DEnt) : Nat → Int → Int
  | 0, r => r
  | k + 1, r => bif (entAt t (15 - k)).1 != (0 : Int) then lastR t k r else lastR t k (15 - k : Nat)
def rootT (t : List DEnt) : Int := bif dupB t 16 (-1) then -1 else lastR t 16 (-1)
theorem root_t {t : List DEnt} (h : dupB t 16 (-1) = true) : rootT t = -1 := by unfold rootT; rw [h]; rfl
theorem root_f {t : List DEnt} (h : dupB t 16 (-1) = false) : rootT t = lastR t 16 (-1) := by unfold rootT; rw [h]; rfl
def reachK (t : List DEnt) : Nat → Int → Int
  | 0, s => s
  | k + 1, s => reachK t k (bif (entAt t (15 - k)).1 != (4294967295 : Int) then withF s (15 - k : Nat) else s)
def reachT (t : List DEnt) : Int := reachK t 16 0
theorem ent_ext {a b : List DEnt} (ha : a.length = 16) (hb : b.length = 16) (h : ∀ j, j < 16 → entAt a j = entAt b j) : a = b := by
  refine List.ext_getElem (by omega) fun j h1 h2 => ?_
  have := h j (by omega)
  simpa [entAt, List.getD, h1, h2] using this
theorem ent_far {j : Nat} (h : j < 16) : entAt farT j = farE := by
  unfold entAt farT
  rw [List.getD_eq_getElem?_getD, List.getElem?_replicate, if_pos h]; rfl
theorem ent_set {t : List DEnt} {i j : Nat} {e : DEnt} (h : i < t.length) : entAt (t.set i e) j = if i = j then e else entAt t j := by
  unfold entAt
  simp only [List.getD, List.getElem?_set]
  by_cases hij : i = j
  · subst hij; simp [h]
  · simp [hij]
theorem step_i {i : Int} (h0 : 0 ≤ i) (h1 : i < 16) : (16 - i).toNat = (16 - (i + 1)).toNat + 1 ∧ 15 - (16 - (i + 1)).toNat = i.toNat := by omega
/-- One destination's text. -/
def entB (t : List DEnt) (j : Int) : List UInt8 := ((textN (withF 0 j) ++ natT (entAt t j.toNat).1.toNat) ++ textN (withF 0 (entAt t j.toNat).2)) ++ [32]
def treeB (t : List DEnt) : List UInt8 := (elemsF (reachT t) 16).flatMap (entB t)
theorem entB_len (t : List DEnt) (j : Int) : (entB t j).length ≤ 60 := by
  have h1 := textN_len (withF 0 j)
  have h2 := textN_len (withF 0 (entAt t j.toNat).2)
  have h3 := digN_len 20 (entAt t j.toNat).1.toNat
  unfold entB natT
  simp only [List.length_append, List.length_cons, List.length_nil]
  omega
def entsB (t : List DEnt) (l : List Int) : List UInt8 := l.flatMap (entB t)
theorem ents_cons (t : List DEnt) (j : Int) (l : List Int) : entsB t (j :: l) = entB t j ++ entsB t l := rfl
def tOK (t : List DEnt) : Prop := ∀ j : Nat, 0 ≤ (entAt t j).1 ∧ (entAt t j).1 ≤ 4294967295
theorem tOK_wt {t : List DEnt} (h : wt gTree t) : tOK t := fun j => by
  unfold entAt
  by_cases hl : j < t.length
  · have h2 := h.2 (t[j]) (List.getElem_mem hl)
    have h3 : IntKind.u32.has (t[j]).1 := h2.1
    rw [has_u32] at h3
    simpa [List.getD, hl] using h3
  · have : t.getD j ((0 : Int), (0 : Int)) = (0, 0) := by simp [List.getD, Nat.not_lt.1 hl]
    rw [this]; exact ⟨Int.le_refl _, by decide⟩
theorem udig_one {x : Int} (h0 : 0 ≤ x) (h1 : x < 10) : bytesToStr [IntKind.wrap IntKind.u8 (IntKind.wrap IntKind.u32 ((48 : Int) + x))] = natT x.toNat := by
  have h := dig_one h0 h1
  rw [show IntKind.wrap IntKind.i64 ((48 : Int) + x) = IntKind.wrap IntKind.u32 ((48 : Int) + x) by rw [i64_id (by omega) (by omega), u32_id (by omega) (by omega)]] at h
  rw [h]
  unfold digF
  rw [decide_eq_false (by omega)]
  rfl
theorem udig_more {x : Int} (h0 : ¬ x < 10) (h1 : x ≤ 4294967295) : natT (IntKind.wrap IntKind.u32 (Int.tdiv x (10 : Int))).toNat ++ bytesToStr [IntKind.wrap IntKind.u8 (IntKind.wrap IntKind.u32 ((48 : Int) + Int.tmod x (10 : Int)))] = natT x.toNat := by
  have h := dig_more h0 (by omega)
  have e1 : Int.tdiv x 10 = x / 10 := Int.tdiv_eq_ediv_of_nonneg (by omega)
  have e2 : Int.tmod x 10 = x % 10 := Int.tmod_eq_emod_of_nonneg (by omega)
  rw [e1, e2] at h ⊢
  rw [i64_id (by omega) (by omega), i64_id (by omega) (by omega)] at h
  rw [u32_id (by omega) (by omega), u32_id (by omega) (by omega)]
  unfold digF at h
  rw [decide_eq_false (by omega), decide_eq_false (by omega)] at h
  exact h
theorem tree_none : treeB farT = [] := by kernel_rfl
theorem new_none : newT (-1) = farT := by kernel_rfl
theorem wt_farT : wt gTree farT := by
  refine ⟨by kernel_rfl, fun x hx => ?_⟩
  have : x = farE := List.eq_of_mem_replicate hx
  rw [this]
  exact ⟨(has_u32 _).2 ⟨by decide, by decide⟩, (has_i64 _).2 ⟨by decide, by decide⟩⟩
theorem has_nat {m n : Nat} (hn : n < 16) : hasF (m : Int) (n : Int) = m.testBit n := by
  unfold hasF
  rw [right_nat hn, cond_true, bit_at hn, Nat.testBit_eq_decide_div_mod_eq]
  have : ((m : Int) / (2 ^ n : Nat)) % 2 = ((m / 2 ^ n % 2 : Nat) : Int) := by rw [Int.natCast_emod, Int.natCast_ediv]; rfl
  rw [this, Bool.eq_iff_iff]
  simp only [beq_iff_eq, decide_eq_true_eq]
  omega
theorem with_nat {m j : Nat} (hm : m < 65536) (hj : j < 16) : withF (m : Int) (j : Int) = ((m ||| 2 ^ j : Nat) : Int) := by
  have hp : 2 ^ j ≤ 2 ^ 15 := Nat.pow_le_pow_right (by omega) (by omega)
  have h15 : (2 : Nat) ^ 15 = 32768 := by decide
  have ho : m ||| 2 ^ j < 2 ^ 16 := Nat.or_lt_two_pow (by omega) (by omega)
  have h16 : (2 : Nat) ^ 16 = 65536 := by decide
  unfold withF
  rw [right_nat hj]
  simp only [Bool.not_true, cond_false]
  have e : min (j : Int).toNat 64 = j := by omega
  have e2 : (1 : Int) * 2 ^ j = ((2 ^ j : Nat) : Int) := by simp
  rw [e, e2]
  generalize 2 ^ j = p at hp ho ⊢
  rw [i64_id (by omega) (by omega)]
  exact or_nat (by omega) (by show (m : Int) < 2 ^ 64; omega) (by omega) (by show (p : Int) < 2 ^ 64; omega) ((has_i64 _).2 (by simp only [Int.toNat_natCast]; omega))
theorem reachK_nat (t : List DEnt) : ∀ k, k ≤ 16 → ∀ m : Nat, m < 65536 → ∃ m' : Nat, m' < 65536 ∧ reachK t k (m : Int) = (m' : Int) ∧ ∀ n, n < 16 → m'.testBit n = (m.testBit n || (decide (16 - k ≤ n) && ((entAt t n).1 != (4294967295 : Int))))
  | 0, _, m, hm => ⟨m, hm, rfl, fun n hn => by rw [decide_eq_false (by omega)]; simp⟩
  | k + 1, hk, m, hm => by
    have hw := with_nat (j := 15 - k) hm (by omega)
    have ho : m ||| 2 ^ (15 - k) < 2 ^ 16 := Nat.or_lt_two_pow (by omega) (Nat.lt_of_le_of_lt (Nat.pow_le_pow_right (by omega) (show 15 - k ≤ 15 by omega)) (by decide))
    have h16 : (2 : Nat) ^ 16 = 65536 := by decide
    cases hb : (entAt t (15 - k)).1 != (4294967295 : Int) with
    | true =>
      obtain ⟨m', h1, h2, h3⟩ := reachK_nat t k (by omega) (m ||| 2 ^ (15 - k)) (by omega)
      refine ⟨m', h1, ?_, fun n hn => ?_⟩
      · show reachK t k (bif (entAt t (15 - k)).1 != (4294967295 : Int) then withF (m : Int) ((15 - k : Nat) : Int) else (m : Int)) = _
        rw [hb, cond_true, hw, h2]
      · rw [h3 n hn, Nat.testBit_or, Nat.testBit_two_pow]
        by_cases e : 15 - k = n
        · rw [decide_eq_true e, decide_eq_true (show 16 - (k + 1) ≤ n by omega), ← e, hb]; simp
        · rw [decide_eq_false e]
          by_cases e2 : 16 - k ≤ n
          · rw [decide_eq_true e2, decide_eq_true (show 16 - (k + 1) ≤ n by omega)]; simp
          · rw [decide_eq_false e2, decide_eq_false (show ¬ 16 - (k + 1) ≤ n by omega)]; simp
    | false =>
      obtain ⟨m', h1, h2, h3⟩ := reachK_nat t k (by omega) m hm
      refine ⟨m', h1, ?_, fun n hn => ?_⟩
      · show reachK t k (bif (entAt t (15 - k)).1 != (4294967295 : Int) then withF (m : Int) ((15 - k : Nat) : Int) else (m : Int)) = _
        rw [hb, cond_false, h2]
      · rw [h3 n hn]
        by_cases e : 15 - k = n
        · rw [← e, hb]; simp
        · by_cases e2 : 16 - k ≤ n
          · rw [decide_eq_true e2, decide_eq_true (show 16 - (k + 1) ≤ n by omega)]
          · rw [decide_eq_false e2, decide_eq_false (show ¬ 16 - (k + 1) ≤ n by omega)]
theorem has_reach (t : List DEnt) {n : Int} (h0 : 0 ≤ n) (h1 : n < 16) : hasF (reachT t) n = ((entAt t n.toNat).1 != (4294967295 : Int)) := by
  obtain ⟨m', _, h2, h3⟩ := reachK_nat t 16 (by omega) 0 (by omega)
  obtain ⟨k, rfl⟩ := Int.eq_ofNat_of_zero_le h0
  have hk : k < 16 := by omega
  show hasF (reachK t 16 0) (k : Int) = _
  have h2' : reachK t 16 0 = (m' : Int) := h2
  rw [h2', has_nat hk, h3 k hk]
  simp
theorem put_get {t : List DEnt} {j i : Int} {e : DEnt} (ht : t.length = 16) (h0 : 0 ≤ j) (h1 : j < 16) (g0 : 0 ≤ i) (g1 : i < 16) : entAt (putT t j e) i.toNat = bif i == j then e else entAt t i.toNat := by
  unfold putT
  rw [rightF_iff.2 ⟨h0, h1⟩, cond_true, ent_set (by omega)]
  by_cases h : j = i
  · subst h; simp
  · rw [if_neg (by omega)]
    have : (i == j) = false := by simpa using fun h2 => h h2.symm
    rw [this]; rfl
theorem get_at {t : List DEnt} {i : Int} (g0 : 0 ≤ i) (g1 : i < 16) : getT t i = entAt t i.toNat := by
  unfold getT
  rw [rightF_iff.2 ⟨g0, g1⟩]; rfl
theorem new_root {j : Int} (h0 : 0 ≤ j) (h1 : j < 16) : rootT (newT j) = j ∧ reachT (newT j) = IntKind.i64.wrap (1 * 2 ^ min (IntKind.u64.wrap j).toNat 64) := by
  have hk : j = 0 ∨ j = 1 ∨ j = 2 ∨ j = 3 ∨ j = 4 ∨ j = 5 ∨ j = 6 ∨ j = 7 ∨ j = 8 ∨ j = 9 ∨ j = 10 ∨ j = 11 ∨ j = 12 ∨ j = 13 ∨ j = 14 ∨ j = 15 := by omega
  rcases hk with rfl | rfl | rfl | rfl | rfl | rfl | rfl | rfl | rfl | rfl | rfl | rfl | rfl | rfl | rfl | rfl <;> exact ⟨by kernel_rfl, by kernel_rfl⟩
theorem mod_in (j : Int) : 0 ≤ IntKind.i64.wrap (Int.tmod (IntKind.u64.wrap j) 16) ∧ IntKind.i64.wrap (Int.tmod (IntKind.u64.wrap j) 16) < 16 := by
  have h := wrap_has .u64 j
  rw [has_u64] at h
  rw [Int.tmod_eq_emod_of_nonneg h.1]
  have g1 := Int.emod_nonneg (IntKind.wrap .u64 j) (show (16 : Int) ≠ 0 by decide)
  have g2 := Int.emod_lt_of_pos (IntKind.wrap .u64 j) (show (0 : Int) < 16 by decide)
  rw [i64_id (by omega) (by omega)]
  exact ⟨g1, g2⟩
end Go.Ev
/- Loops told by their steps: round after round, till one does not go on. -/
set_option linter.unusedVariables false
namespace Go.Ev
/-- So many rounds at most. -/
def runF {σ : Type} (stp : σ → Ex × σ) : Nat → σ → Ex × σ
  | 0, x => (.normal, x)
  | n + 1, x => match stp x with
    | (.normal, y) => runF stp n y
    | p => p
theorem runF_go {σ : Type} {stp : σ → Ex × σ} {n : Nat} {x y : σ} (h : stp x = (.normal, y)) : runF stp (n + 1) x = runF stp n y := by
  show (match stp x with | (.normal, y) => runF stp n y | p => p) = _
  rw [h]
theorem runF_end {σ : Type} {stp : σ → Ex × σ} {n : Nat} {x : σ} (h : (stp x).1 ≠ .normal) : runF stp (n + 1) x = stp x := by
  show (match stp x with | (.normal, y) => runF stp n y | p => p) = _
  split
  · rename_i y hy
    rw [hy] at h
    exact absurd rfl h
  · rfl
/-- Enough rounds are enough. -/
theorem runF_fuel {σ : Type} {stp : σ → Ex × σ} {pre : σ → Prop} {μ : σ → Nat} (h : ∀ x, pre x → (stp x).1 = .normal → pre (stp x).2 ∧ μ (stp x).2 < μ x) : ∀ n m x, pre x → μ x < n → μ x < m → runF stp n x = runF stp m x
  | 0, _, _, _, h1, _ => by omega
  | _ + 1, 0, _, _, _, h1 => by omega
  | n + 1, m + 1, x, hp, h1, h2 => by
    by_cases hn : (stp x).1 = .normal
    · have e : stp x = (.normal, (stp x).2) := Prod.ext hn rfl
      obtain ⟨h3, h4⟩ := h x hp hn
      rw [runF_go e, runF_go e]
      exact runF_fuel h n m _ h3 (by omega) (by omega)
    · rw [runF_end hn, runF_end hn]
/-- What holds at each round's head, and what comes of it. -/
theorem runF_inv {σ : Type} {stp : σ → Ex × σ} {J : σ → Prop} {Post : Ex × σ → Prop} {μ : σ → Nat} (h : ∀ x, J x → ((stp x).1 = .normal → J (stp x).2 ∧ μ (stp x).2 < μ x) ∧ ((stp x).1 ≠ .normal → Post (stp x))) : ∀ n x, J x → μ x < n → Post (runF stp n x)
  | 0, _, _, h1 => by omega
  | n + 1, x, hp, h1 => by
    obtain ⟨h2, h3⟩ := h x hp
    by_cases hn : (stp x).1 = .normal
    · have e : stp x = (.normal, (stp x).2) := Prod.ext hn rfl
      obtain ⟨h4, h5⟩ := h2 hn
      rw [runF_go e]
      exact runF_inv h n _ h4 (by omega)
    · rw [runF_end hn]
      exact h3 hn
def isRet : Ex → Bool
  | .ret => true
  | _ => false
/-- A loop that ends in one way. -/
def out1 {σ : Type} (id : Nat) (p : Ex × σ) : Tree (Ex × σ) := .leaf (.exit id, p.2)
/-- A loop that ends, or leaves the function. -/
def out2 {σ : Type} (id : Nat) (p : Ex × σ) : Tree (Ex × σ) := .br (isRet p.1) (.leaf (.ret, p.2)) (.leaf (.exit id, p.2))
section
variable {C : Ctx} {body : Code} {D : LoopD}
theorem loopF_ok {T : ShT D.ts × ShB D.bs → Tree (Ex × Option (ShT D.ts × ShB D.bs))} (hstep : ∀ x, roundOf C D body x = T x) (stp : ShT D.ts × ShB D.bs → Ex × (ShT D.ts × ShB D.bs)) (μ : ShT D.ts × ShB D.bs → Nat)
    (O : Ex × (ShT D.ts × ShB D.bs) → Tree (Ex × (ShT D.ts × ShB D.bs))) (hD : ∀ x, D.out x = O (runF stp (μ x + 1) x)) (hO : ∀ x, D.pre x → (stp x).1 ≠ .normal → ∀ G, (O (stp x)).holds G → G (stp x))
    (h : ∀ x, D.pre x → ((T x).holds fun p => p = ((stp x).1, some (stp x).2)) ∧ ((stp x).1 = .normal → D.pre (stp x).2 ∧ μ (stp x).2 < μ x)) : LoopOK C D.spec body :=
  loopD_ok hstep μ fun x hp => by
    obtain ⟨h1, h2⟩ := h x hp
    refine holds_mono ?_ h1
    rintro p rfl
    refine ⟨(stp x).2, rfl, ?_⟩
    by_cases hn : (stp x).1 = .normal
    · obtain ⟨h3, h4⟩ := h2 hn
      have e : stp x = (.normal, (stp x).2) := Prod.ext hn rfl
      simp only [hn]
      refine ⟨h3, h4, fun G hG => ?_⟩
      rw [hD, runF_go e, runF_fuel (pre := D.pre) (μ := μ) (fun y hy => (h y hy).2) (μ x) (μ (stp x).2 + 1) _ h3 h4 (by omega)] at hG
      rw [hD]
      exact hG
    · have hfin : ∀ G, (D.out x).holds G → G ((stp x).1, (stp x).2) := fun G hG => by
        rw [hD, runF_end hn] at hG
        exact hO x hp hn G hG
      cases he : (stp x).1 with
      | normal => exact absurd he hn
      | exit k => rw [he] at hfin; exact hfin
      | ret => rw [he] at hfin; exact hfin
/-- … that ends in one way. -/
theorem loopF1_ok {T : ShT D.ts × ShB D.bs → Tree (Ex × Option (ShT D.ts × ShB D.bs))} (hstep : ∀ x, roundOf C D body x = T x) {id : Nat} (stp : ShT D.ts × ShB D.bs → Ex × (ShT D.ts × ShB D.bs)) (μ : ShT D.ts × ShB D.bs → Nat) (hD : ∀ x, D.out x = out1 id (runF stp (μ x + 1) x))
    (he : ∀ x, (stp x).1 = .normal ∨ (stp x).1 = .exit id) (h : ∀ x, D.pre x → ((T x).holds fun p => p = ((stp x).1, some (stp x).2)) ∧ ((stp x).1 = .normal → D.pre (stp x).2 ∧ μ (stp x).2 < μ x)) : LoopOK C D.spec body :=
  loopF_ok hstep stp μ (out1 id) hD (fun x _ hn G hG => by
    have h1 := (he x).resolve_left hn
    have e : stp x = (.exit id, (stp x).2) := Prod.ext h1 rfl
    rw [e]
    exact hG) h
theorem loopF2_ok {T : ShT D.ts × ShB D.bs → Tree (Ex × Option (ShT D.ts × ShB D.bs))} (hstep : ∀ x, roundOf C D body x = T x) {id : Nat} (stp : ShT D.ts × ShB D.bs → Ex × (ShT D.ts × ShB D.bs)) (μ : ShT D.ts × ShB D.bs → Nat) (hD : ∀ x, D.out x = out2 id (runF stp (μ x + 1) x))
    (he : ∀ x, (stp x).1 = .normal ∨ (stp x).1 = .exit id ∨ (stp x).1 = .ret) (h : ∀ x, D.pre x → ((T x).holds fun p => p = ((stp x).1, some (stp x).2)) ∧ ((stp x).1 = .normal → D.pre (stp x).2 ∧ μ (stp x).2 < μ x)) : LoopOK C D.spec body :=
  loopF_ok hstep stp μ (out2 id) hD (fun x _ hn G hG => by
    rcases (he x).resolve_left hn with h1 | h1
    · have e : stp x = (.exit id, (stp x).2) := Prod.ext h1 rfl
      rw [e] at hG ⊢
      exact hG.2 rfl
    · have e : stp x = (.ret, (stp x).2) := Prod.ext h1 rfl
      rw [e] at hG ⊢
      exact hG.1 rfl) h
end
end Go.Ev
/- Letters of a text, and its bytes. -/
set_option linter.unusedVariables false
set_option linter.unusedSimpArgs false
namespace Go.Ev
def byteAt (y : List UInt8) (i : Nat) : Nat := (y.getD i 0).toNat
theorem get_byte (y : List UInt8) (i : Nat) : ((ByteArray.mk ⟨y⟩).get! i).toNat = byteAt y i := by
  show ((⟨y⟩ : Array UInt8)[i]!).toNat = _
  unfold byteAt
  rw [Array.getElem!_eq_getD, List.getD_eq_getElem?_getD]
  simp [Array.getD_eq_getD_getElem?]
  rfl
theorem byteAt_lt (y : List UInt8) (i : Nat) : byteAt y i < 256 := UInt8.toNat_lt _
theorem dec_eq (y : List UInt8) (i : Nat) : decL y i =
    (let cont (k : Nat) : Bool := i + k < y.length && byteAt y (i + k) / 64 == 2
    let b0 := byteAt y (i + 0)
    if b0 < 0x80 then (b0, 1)
    else if b0 / 32 == 6 && cont 1 then
      let c := (b0 % 32) * 64 + byteAt y (i + 1) % 64
      if c ≥ 0x80 then (c, 2) else (Utf8.runeError, 1)
    else if b0 / 16 == 14 && cont 1 && cont 2 then
      let c := (b0 % 16) * 4096 + (byteAt y (i + 1) % 64) * 64 + byteAt y (i + 2) % 64
      if c ≥ 0x800 && Utf8.valid c then (c, 3) else (Utf8.runeError, 1)
    else if b0 / 8 == 30 && cont 1 && cont 2 && cont 3 then
      let c := (b0 % 8) * 262144 + (byteAt y (i + 1) % 64) * 4096 + (byteAt y (i + 2) % 64) * 64 + byteAt y (i + 3) % 64
      if c ≥ 0x10000 && Utf8.valid c then (c, 4) else (Utf8.runeError, 1)
    else (Utf8.runeError, 1)) := by
  unfold decL Utf8.decode
  simp only [get_byte]
  rfl
/-- A byte of one letter. -/
theorem decL_low {y : List UInt8} {i : Nat} (h : byteAt y i < 128) : decL y i = (byteAt y i, 1) := by
  rw [dec_eq]
  simp only [Nat.add_zero]
  rw [if_pos h]
/-- A byte that is no letter alone: the letter is a great one, and what belongs to it is great, too. -/
theorem decL_high {y : List UInt8} {i : Nat} (h : ¬ byteAt y i < 128) : 128 ≤ (decL y i).1 ∧ ∀ j, i ≤ j → j < i + (decL y i).2 → 128 ≤ byteAt y j ∧ (i < j → j < y.length) := by
  have h0 := byteAt_lt y i
  rw [dec_eq]
  simp only [Nat.add_zero]
  rw [if_neg h]
  unfold Utf8.runeError
  have one : ∀ (P : Nat → Prop), (P i) → ∀ j, i ≤ j → j < i + 1 → P j := fun P hp j h1 h2 => by
    have : j = i := by omega
    rw [this]; exact hp
  have hi : 128 ≤ byteAt y i ∧ (i < i → i < y.length) := ⟨by omega, by omega⟩
  split
  · rename_i hc
    simp only [Bool.and_eq_true, beq_iff_eq, decide_eq_true_eq] at hc
    split
    · refine ⟨by simp only []; omega, fun j h1 h2 => ?_⟩
      simp only [] at h2
      have : j = i ∨ j = i + 1 := by omega
      rcases this with rfl | rfl
      · exact hi
      · exact ⟨by omega, fun _ => by omega⟩
    · exact ⟨by decide, one _ hi⟩
  split
  · rename_i hc
    simp only [Bool.and_eq_true, beq_iff_eq, decide_eq_true_eq] at hc
    split
    · rename_i hd
      simp only [Bool.and_eq_true, decide_eq_true_eq] at hd
      refine ⟨by simp only []; omega, fun j h1 h2 => ?_⟩
      simp only [] at h2
      have : j = i ∨ j = i + 1 ∨ j = i + 2 := by omega
      rcases this with rfl | rfl | rfl
      · exact hi
      · exact ⟨by omega, fun _ => by omega⟩
      · exact ⟨by omega, fun _ => by omega⟩
    · exact ⟨by decide, one _ hi⟩
  split
  · rename_i hc
    simp only [Bool.and_eq_true, beq_iff_eq, decide_eq_true_eq] at hc
    split
    · rename_i hd
      simp only [Bool.and_eq_true, decide_eq_true_eq] at hd
      refine ⟨by simp only []; omega, fun j h1 h2 => ?_⟩
      simp only [] at h2
      have : j = i ∨ j = i + 1 ∨ j = i + 2 ∨ j = i + 3 := by omega
      rcases this with rfl | rfl | rfl | rfl
      · exact hi
      · exact ⟨by omega, fun _ => by omega⟩
      · exact ⟨by omega, fun _ => by omega⟩
      · exact ⟨by omega, fun _ => by omega⟩
    · exact ⟨by decide, one _ hi⟩
  · exact ⟨by decide, one _ hi⟩
theorem drop_byte {y : List UInt8} {i : Nat} (h : i < y.length) : y.drop i = y.getD i 0 :: y.drop (i + 1) := by
  rw [List.drop_eq_getElem_cons h]
  simp [List.getD, h]
end Go.Ev
/- Commands as texts, in plain Lean. -/
set_option linter.unusedVariables false
set_option linter.unusedSimpArgs false
namespace Go.Ev
abbrev gCmd : GTy := .prod (.int .i64) (.prod (.int .i64) (.int .i64))
abbrev DCmd := Int × Int × Int
def crightF (c : DCmd) : Bool := bif !rightF c.2.1 then false else bif c.1 == (1 : Int) then withinF c.2.2 1 65536 else bif c.1 == (3 : Int) then withinF c.2.2 1 64 else bif (bif c.1 == (2 : Int) then c.1 == (2 : Int) else c.1 == (4 : Int)) then c.2.2 == (0 : Int) else false
def wordK (k : Int) : List UInt8 := bif k == (1 : Int) then [108, 105, 110, 107] else bif k == (2 : Int) then [99, 117, 116] else bif k == (3 : Int) then [115, 101, 110, 100] else bif k == (4 : Int) then [115, 104, 111, 119] else []
def cprintT (c : DCmd) : List UInt8 := bif decide (c.2.2 > (0 : Int)) then ((wordK c.1 ++ [32]) ++ textN (withF 0 c.2.1)) ++ ([32] ++ itoaF c.2.2) else (wordK c.1 ++ [32]) ++ textN (withF 0 c.2.1)
def cprintF (c : DCmd) : List UInt8 × Int := bif !crightF c then ([], 1) else (cprintT c, 0)
/-- Sets of nodes out of texts. -/
def npGo : List UInt8 → Int → Int → Option Int
  | [], s, _ => some s
  | b :: l, s, last => bif (bif decide ((b.toNat : Int) ≤ last) then true else decide ((b.toNat : Int) > 112)) then none else npGo l (withF s ((b.toNat : Int) - 97)) (b.toNat : Int)
def nparseF (s : List UInt8) : Int × Int := bif s == [46] then (0, 0) else match npGo s 0 96 with
  | none => (0, 3)
  | some v => bif v == 0 then (0, 3) else (v, 0)
/-- A number out of digits. -/
def numGo (top : Int) : List UInt8 → Int → Option Int
  | [], n => some n
  | b :: l, n => bif (bif decide ((b.toNat : Int) < 48) then true else bif decide ((b.toNat : Int) > 57) then true else decide (n > top)) then none else numGo top l (n * 10 + ((b.toNat : Int) - 48))
def numberF (s : List UInt8) : Int := match numGo 65536 s 0 with
  | none => -1
  | some n => bif s == [] then -1 else n
/-- A text's words. -/
def wordsGo : List UInt8 → List UInt8 → List (List UInt8)
  | [], cur => [cur]
  | b :: l, cur => bif b == 32 then cur :: wordsGo l [] else wordsGo l (cur ++ [b])
def wordsF (s : List UInt8) : List (List UInt8) := wordsGo s []
def kindF (w : List UInt8) : Int := bif wordK 4 == w then 4 else bif wordK 3 == w then 3 else bif wordK 2 == w then 2 else bif wordK 1 == w then 1 else 0
def lowestF (s : Int) : Int := match elemsF s 16 with
  | [] => -1
  | j :: _ => j
def cparseC (w : List (List UInt8)) : DCmd := (kindF (w.getD 0 []), lowestF (nparseF (w.getD 1 [])).1, bif (w.length : Int) == (3 : Int) then numberF (w.getD 2 []) else 0)
def cparseF (s : List UInt8) : DCmd × Int := bif decide ((s.length : Int) > 40) then ((0, 0, 0), 4) else
  bif (bif decide (((wordsF s).length : Int) < 2) then true else decide (((wordsF s).length : Int) > 3)) then ((0, 0, 0), 3) else
  bif (nparseF ((wordsF s).getD 1 [])).2 != (0 : Int) then ((0, 0, 0), 3) else
  bif (bif (cprintF (cparseC (wordsF s))).2 != (0 : Int) then true else !((cprintF (cparseC (wordsF s))).1 == s)) then ((0, 0, 0), 3) else (cparseC (wordsF s), 0)
/-! What is printed is parsed. -/
theorem words_end : ∀ (a cur : List UInt8), (∀ b ∈ a, b ≠ 32) → wordsGo a cur = [cur ++ a]
  | [], cur, _ => by simp [wordsGo]
  | b :: a, cur, h => by
    have hb : (b == 32) = false := by simpa using h b (by simp)
    rw [wordsGo, hb]
    show wordsGo a (cur ++ [b]) = _
    rw [words_end a (cur ++ [b]) (fun x hx => h x (by simp [hx])), List.append_assoc]
    rfl
theorem words_cons : ∀ (a cur l : List UInt8), (∀ b ∈ a, b ≠ 32) → wordsGo (a ++ 32 :: l) cur = (cur ++ a) :: wordsGo l []
  | [], cur, l, _ => by simp [wordsGo]
  | b :: a, cur, l, h => by
    have hb : (b == 32) = false := by simpa using h b (by simp)
    rw [List.cons_append, wordsGo, hb]
    show wordsGo (a ++ 32 :: l) (cur ++ [b]) = _
    rw [words_cons a (cur ++ [b]) l (fun x hx => h x (by simp [hx])), List.append_assoc]
    rfl
theorem node_cases {p : Int → Prop} {n : Int} (h0 : 0 ≤ n) (h1 : n < 16) (h : p 0 ∧ p 1 ∧ p 2 ∧ p 3 ∧ p 4 ∧ p 5 ∧ p 6 ∧ p 7 ∧ p 8 ∧ p 9 ∧ p 10 ∧ p 11 ∧ p 12 ∧ p 13 ∧ p 14 ∧ p 15) : p n := by
  obtain ⟨a0, a1, a2, a3, a4, a5, a6, a7, a8, a9, a10, a11, a12, a13, a14, a15⟩ := h
  have : n = 0 ∨ n = 1 ∨ n = 2 ∨ n = 3 ∨ n = 4 ∨ n = 5 ∨ n = 6 ∨ n = 7 ∨ n = 8 ∨ n = 9 ∨ n = 10 ∨ n = 11 ∨ n = 12 ∨ n = 13 ∨ n = 14 ∨ n = 15 := by omega
  rcases this with rfl | rfl | rfl | rfl | rfl | rfl | rfl | rfl | rfl | rfl | rfl | rfl | rfl | rfl | rfl | rfl <;> assumption
theorem one_text {n : Int} (h0 : 0 ≤ n) (h1 : n < 16) : textN (withF 0 n) = [letF n] ∧ nparseF [letF n] = (withF 0 n, 0) ∧ lowestF (withF 0 n) = n ∧ letF n ≠ 32 ∧ elemsF (withF 0 n) 16 = [n] :=
  node_cases (p := fun n => textN (withF 0 n) = [letF n] ∧ nparseF [letF n] = (withF 0 n, 0) ∧ lowestF (withF 0 n) = n ∧ letF n ≠ 32 ∧ elemsF (withF 0 n) 16 = [n]) h0 h1 (by refine ⟨?_, ?_, ?_, ?_, ?_, ?_, ?_, ?_, ?_, ?_, ?_, ?_, ?_, ?_, ?_, ?_⟩ <;> decide +kernel)
theorem num_more {top : Int} : ∀ (l : List UInt8) (n : Int) (b : UInt8), numGo top (l ++ [b]) n = match numGo top l n with
    | none => none
    | some m => bif (bif decide ((b.toNat : Int) < 48) then true else bif decide ((b.toNat : Int) > 57) then true else decide (m > top)) then none else some (m * 10 + ((b.toNat : Int) - 48))
  | [], n, b => by simp only [List.nil_append, numGo]
  | c :: l, n, b => by
    rw [List.cons_append, numGo, numGo]
    cases (bif decide ((c.toNat : Int) < 48) then true else bif decide ((c.toNat : Int) > 57) then true else decide (n > top)) with
    | true => rfl
    | false => exact num_more l _ b
theorem dig_toNat {d : Nat} (h : d < 10) : (UInt8.ofNat (48 + d)).toNat = 48 + d := by
  rw [UInt8.toNat_ofNat']; omega
theorem num_digits {top : Int} : ∀ (f n : Nat), n < 10 ^ f → 0 < f → ((n / 10 : Nat) : Int) ≤ top → numGo top (digN f n) 0 = some (n : Int)
  | 0, _, _, h, _ => absurd h (by omega)
  | f + 1, n, h, _, ht => by
    unfold digN
    by_cases h10 : n < 10
    · rw [show Nat.blt n 10 = true by rw [Nat.blt_eq]; exact h10]
      simp only [cond_true, numGo]
      rw [dig_toNat h10]
      have h0 : 0 ≤ top := by omega
      rw [decide_eq_false (by omega), decide_eq_false (by omega), decide_eq_false (by omega)]
      simp only [cond_false]
      congr 1
      omega
    · rw [show Nat.blt n 10 = false by
        cases hb : Nat.blt n 10 with
        | false => rfl
        | true => exact absurd (by rw [Nat.blt_eq] at hb; exact hb) h10]
      have hf : 0 < f := by
        rcases Nat.eq_zero_or_pos f with h0 | h0
        · subst h0; omega
        · exact h0
      have hd : n / 10 < 10 ^ f := by rw [Nat.pow_succ] at h; omega
      simp only [cond_false]
      rw [num_more, num_digits f (n / 10) hd hf (by omega)]
      simp only
      rw [dig_toNat (Nat.mod_lt _ (by omega))]
      have := Nat.mod_lt n (show 0 < 10 by omega)
      rw [decide_eq_false (by omega), decide_eq_false (by omega), decide_eq_false (by omega)]
      simp only [cond_false]
      congr 1
      omega
theorem digN_no : ∀ (f n : Nat), ∀ b ∈ digN f n, 48 ≤ b.toNat ∧ b.toNat ≤ 57
  | 0, _, b, h => by cases h
  | f + 1, n, b, h => by
    unfold digN at h
    cases hb : Nat.blt n 10 with
    | true =>
      rw [hb] at h
      have h10 : n < 10 := by rw [Nat.blt_eq] at hb; exact hb
      simp only [cond_true, List.mem_singleton] at h
      rw [h, dig_toNat h10]; omega
    | false =>
      rw [hb] at h
      simp only [cond_false, List.mem_append, List.mem_singleton] at h
      rcases h with h | h
      · exact digN_no f _ b h
      · have := Nat.mod_lt n (show 0 < 10 by omega)
        rw [h, dig_toNat this]; omega
theorem digN_ne : ∀ (f n : Nat), 0 < f → digN f n ≠ []
  | 0, _, h => absurd h (by omega)
  | f + 1, n, _ => by
    unfold digN
    cases Nat.blt n 10 <;> simp
theorem digN_short : ∀ (f n k : Nat), n < 10 ^ k → 0 < k → (digN f n).length ≤ k
  | 0, _, _, _, _ => by simp [digN]
  | f + 1, n, k, h, hk => by
    unfold digN
    cases hb : Nat.blt n 10 with
    | true => simp; omega
    | false =>
      have h10 : ¬ n < 10 := by rw [← Nat.blt_eq, hb]; simp
      obtain ⟨j, rfl⟩ : ∃ j, k = j + 1 := ⟨k - 1, by omega⟩
      have hj : 0 < j := by
        rcases Nat.eq_zero_or_pos j with h0 | h0
        · subst h0; omega
        · exact h0
      have hd : n / 10 < 10 ^ j := by rw [Nat.pow_succ] at h; omega
      have := digN_short f (n / 10) j hd hj
      simp only [cond_false, List.length_append, List.length_cons, List.length_nil]
      omega
theorem within_iff' {n a b : Int} : withinF n a b = true ↔ a ≤ n ∧ n ≤ b := by
  unfold withinF
  by_cases h : n ≥ a
  · rw [decide_eq_true h]
    show decide (n ≤ b) = true ↔ _
    rw [decide_eq_true_eq]
    exact ⟨fun h2 => ⟨h, h2⟩, fun h2 => h2.2⟩
  · rw [decide_eq_false h]
    exact ⟨(fun h2 => by cases h2), fun h2 => absurd h2.1 h⟩
theorem wordK_len (k : Int) : (wordK k).length ≤ 4 := by
  unfold wordK
  cases k == (1 : Int) <;> cases k == (2 : Int) <;> cases k == (3 : Int) <;> cases k == (4 : Int) <;> decide
theorem cright_of {c : DCmd} (h : crightF c = true) : 0 ≤ c.2.1 ∧ c.2.1 < 16 ∧ (c.1 = 1 ∧ 1 ≤ c.2.2 ∧ c.2.2 ≤ 65536 ∨ c.1 = 2 ∧ c.2.2 = 0 ∨ c.1 = 3 ∧ 1 ≤ c.2.2 ∧ c.2.2 ≤ 64 ∨ c.1 = 4 ∧ c.2.2 = 0) := by
  unfold crightF at h
  cases hr : rightF c.2.1 with
  | false => rw [hr] at h; cases h
  | true =>
    have hr' := rightF_iff.1 hr
    rw [hr] at h
    refine ⟨hr'.1, hr'.2, ?_⟩
    simp only [Bool.not_true, cond_false] at h
    by_cases h1 : c.1 = 1
    · have e : (c.1 == (1 : Int)) = true := by simpa using h1
      rw [e] at h
      simp only [cond_true] at h
      have := within_iff'.1 h
      exact .inl ⟨h1, this.1, this.2⟩
    · have e : (c.1 == (1 : Int)) = false := by simpa using h1
      rw [e] at h
      simp only [cond_false] at h
      by_cases h3 : c.1 = 3
      · have e : (c.1 == (3 : Int)) = true := by simpa using h3
        rw [e] at h
        simp only [cond_true] at h
        have := within_iff'.1 h
        exact .inr (.inr (.inl ⟨h3, this.1, this.2⟩))
      · have e : (c.1 == (3 : Int)) = false := by simpa using h3
        rw [e] at h
        simp only [cond_false] at h
        by_cases h2 : c.1 = 2
        · have e : (c.1 == (2 : Int)) = true := by simpa using h2
          rw [e] at h
          simp only [cond_true, beq_iff_eq] at h
          exact .inr (.inl ⟨h2, h⟩)
        · have e : (c.1 == (2 : Int)) = false := by simpa using h2
          rw [e] at h
          simp only [cond_false] at h
          by_cases h4 : c.1 = 4
          · have e : (c.1 == (4 : Int)) = true := by simpa using h4
            rw [e] at h
            simp only [cond_true, beq_iff_eq] at h
            exact .inr (.inr (.inr ⟨h4, h⟩))
          · have e : (c.1 == (4 : Int)) = false := by simpa using h4
            rw [e] at h
            cases h
/-- A right command's parts as it is printed. -/
theorem cprint_parts {c : DCmd} (h : crightF c = true) : cprintT c = wordK c.1 ++ 32 :: [letF c.2.1] ∧ c.2.2 = 0 ∨ cprintT c = wordK c.1 ++ 32 :: ([letF c.2.1] ++ 32 :: natT c.2.2.toNat) ∧ 1 ≤ c.2.2 ∧ c.2.2 ≤ 65536 := by
  obtain ⟨h0, h1, h2⟩ := cright_of h
  have ht := (one_text h0 h1).1
  unfold cprintT
  rw [ht]
  by_cases hn : c.2.2 > 0
  · right
    rw [decide_eq_true hn]
    have e : itoaF c.2.2 = natT c.2.2.toNat := by
      unfold itoaF
      rw [decide_eq_false (by omega)]
      rfl
    rw [e]
    refine ⟨by simp, by omega, ?_⟩
    rcases h2 with h2 | h2 | h2 | h2 <;> omega
  · left
    rw [decide_eq_false hn]
    refine ⟨by simp, ?_⟩
    rcases h2 with h2 | h2 | h2 | h2 <;> omega
theorem wordK_no {k : Int} (h : k = 1 ∨ k = 2 ∨ k = 3 ∨ k = 4) : (∀ b ∈ wordK k, b ≠ 32) ∧ kindF (wordK k) = k ∧ (wordK k).length ≤ 4 ∧ wordK k ≠ [] := by
  rcases h with rfl | rfl | rfl | rfl <;> decide +kernel
theorem cprint_words {c : DCmd} (h : crightF c = true) : wordsF (cprintT c) = [wordK c.1, [letF c.2.1]] ∧ c.2.2 = 0 ∨ wordsF (cprintT c) = [wordK c.1, [letF c.2.1], natT c.2.2.toNat] ∧ 1 ≤ c.2.2 ∧ c.2.2 ≤ 65536 := by
  obtain ⟨h0, h1, h2⟩ := cright_of h
  have hk := (wordK_no (k := c.1) (by rcases h2 with h2 | h2 | h2 | h2 <;> omega)).1
  have hl := (one_text h0 h1).2.2.2.1
  have hl' : ∀ b ∈ [letF c.2.1], b ≠ 32 := by simpa using hl
  rcases cprint_parts h with ⟨e, e2⟩ | ⟨e, e2⟩
  · left
    refine ⟨?_, e2⟩
    rw [e]
    unfold wordsF
    rw [words_cons _ _ _ hk, words_end _ _ hl']
    rfl
  · right
    refine ⟨?_, e2⟩
    rw [e]
    unfold wordsF
    rw [words_cons _ _ _ hk, words_cons _ _ _ hl', words_end _ _ (fun b hb => by
      have := digN_no _ _ b hb
      rintro rfl
      exact absurd this.1 (by decide))]
    rfl
theorem number_nat {n : Int} (h0 : 1 ≤ n) (h1 : n ≤ 65536) : numberF (natT n.toNat) = n := by
  unfold numberF natT
  rw [num_digits 20 n.toNat (by omega) (by omega) (by omega)]
  have : digN 20 n.toNat ≠ [] := digN_ne _ _ (by omega)
  have e : (digN 20 n.toNat == []) = false := by simpa using this
  rw [e]
  simp only [cond_false]
  omega
theorem cprint_len {c : DCmd} (h : crightF c = true) : (cprintT c).length ≤ 20 := by
  obtain ⟨h0, h1, h2⟩ := cright_of h
  have hk := (wordK_no (k := c.1) (by rcases h2 with h2 | h2 | h2 | h2 <;> omega)).2.2.1
  rcases cprint_parts h with ⟨e, e2⟩ | ⟨e, e2, e3⟩
  · rw [e]; simp; omega
  · have := digN_short 20 c.2.2.toNat 6 (by omega) (by omega)
    rw [e]; unfold natT; simp; omega
theorem cparse_print {c : DCmd} (h : crightF c = true) : cparseF (cprintT c) = (c, 0) := by
  obtain ⟨h0, h1, h2⟩ := cright_of h
  have hk := wordK_no (k := c.1) (by rcases h2 with h2 | h2 | h2 | h2 <;> omega)
  have hone := one_text h0 h1
  have hlen := cprint_len h
  have hc : cparseC (wordsF (cprintT c)) = c ∧ (wordsF (cprintT c)).length ≤ 3 ∧ 2 ≤ (wordsF (cprintT c)).length ∧ (wordsF (cprintT c)).getD 1 [] = [letF c.2.1] := by
    rcases cprint_words h with ⟨e, e2⟩ | ⟨e, e2, e3⟩
    · rw [e]
      refine ⟨?_, by simp, by simp, rfl⟩
      show (kindF (wordK c.1), lowestF (nparseF [letF c.2.1]).1, (0 : Int)) = c
      rw [hk.2.1, hone.2.1, hone.2.2.1, ← e2]
    · rw [e]
      refine ⟨?_, by simp, by simp, rfl⟩
      show (kindF (wordK c.1), lowestF (nparseF [letF c.2.1]).1, numberF (natT c.2.2.toNat)) = c
      rw [hk.2.1, hone.2.1, hone.2.2.1, number_nat e2 e3]
  obtain ⟨hc1, hc2, hc3, hc4⟩ := hc
  unfold cparseF
  rw [decide_eq_false (by omega), decide_eq_false (by omega), decide_eq_false (by omega), hc4, hone.2.1, hc1]
  have e : cprintF c = (cprintT c, 0) := by unfold cprintF; rw [h]; rfl
  rw [e]
  simp
theorem cparse_back {s : List UInt8} (h : ((cparseF s).2 == (0 : Int)) = true) : crightF (cparseF s).1 = true ∧ cprintT (cparseF s).1 = s := by
  unfold cparseF at h ⊢
  cases h1 : decide ((s.length : Int) > 40) with
  | true => rw [h1] at h; cases h
  | false =>
    rw [h1] at h
    simp only [cond_false] at h ⊢
    cases h2 : (bif decide (((wordsF s).length : Int) < 2) then true else decide (((wordsF s).length : Int) > 3)) with
    | true => rw [h2] at h; cases h
    | false =>
      rw [h2] at h
      simp only [cond_false] at h ⊢
      cases h3 : (nparseF ((wordsF s).getD 1 [])).2 != (0 : Int) with
      | true => rw [h3] at h; cases h
      | false =>
        rw [h3] at h
        simp only [cond_false] at h ⊢
        cases h4 : (bif (cprintF (cparseC (wordsF s))).2 != (0 : Int) then true else !((cprintF (cparseC (wordsF s))).1 == s)) with
        | true => rw [h4] at h; cases h
        | false =>
          simp only [cond_false]
          have hr : crightF (cparseC (wordsF s)) = true := by
            cases hr : crightF (cparseC (wordsF s)) with
            | true => rfl
            | false =>
              unfold cprintF at h4
              rw [hr] at h4
              cases h4
          refine ⟨hr, ?_⟩
          unfold cprintF at h4
          rw [hr] at h4
          simpa using h4
/-- What is no command's text is refused. -/
theorem cparse_none {s : List UInt8} (hl : ¬ (s.length : Int) > 40) (h : ∀ c, crightF c = true → cprintT c ≠ s) : cparseF s = ((0, 0, 0), 3) := by
  cases he : (cparseF s).2 == (0 : Int) with
  | true => exact absurd (cparse_back he).2 (h _ (cparse_back he).1)
  | false =>
    unfold cparseF at he ⊢
    rw [decide_eq_false hl] at he ⊢
    simp only [cond_false] at he ⊢
    cases h2 : (bif decide (((wordsF s).length : Int) < 2) then true else decide (((wordsF s).length : Int) > 3)) with
    | true => rfl
    | false =>
      rw [h2] at he
      simp only [cond_false] at he ⊢
      cases h3 : (nparseF ((wordsF s).getD 1 [])).2 != (0 : Int) with
      | true => rfl
      | false =>
        rw [h3] at he
        simp only [cond_false] at he ⊢
        cases h4 : (bif (cprintF (cparseC (wordsF s))).2 != (0 : Int) then true else !((cprintF (cparseC (wordsF s))).1 == s)) with
        | true => rfl
        | false => rw [h4] at he; cases he
theorem cparse_long {s : List UInt8} (hl : (s.length : Int) > 40) : cparseF s = ((0, 0, 0), 4) := by
  unfold cparseF
  rw [decide_eq_true hl]
  rfl
theorem cparse_zero {s : List UInt8} (h : ((cparseF s).2 != (0 : Int)) = true) : (cparseF s).1 = (0, 0, 0) := by
  unfold cparseF at h ⊢
  cases h1 : decide ((s.length : Int) > 40) with
  | true => rfl
  | false =>
    rw [h1] at h
    simp only [cond_false] at h ⊢
    cases h2 : (bif decide (((wordsF s).length : Int) < 2) then true else decide (((wordsF s).length : Int) > 3)) with
    | true => rfl
    | false =>
      rw [h2] at h
      simp only [cond_false] at h ⊢
      cases h3 : (nparseF ((wordsF s).getD 1 [])).2 != (0 : Int) with
      | true => rfl
      | false =>
        rw [h3] at h
        simp only [cond_false] at h ⊢
        cases h4 : (bif (cprintF (cparseC (wordsF s))).2 != (0 : Int) then true else !((cprintF (cparseC (wordsF s))).1 == s)) with
        | true => rfl
        | false => rw [h4] at h; cases h
theorem cprint_good {c : DCmd} (h : ((cprintF c).2 == (0 : Int)) = true) : crightF c = true := by
  unfold cprintF at h
  cases hr : crightF c with
  | true => rfl
  | false => rw [hr] at h; cases h
end Go.Ev
/- The least node of a set; sets of nodes out of texts, round by round. -/
set_option linter.unusedVariables false
set_option linter.unusedSimpArgs false
namespace Go.Ev
abbrev NpS := (Int × Int × Int × Int × Unit) × (List UInt8 × Nat) × Unit
def npStp (x : NpS) : Ex × NpS :=
  bif Nat.blt x.2.1.2 x.2.1.1.length then
    bif (bif decide (((decL x.2.1.1 x.2.1.2).1 : Int) ≤ x.1.2.2.2.1) then true else decide (((decL x.2.1.1 x.2.1.2).1 : Int) > 112)) then (.ret, ((0, 3, x.1.2.2.1, x.1.2.2.2.1, ()), (x.2.1.1, decN x.2.1.1 x.2.1.2), ()))
    else (.normal, ((x.1.1, x.1.2.1, withF x.1.2.2.1 (((decL x.2.1.1 x.2.1.2).1 : Int) - 97), ((decL x.2.1.1 x.2.1.2).1 : Int), ()), (x.2.1.1, decN x.2.1.1 x.2.1.2), ()))
  else (.exit 0, (x.1, (x.2.1.1, decN x.2.1.1 x.2.1.2), ()))
def npMu (x : NpS) : Nat := x.2.1.1.length - x.2.1.2
theorem blt_iff {a b : Nat} : Nat.blt a b = true ↔ a < b := by rw [Nat.blt_eq]
theorem blt_no {a b : Nat} (h : ¬ a < b) : Nat.blt a b = false := by
  cases hb : Nat.blt a b with
  | false => rfl
  | true => exact absurd (blt_iff.1 hb) h
theorem decN_go {y : List UInt8} {pos : Nat} (h : pos < y.length) : decN y pos = pos + (decL y pos).2 := by unfold decN; rw [blt_iff.2 h]; rfl
theorem decN_low {y : List UInt8} {pos : Nat} (h : pos < y.length) (hb : byteAt y pos < 128) : decN y pos = pos + 1 := by rw [decN_go h, decL_low hb]
theorem decN_lt {y : List UInt8} {pos : Nat} (h : Nat.blt pos y.length = true) : y.length - decN y pos < y.length - pos := by
  have h' := blt_iff.1 h
  have := decL_pos y pos
  rw [decN_go h']
  omega
theorem npStp_ends (x : NpS) : (npStp x).1 = .normal ∨ (npStp x).1 = .exit 0 ∨ (npStp x).1 = .ret := by
  unfold npStp
  cases Nat.blt x.2.1.2 x.2.1.1.length with
  | false => exact .inr (.inl rfl)
  | true => cases (bif decide (((decL x.2.1.1 x.2.1.2).1 : Int) ≤ x.1.2.2.2.1) then true else decide (((decL x.2.1.1 x.2.1.2).1 : Int) > 112)) with
    | true => exact .inr (.inr rfl)
    | false => exact .inl rfl
theorem np_mu {x : NpS} (h : (npStp x).1 = .normal) : npMu (npStp x).2 < npMu x := by
  unfold npStp at h ⊢
  cases hb : Nat.blt x.2.1.2 x.2.1.1.length with
  | false => rw [hb] at h; cases h
  | true =>
    rw [hb] at h
    cases hc : (bif decide (((decL x.2.1.1 x.2.1.2).1 : Int) ≤ x.1.2.2.2.1) then true else decide (((decL x.2.1.1 x.2.1.2).1 : Int) > 112)) with
    | true => rw [hc] at h; cases h
    | false => exact decN_lt hb
/-- What comes of it. -/
def npEnd (o : Option Int) (p : Ex × NpS) : Prop := match o with
  | none => p.1 = .ret ∧ p.2.1.1 = 0 ∧ p.2.1.2.1 = 3
  | some v => p.1 = .exit 0 ∧ p.2.1.2.2.1 = v
theorem np_run {y : List UInt8} {o : Option Int} : ∀ (n : Nat) (x : NpS), (x.2.1.1 = y ∧ npGo (y.drop x.2.1.2) x.1.2.2.1 x.1.2.2.2.1 = o) → npMu x < n → npEnd o (runF npStp n x) :=
  runF_inv fun x hx => by
    refine ⟨fun hn => ⟨?_, np_mu hn⟩, fun hn => ?_⟩
    · obtain ⟨⟨a, b, s, l, ⟨⟩⟩, ⟨y', pos⟩, ⟨⟩⟩ := x
      obtain ⟨h1, h2⟩ := hx
      simp only at h1 h2
      subst h1
      unfold npStp at hn ⊢
      simp only at hn ⊢
      cases hb : Nat.blt pos y'.length with
      | false => rw [hb] at hn; cases hn
      | true =>
        rw [hb] at hn
        have hlt := blt_iff.1 hb
        simp only [cond_true] at hn ⊢
        cases hc : (bif decide (((decL y' pos).1 : Int) ≤ l) then true else decide (((decL y' pos).1 : Int) > 112)) with
        | true => rw [hc] at hn; cases hn
        | false =>
          simp only [cond_false]
          refine ⟨trivial, ?_⟩
          by_cases hlow : byteAt y' pos < 128
          · rw [drop_byte hlt, npGo] at h2
            have e : ((y'.getD pos 0).toNat : Int) = ((decL y' pos).1 : Int) := by rw [decL_low hlow]; rfl
            rw [e, hc] at h2
            rw [decN_low hlt hlow]
            exact h2
          · have h3 := (decL_high hlow).1
            rw [decide_eq_true (show ((decL y' pos).1 : Int) > 112 by omega)] at hc
            cases hd : decide (((decL y' pos).1 : Int) ≤ l) <;> rw [hd] at hc <;> cases hc
    · obtain ⟨⟨a, b, s, l, ⟨⟩⟩, ⟨y', pos⟩, ⟨⟩⟩ := x
      obtain ⟨h1, h2⟩ := hx
      simp only at h1 h2
      subst h1
      unfold npStp at hn ⊢
      simp only at hn ⊢
      cases hb : Nat.blt pos y'.length with
      | false =>
        have hlt : ¬ pos < y'.length := fun h => by rw [blt_iff.2 h] at hb; cases hb
        rw [List.drop_eq_nil_of_le (by omega), npGo] at h2
        subst h2
        exact ⟨rfl, rfl⟩
      | true =>
        rw [hb] at hn
        have hlt := blt_iff.1 hb
        simp only [cond_true] at hn ⊢
        cases hc : (bif decide (((decL y' pos).1 : Int) ≤ l) then true else decide (((decL y' pos).1 : Int) > 112)) with
        | false => rw [hc] at hn; exact absurd rfl hn
        | true =>
          simp only [cond_true]
          have h3 : o = none := by
            rw [drop_byte hlt, npGo] at h2
            by_cases hlow : byteAt y' pos < 128
            · have e : ((y'.getD pos 0).toNat : Int) = ((decL y' pos).1 : Int) := by rw [decL_low hlow]; rfl
              rw [e, hc] at h2
              exact h2.symm
            · have hg : decide (((y'.getD pos 0).toNat : Int) > 112) = true := decide_eq_true (by
                have : byteAt y' pos = (y'.getD pos 0).toNat := rfl
                omega)
              rw [hg] at h2
              cases hd : decide (((y'.getD pos 0).toNat : Int) ≤ l) <;> rw [hd] at h2 <;> exact h2.symm
          subst h3
          exact ⟨rfl, rfl, rfl⟩
theorem np_all (y : List UInt8) (a b : Int) : npEnd (npGo y 0 96) (runF npStp (npMu ((a, b, 0, 96, ()), (y, 0), ()) + 1) ((a, b, 0, 96, ()), (y, 0), ())) :=
  np_run _ _ ⟨rfl, rfl⟩ (by omega)
/-! The least node -/
theorem tz_at {n : Nat} (hn0 : n ≠ 0) (hn : n < 18446744073709551616) {a : Nat} (hlow : n &&& (18446744073709551616 - n) = a) :
    Int.fdiv (IntKind.wrap IntKind.u64 (bitsOp BinOp.and IntKind.u64 (n : Int) (IntKind.wrap IntKind.u64 ((0 : Int) - (n : Int))) * 285870213051353865)) 288230376151711744 = ((a * 285870213051353865 % 18446744073709551616 / 288230376151711744 : Nat) : Int) := by
  have ha : a ≤ n := by rw [← hlow]; exact Nat.and_le_left
  have e1 : IntKind.wrap IntKind.u64 ((0 : Int) - (n : Int)) = ((18446744073709551616 - n : Nat) : Int) := by
    rw [wrap_u64]
    omega
  have e2 : bitsOp BinOp.and IntKind.u64 (n : Int) ((18446744073709551616 - n : Nat) : Int) = (a : Int) := by
    show IntKind.u64.wrap ((BitVec.ofInt 64 (n : Int) &&& BitVec.ofInt 64 ((18446744073709551616 - n : Nat) : Int)).toNat : Int) = _
    rw [BitVec.toNat_and, BitVec.toNat_ofInt, BitVec.toNat_ofInt]
    have a1 : ((n : Int) % ((2 ^ 64 : Nat) : Int)).toNat = n := by omega
    have a2 : (((18446744073709551616 - n : Nat) : Int) % ((2 ^ 64 : Nat) : Int)).toNat = 18446744073709551616 - n := by omega
    rw [a1, a2, hlow, wrap_u64]
    omega
  rw [e1, e2, wrap_u64, Int.fdiv_eq_ediv_of_nonneg _ (by decide), Int.natCast_ediv, Int.natCast_emod, Int.natCast_mul]
  rfl
theorem tab_at (i : Nat) : List.getD lowTab (Int.toNat (i : Int)) 0 = ((Lib.deBruijn64tab.getD i 0 : Nat) : Int) := by
  rw [Int.toNat_natCast]
  unfold lowTab
  generalize Lib.deBruijn64tab = l
  simp only [List.getD_eq_getElem?_getD, List.getElem?_map]
  cases l[i]? <;> rfl
theorem tz_key {x : Int} (h0 : 0 < x) (h1 : x ≤ 18446744073709551615) :
    ((0 : Int) ≤ Int.fdiv (IntKind.wrap IntKind.u64 (bitsOp BinOp.and IntKind.u64 x (IntKind.wrap IntKind.u64 ((0 : Int) - x)) * 285870213051353865)) 288230376151711744 ∧
      Int.fdiv (IntKind.wrap IntKind.u64 (bitsOp BinOp.and IntKind.u64 x (IntKind.wrap IntKind.u64 ((0 : Int) - x)) * 285870213051353865)) 288230376151711744 < 64) ∧
    IntKind.wrap IntKind.i64 (List.getD lowTab (Int.toNat (Int.fdiv (IntKind.wrap IntKind.u64 (bitsOp BinOp.and IntKind.u64 x (IntKind.wrap IntKind.u64 ((0 : Int) - x)) * 285870213051353865)) 288230376151711744)) 0) = (Lib.ctz 64 x.toNat : Int) := by
  obtain ⟨n, rfl⟩ := Int.eq_ofNat_of_zero_le (Int.le_of_lt h0)
  have hn0 : n ≠ 0 := by omega
  have hn : n < 18446744073709551616 := by omega
  obtain ⟨hlow, hk⟩ := Lib.lowest_bit 64 n hn0 hn
  obtain ⟨hi, htab⟩ := Lib.deBruijn64_at _ hk
  rw [tz_at hn0 hn hlow, tab_at, htab, Int.toNat_natCast]
  generalize 2 ^ Lib.ctz 64 n * 285870213051353865 % 18446744073709551616 / 288230376151711744 = i at hi ⊢
  generalize Lib.ctz 64 n = k at hk ⊢
  exact ⟨⟨by omega, by omega⟩, i64_id (by omega) (by omega)⟩
theorem elems_head {s : Int} {k : Nat} (hk : k < 16) (h : hasF s k = true) (hb : ∀ j : Nat, j < k → hasF s j = false) : ∀ n : Nat, n ≤ 16 → 16 - n ≤ k → ∃ l, elemsF s n = (k : Int) :: l
  | 0, _, h1 => by omega
  | n + 1, h0, h1 => by
    unfold elemsF
    by_cases e : 16 - (n + 1) = k
    · have e2 : (16 : Int) - ((n + 1 : Nat) : Int) = (k : Int) := by omega
      rw [e2, h]
      exact ⟨_, rfl⟩
    · obtain ⟨l, hl⟩ := elems_head hk h hb n (by omega) (by omega)
      have e2 : (16 : Int) - ((n + 1 : Nat) : Int) = ((16 - (n + 1) : Nat) : Int) := by omega
      rw [e2, hb _ (by omega), hl]
      exact ⟨_, rfl⟩
theorem has_bit {s : Int} {j : Nat} (hj : j < 16) : hasF s j = (((s % 65536).toNat / 2 ^ j) % 2 == 1) := by
  unfold hasF
  rw [right_nat hj]
  simp only [cond_true]
  rw [bit_at hj]
  have h0 := Int.emod_nonneg s (show (65536 : Int) ≠ 0 by decide)
  have h1 : (s / ((2 ^ j : Nat) : Int)) % 2 = (((s % 65536).toNat / 2 ^ j % 2 : Nat) : Int) := by
    have e : ((s % 65536).toNat : Int) = s % 65536 := Int.toNat_of_nonneg h0
    have hk : j = 0 ∨ j = 1 ∨ j = 2 ∨ j = 3 ∨ j = 4 ∨ j = 5 ∨ j = 6 ∨ j = 7 ∨ j = 8 ∨ j = 9 ∨ j = 10 ∨ j = 11 ∨ j = 12 ∨ j = 13 ∨ j = 14 ∨ j = 15 := by omega
    rcases hk with rfl | rfl | rfl | rfl | rfl | rfl | rfl | rfl | rfl | rfl | rfl | rfl | rfl | rfl | rfl | rfl <;> (simp only [Nat.reducePow]; omega)
  rw [h1, Bool.eq_iff_iff]
  simp only [beq_iff_eq]
  omega
theorem low_none {x : Int} (h : (bitsOp BinOp.and IntKind.i64 x (65535 : Int) == (0 : Int)) = true) : (-1 : Int) = lowestF x := by
  rw [mask_empty] at h
  unfold lowestF
  rw [List.isEmpty_iff.1 h]
theorem low_some {x : Int} (h : (bitsOp BinOp.and IntKind.i64 x (65535 : Int) == (0 : Int)) = false) :
    0 < IntKind.wrap IntKind.u64 (bitsOp BinOp.and IntKind.i64 x (65535 : Int)) ∧ (Lib.ctz 64 (Int.toNat (IntKind.wrap IntKind.u64 (bitsOp BinOp.and IntKind.i64 x (65535 : Int)))) : Int) = lowestF x := by
  have hm : bitsOp BinOp.and IntKind.i64 x (65535 : Int) = x % 65536 := and_low (s := x) 16 (by omega)
  rw [hm] at h ⊢
  have h0 := Int.emod_nonneg x (show (65536 : Int) ≠ 0 by decide)
  have h1 := Int.emod_lt_of_pos x (show (0 : Int) < 65536 by decide)
  have hne : x % 65536 ≠ 0 := by simpa using h
  have e : IntKind.wrap IntKind.u64 (x % 65536) = x % 65536 := u64_id h0 (by omega)
  rw [e]
  refine ⟨by omega, ?_⟩
  obtain ⟨n, hn⟩ : ∃ n, (x % 65536).toNat = n := ⟨_, rfl⟩
  have hn0 : n ≠ 0 := by omega
  have hn1 : n < 65536 := by omega
  rw [hn]
  have hc : Lib.ctz 64 n = Lib.ctzFrom 64 n := by simp [Lib.ctz, hn0]
  obtain ⟨m, hm2, hk⟩ := Lib.ctzFrom_spec 64 n (by omega) (by omega)
  rw [hc]
  generalize Lib.ctzFrom 64 n = k at hm2 hk ⊢
  have hk16 : k < 16 := by
    by_cases hkk : k < 16
    · exact hkk
    · exfalso
      have : 2 ^ 16 ≤ 2 ^ k := Nat.pow_le_pow_right (by omega) (by omega)
      have h3 : 2 ^ k ≤ 2 ^ k * (2 * m + 1) := Nat.le_mul_of_pos_right _ (by omega)
      omega
  have hb : hasF x k = true := by
    rw [has_bit hk16, hn, hm2, Nat.mul_div_cancel_left _ (Nat.pow_pos (by omega))]
    simp
  have hnb : ∀ j : Nat, j < k → hasF x j = false := by
    intro j hj
    rw [has_bit (by omega), hn, hm2]
    have e2 : 2 ^ k = 2 ^ j * (2 * 2 ^ (k - j - 1)) := by
      rw [← Nat.pow_succ', ← Nat.pow_add]
      congr 1
      omega
    rw [e2, Nat.mul_assoc, Nat.mul_div_cancel_left _ (Nat.pow_pos (by omega)), Nat.mul_assoc]
    simp
  obtain ⟨l, hl⟩ := elems_head hk16 hb hnb 16 (by omega) (by omega)
  unfold lowestF
  rw [hl]
end Go.Ev
/- Words and numbers of a text, round by round. -/
set_option linter.unusedVariables false
set_option linter.unusedSimpArgs false
namespace Go.Ev
/-! Numbers -/
def badD (top r n : Int) : Bool := bif (bif decide (r < 48) then true else decide (r > 57)) then true else decide (n > top)
abbrev NumS := (Int × Int × Unit) × (List UInt8 × Nat) × Unit
def numStp (x : NumS) : Ex × NumS :=
  bif Nat.blt x.2.1.2 x.2.1.1.length then
    bif badD 65536 ((decL x.2.1.1 x.2.1.2).1 : Int) x.1.2.1 then (.ret, ((-1, x.1.2.1, ()), (x.2.1.1, decN x.2.1.1 x.2.1.2), ()))
    else (.normal, ((x.1.1, x.1.2.1 * 10 + (((decL x.2.1.1 x.2.1.2).1 : Int) - 48), ()), (x.2.1.1, decN x.2.1.1 x.2.1.2), ()))
  else (.exit 0, (x.1, (x.2.1.1, decN x.2.1.1 x.2.1.2), ()))
def numMu (x : NumS) : Nat := x.2.1.1.length - x.2.1.2
theorem badD_eq (top r n : Int) : badD top r n = (bif decide (r < 48) then true else bif decide (r > 57) then true else decide (n > top)) := by
  unfold badD
  cases decide (r < 48) <;> rfl
theorem badD_high {top r n : Int} (h : 128 ≤ r) : badD top r n = true := by
  unfold badD
  rw [decide_eq_true (show r > 57 by omega)]
  cases decide (r < 48) <;> rfl
theorem badD_no {top r n : Int} (h : badD top r n = false) : 48 ≤ r ∧ r ≤ 57 ∧ n ≤ top := by
  unfold badD at h
  by_cases h1 : r < 48
  · rw [decide_eq_true h1] at h; cases h
  · by_cases h2 : r > 57
    · rw [decide_eq_false h1, decide_eq_true h2] at h; cases h
    · by_cases h3 : n > top
      · rw [decide_eq_false h1, decide_eq_false h2, decide_eq_true h3] at h; cases h
      · omega
theorem numStp_ends (x : NumS) : (numStp x).1 = .normal ∨ (numStp x).1 = .exit 0 ∨ (numStp x).1 = .ret := by
  unfold numStp
  cases Nat.blt x.2.1.2 x.2.1.1.length with
  | false => exact .inr (.inl rfl)
  | true => cases badD 65536 ((decL x.2.1.1 x.2.1.2).1 : Int) x.1.2.1 with
    | true => exact .inr (.inr rfl)
    | false => exact .inl rfl
theorem num_go {x : NumS} (h : (numStp x).1 = .normal) (h0 : 0 ≤ x.1.2.1 ∧ x.1.2.1 ≤ 655369) : (0 ≤ (numStp x).2.1.2.1 ∧ (numStp x).2.1.2.1 ≤ 655369) ∧ numMu (numStp x).2 < numMu x := by
  unfold numStp at h ⊢
  cases hb : Nat.blt x.2.1.2 x.2.1.1.length with
  | false => rw [hb] at h; cases h
  | true =>
    rw [hb] at h
    cases hc : badD 65536 ((decL x.2.1.1 x.2.1.2).1 : Int) x.1.2.1 with
    | true => rw [hc] at h; cases h
    | false =>
      have := badD_no hc
      refine ⟨?_, decN_lt hb⟩
      simp only [cond_true, cond_false]
      omega
def numEnd (o : Option Int) (p : Ex × NumS) : Prop := match o with
  | none => p.1 = .ret ∧ p.2.1.1 = -1
  | some v => p.1 = .exit 0 ∧ p.2.1.2.1 = v
theorem num_run {y : List UInt8} {o : Option Int} : ∀ (n : Nat) (x : NumS), (x.2.1.1 = y ∧ numGo 65536 (y.drop x.2.1.2) x.1.2.1 = o) → numMu x < n → numEnd o (runF numStp n x) :=
  runF_inv fun x hx => by
    obtain ⟨⟨a, s, ⟨⟩⟩, ⟨y', pos⟩, ⟨⟩⟩ := x
    obtain ⟨h1, h2⟩ := hx
    simp only at h1 h2
    subst h1
    cases hb : Nat.blt pos y'.length with
    | false =>
      have hlt : ¬ pos < y'.length := fun h => by rw [blt_iff.2 h] at hb; cases hb
      have e : numStp ((a, s, ()), (y', pos), ()) = (.exit 0, ((a, s, ()), (y', decN y' pos), ())) := by unfold numStp; simp only; rw [hb]; rfl
      rw [e]
      refine ⟨fun h => (by cases h), fun _ => ?_⟩
      rw [List.drop_eq_nil_of_le (by omega), numGo] at h2
      subst h2
      exact ⟨rfl, rfl⟩
    | true =>
      have hlt := blt_iff.1 hb
      rw [drop_byte hlt, numGo] at h2
      cases hc : badD 65536 ((decL y' pos).1 : Int) s with
      | true =>
        have e : numStp ((a, s, ()), (y', pos), ()) = (.ret, ((-1, s, ()), (y', decN y' pos), ())) := by unfold numStp; simp only; rw [hb, hc]; rfl
        rw [e]
        refine ⟨fun h => (by cases h), fun _ => ?_⟩
        have h3 : o = none := by
          by_cases hlow : byteAt y' pos < 128
          · have e : ((y'.getD pos 0).toNat : Int) = ((decL y' pos).1 : Int) := by rw [decL_low hlow]; rfl
            rw [e, ← badD_eq, hc] at h2
            exact h2.symm
          · rw [← badD_eq, badD_high (by have : byteAt y' pos = (y'.getD pos 0).toNat := rfl; omega)] at h2
            exact h2.symm
        subst h3
        exact ⟨rfl, rfl⟩
      | false =>
        have e : numStp ((a, s, ()), (y', pos), ()) = (.normal, ((a, s * 10 + (((decL y' pos).1 : Int) - 48), ()), (y', decN y' pos), ())) := by unfold numStp; simp only; rw [hb, hc]; rfl
        rw [e]
        refine ⟨fun _ => ⟨⟨rfl, ?_⟩, decN_lt hb⟩, fun h => absurd rfl h⟩
        by_cases hlow : byteAt y' pos < 128
        · have e : ((y'.getD pos 0).toNat : Int) = ((decL y' pos).1 : Int) := by rw [decL_low hlow]; rfl
          rw [e, ← badD_eq, hc] at h2
          simp only
          rw [decN_low hlt hlow]
          exact h2
        · rw [badD_high (by have := (decL_high hlow).1; omega)] at hc
          cases hc
theorem num_all (y : List UInt8) (a : Int) : numEnd (numGo 65536 y 0) (runF numStp (numMu ((a, 0, ()), (y, 0), ()) + 1) ((a, 0, ()), (y, 0), ())) :=
  num_run _ _ ⟨rfl, rfl⟩ (by omega)
/-! Words -/
abbrev WS := (List UInt8 × Int × Unit) × List (List UInt8) × (List UInt8 × Nat) × Unit
def wStp (x : WS) : Ex × WS :=
  bif Nat.blt x.2.2.1.2 x.2.2.1.1.length then
    bif ((decL x.2.2.1.1 x.2.2.1.2).1 : Int) == (32 : Int) then (.normal, ((x.1.1, (x.2.2.1.2 : Int) + 1, ()), x.2.1 ++ [(x.1.1.take x.2.2.1.2).drop x.1.2.1.toNat], (x.2.2.1.1, decN x.2.2.1.1 x.2.2.1.2), ()))
    else (.normal, (x.1, x.2.1, (x.2.2.1.1, decN x.2.2.1.1 x.2.2.1.2), ()))
  else (.exit 0, (x.1, x.2.1, (x.2.2.1.1, decN x.2.2.1.1 x.2.2.1.2), ()))
def wMu (x : WS) : Nat := x.2.2.1.1.length - x.2.2.1.2
def wPre (x : WS) : Prop := x.2.2.1.1 = x.1.1 ∧ x.1.1.length ≤ 1000 ∧ 0 ≤ x.1.2.1 ∧ x.1.2.1 ≤ x.2.2.1.2 ∧ x.2.2.1.2 ≤ x.1.1.length ∧ x.2.1.length ≤ x.2.2.1.2
theorem wStp_ends (x : WS) : (wStp x).1 = .normal ∨ (wStp x).1 = .exit 0 := by
  unfold wStp
  cases Nat.blt x.2.2.1.2 x.2.2.1.1.length with
  | false => exact .inr rfl
  | true => cases ((decL x.2.2.1.1 x.2.2.1.2).1 : Int) == (32 : Int) <;> exact .inl rfl
theorem decN_le {y : List UInt8} {pos : Nat} (h : pos ≤ y.length) : decN y pos ≤ y.length := by
  by_cases hlt : pos < y.length
  · rw [decN_go hlt]
    by_cases hlow : byteAt y pos < 128
    · rw [decL_low hlow]; simp only; omega
    · have h2 := decL_pos y pos
      by_cases h1 : (decL y pos).2 = 1
      · omega
      · have := ((decL_high hlow).2 (pos + (decL y pos).2 - 1) (by omega) (by omega)).2 (by omega)
        omega
  · unfold decN
    rw [blt_no hlt]
    exact h
theorem w_go {x : WS} (hp : wPre x) (h : (wStp x).1 = .normal) : wPre (wStp x).2 ∧ wMu (wStp x).2 < wMu x := by
  obtain ⟨⟨s, st, ⟨⟩⟩, out, ⟨y, pos⟩, ⟨⟩⟩ := x
  obtain ⟨h1, h2, h3, h4, h5, h6⟩ := hp
  simp only at h1 h2 h3 h4 h5 h6
  subst h1
  have hle := decN_le h5
  cases hb : Nat.blt pos y.length with
  | false => unfold wStp at h; simp only at h; rw [hb] at h; cases h
  | true =>
    have hlt := blt_iff.1 hb
    have hN := decN_go hlt
    have hp := decL_pos y pos
    unfold wStp
    simp only
    rw [hb]
    cases hc : ((decL y pos).1 : Int) == (32 : Int) with
    | true =>
      simp only [cond_true]
      refine ⟨⟨rfl, h2, ?_, ?_, hle, ?_⟩, decN_lt hb⟩
      all_goals simp only
      · omega
      · omega
      · show (out ++ [_]).length ≤ decN y pos
        simp only [List.length_append, List.length_cons, List.length_nil]; omega
    | false =>
      simp only [cond_true, cond_false]
      refine ⟨⟨rfl, h2, h3, ?_, hle, ?_⟩, decN_lt hb⟩
      all_goals simp only
      · omega
      · omega
theorem take_more {s : List UInt8} {i : Nat} (h : i < s.length) : s.take (i + 1) = s.take i ++ [s.getD i 0] := by
  rw [List.take_add_one]
  simp [List.getD, h]
/-- Bytes that are no blank. -/
theorem words_skip {s : List UInt8} {st : Nat} : ∀ (k pos : Nat), st ≤ pos → pos + k ≤ s.length → (∀ j, pos ≤ j → j < pos + k → byteAt s j ≠ 32) → wordsGo (s.drop pos) ((s.take pos).drop st) = wordsGo (s.drop (pos + k)) ((s.take (pos + k)).drop st)
  | 0, pos, _, _, _ => rfl
  | k + 1, pos, h1, h2, h3 => by
    have hlt : pos < s.length := by omega
    have hb : (s.getD pos 0 == 32) = false := by
      have := h3 pos (Nat.le_refl _) (by omega)
      unfold byteAt at this
      simp only [beq_eq_false_iff_ne, ne_eq]
      intro e
      rw [e] at this
      exact this rfl
    rw [drop_byte hlt, wordsGo, hb]
    simp only [cond_false]
    have e : (s.take pos).drop st ++ [s.getD pos 0] = (s.take (pos + 1)).drop st := by
      rw [take_more hlt, List.drop_append_of_le_length (by rw [List.length_take]; omega)]
    rw [e, words_skip k (pos + 1) (by omega) (by omega) (fun j h4 h5 => h3 j (by omega) (by omega)), show pos + 1 + k = pos + (k + 1) by omega]
def wEnd (s : List UInt8) (p : Ex × WS) : Prop := p.1 = .exit 0 ∧ p.2.1.1 = s ∧ 0 ≤ p.2.1.2.1 ∧ p.2.1.2.1 ≤ s.length ∧ p.2.2.1.length ≤ s.length ∧ p.2.2.1 ++ [s.drop p.2.1.2.1.toNat] = wordsF s
theorem w_run {s : List UInt8} : ∀ (n : Nat) (x : WS), (wPre x ∧ x.1.1 = s ∧ x.2.1 ++ wordsGo (s.drop x.2.2.1.2) ((s.take x.2.2.1.2).drop x.1.2.1.toNat) = wordsF s) → wMu x < n → wEnd s (runF wStp n x) :=
  runF_inv fun x hx => by
    obtain ⟨hp, h1, h2⟩ := hx
    refine ⟨fun hn => ?_, fun hn => ?_⟩
    · obtain ⟨g1, g2⟩ := w_go hp hn
      refine ⟨⟨g1, ?_⟩, g2⟩
      obtain ⟨⟨s', st, ⟨⟩⟩, out, ⟨y, pos⟩, ⟨⟩⟩ := x
      obtain ⟨p1, p2, p3, p4, p5, p6⟩ := hp
      simp only at h1 h2 p1 p2 p3 p4 p5 p6
      subst p1
      subst h1
      cases hb : Nat.blt pos y.length with
      | false => unfold wStp at hn; simp only at hn; rw [hb] at hn; cases hn
      | true =>
        have hlt := blt_iff.1 hb
        cases hc : ((decL y pos).1 : Int) == (32 : Int) with
        | true =>
          have e : wStp ((y, st, ()), out, (y, pos), ()) = (.normal, ((y, (pos : Int) + 1, ()), out ++ [(y.take pos).drop st.toNat], (y, decN y pos), ())) := by unfold wStp; simp only; rw [hb, hc]; rfl
          rw [e]
          refine ⟨rfl, ?_⟩
          have hr : (decL y pos).1 = 32 := by
            have : ((decL y pos).1 : Int) = 32 := by simpa using hc
            omega
          have hlow : byteAt y pos < 128 := by
            by_cases hlow : byteAt y pos < 128
            · exact hlow
            · have := (decL_high hlow).1
              omega
          rw [decL_low hlow] at hr
          have hg : y.getD pos 0 = 32 := by
            apply UInt8.toNat_inj.1
            exact hr
          simp only
          rw [decN_low hlt hlow]
          rw [drop_byte hlt, wordsGo, hg] at h2
          have e2 : ((pos : Int) + 1).toNat = pos + 1 := by omega
          rw [e2, List.append_assoc]
          have e3 : (y.take (pos + 1)).drop (pos + 1) = [] := by
            apply List.drop_eq_nil_of_le
            rw [List.length_take]; omega
          rw [e3]
          simpa using h2
        | false =>
          have e : wStp ((y, st, ()), out, (y, pos), ()) = (.normal, ((y, st, ()), out, (y, decN y pos), ())) := by unfold wStp; simp only; rw [hb, hc]; rfl
          rw [e]
          refine ⟨rfl, ?_⟩
          simp only
          have hle := decN_le p5
          have hN := decN_go hlt
          rw [← h2]
          congr 1
          rw [hN] at hle ⊢
          refine (words_skip _ pos (by omega) hle fun j h3 h4 => ?_).symm
          by_cases hlow : byteAt y pos < 128
          · rw [decL_low hlow] at hc h4
            have hj : j = pos := by simp only at h4; omega
            rw [hj]
            have : ¬ ((byteAt y pos : Nat) : Int) = 32 := by simpa using hc
            omega
          · have := ((decL_high hlow).2 j h3 h4).1
            omega
    · obtain ⟨⟨s', st, ⟨⟩⟩, out, ⟨y, pos⟩, ⟨⟩⟩ := x
      obtain ⟨p1, p2, p3, p4, p5, p6⟩ := hp
      simp only at h1 h2 p1 p2 p3 p4 p5 p6
      subst p1
      subst h1
      cases hb : Nat.blt pos y.length with
      | true =>
        exfalso
        apply hn
        unfold wStp
        simp only
        rw [hb]
        cases ((decL y pos).1 : Int) == (32 : Int) <;> rfl
      | false =>
        have hlt : ¬ pos < y.length := fun h => by rw [blt_iff.2 h] at hb; cases hb
        have e : wStp ((y, st, ()), out, (y, pos), ()) = (.exit 0, ((y, st, ()), out, (y, decN y pos), ())) := by unfold wStp; simp only; rw [hb]; rfl
        rw [e]
        have hpos : pos = y.length := by omega
        refine ⟨rfl, rfl, p3, by simp only; omega, by simp only; omega, ?_⟩
        rw [hpos, List.drop_length, List.take_length, wordsGo] at h2
        exact h2
theorem w_all {s : List UInt8} (h : s.length ≤ 1000) : wEnd s (runF wStp (wMu ((s, 0, ()), [], (s, 0), ()) + 1) ((s, 0, ()), [], (s, 0), ())) :=
  w_run _ _ ⟨⟨rfl, h, Int.le_refl _, Int.le_refl _, Nat.zero_le _, Nat.le_refl _⟩, rfl, rfl⟩ (by omega)
end Go.Ev
