/- Another world to start from, but for a set of blocks that no box owns. -/
import Derived.Lib.TrailingZeros
import Derived.Test.YtohodbfoeejbjaaDoorTextConfBack6

set_option linter.unusedVariables false
set_option linter.unusedSimpArgs false
namespace Go.Ev
theorem rebaseK {R0 R : Ref} {K K' : Nat → Prop} {s : St} {a : Act} {w w' : World} (h : IsSt R s a w) (back : ∀ M, InvM R M → InvM R0 M) (hK : ∀ k, K k → k < R.w0.heap.size ∧ ¬ R.own k ∧ ∀ o, ¬ R.S0 k o)
    (hK' : ∀ k, K' k → K k ∨ w.heap.size ≤ k) (hnew : ∀ k, K' k → R0.w0.heap.size ≤ k) (hlt : ∀ k, K' k → k < w'.heap.size)
    (hos : w'.os = w.os) (htape : w'.tape = w.tape) (hout : w'.output = w.output) (hsz : w.heap.size ≤ w'.heap.size) (hcell : ∀ k, k < w.heap.size → ¬ K' k → w'.heap[k]? = w.heap[k]?) :
    ∃ R' : Ref, R'.w0 = w' ∧ (∀ k, K' k → k < R'.w0.heap.size ∧ ¬ R'.own k ∧ ∀ o, ¬ R'.S0 k o) ∧ IsSt R' s a w' ∧ ∀ M, InvM R' M → InvM R0 M := by
  obtain ⟨M, rfl, hb, I, hr⟩ := h
  have I0 := back M I
  have noS : ∀ k o, K' k → ¬ M.S k o := by
    intro k o hk hs
    obtain ⟨h1, h2⟩ := I.here k o hs
    rcases hK' k hk with h3 | h3
    · obtain ⟨g1, g2, g3⟩ := hK k h3
      rcases h1 with h1 | h1 | h1
      · exact g3 o h1
      · omega
      · exact g2 h1
    · omega
  have notK : ∀ k, R.new k → k < M.w.heap.size → ¬ K' k := by
    intro k hn hl hk
    rcases hK' k hk with h3 | h3
    · obtain ⟨g1, g2, g3⟩ := hK k h3
      rcases hn with h1 | h1
      · omega
      · exact g2 h1
    · omega
  have hblk' : ∀ b d B, lk b M.bs = some (d, B) → ∀ k, blkOf (M.β b) = some k → ¬ K' k := by
    intro b d B hB k hk
    have hRB := I.boxes b d B hB
    have hl := hRB.lt k hk
    refine notK k ?_ hl
    cases B with
    | var g x =>
      obtain ⟨blk, cs, e, h1, h2, h3, h4, h5⟩ := hRB
      rw [h1] at hk
      simp [blkOf] at hk
      subst hk
      exact h5
    | row e g xs fz =>
      obtain ⟨cs, h1, h2, h3, h4, h5, h6⟩ := hRB
      exact (h6 k hk).1
    | iter y pos => exact hRB.new k hk
  have hk : Keeps M.S M.S M.w w' := by
    intro k o hS
    exact ⟨hS, cell_of_heap (hcell k (I.here k o hS).2 (fun hk => noS k o hk hS))⟩
  have ref : ∀ {R1 R2 : Ref} {v : Value} {B : Box} {W : World} {S : Stab}, (∀ blk, R1.new blk → blkOf v = some blk → R2.new blk) → RelB R1 W S v B → RelB R2 W S v B := by
    intro R1 R2 v B W S hn hB
    cases B with
    | var g x =>
      obtain ⟨blk, cs, e, h1, h2, h3, h4, h5⟩ := hB
      exact ⟨blk, cs, e, h1, h2, h3, h4, hn blk h5 (by rw [h1]; rfl)⟩
    | row e g xs fz =>
      obtain ⟨cs, h1, h2, h3, h4, h5, h6⟩ := hB
      exact ⟨cs, h1, h2, h3, h4, h5, fun blk hb => ⟨hn blk (h6 blk hb).1 hb, (h6 blk hb).2⟩⟩
    | iter y pos =>
      obtain ⟨blk, h1, h2, h3, h4, h5⟩ := hB
      exact ⟨blk, h1, h2, h3, h4, hn blk h5 (by rw [h1]; rfl)⟩
  have st : Step M { M with w := w' } (fun _ => False) := ⟨hk, fun b d B h _ => ⟨d, B, h, rfl, Box.le_refl B⟩⟩
  refine ⟨⟨w', fun k => R0.new k ∧ ¬ K' k, M.S, (R0.tab.keeps I0.old).keeps hk⟩, rfl, fun k h => ⟨hlt k h, fun g => g.2 h, fun o => noS k o h⟩, ?_, ?_⟩
  · refine ⟨{ M with w := w' }, rfl, hb, ⟨rfl, rfl, rfl, Nat.le_refl _, fun _ _ _ => rfl, Keeps.refl _ _, fun b o hs => ⟨.inl hs, Nat.lt_of_lt_of_le (I.here b o hs).2 hsz⟩, fun b d B hB => ?_, I.sep⟩, fun t => (hr t).step st (fun b hb => hb.elim)⟩
    have hRB := I0.boxes b d B hB
    have hm := hRB.move hk (fun blk hblk => hcell blk (hRB.lt blk hblk) (hblk' b d B hB blk hblk)) (fun blk o hblk hs => hs)
    exact ref (fun blk hn hv => .inr ⟨hn, hblk' b d B hB blk hv⟩) hm
  · intro M2 I2
    refine ⟨I2.os.trans (hos.trans I0.os), I2.tape.trans (htape.trans I0.tape), I2.output.trans (hout.trans I0.output), Nat.le_trans I0.size (Nat.le_trans hsz I2.size), ?_, I0.old.trans (hk.trans I2.old), ?_, ?_, I2.sep⟩
    · intro k h1 h2
      have hkc : ¬ K' k := fun h => by have := hnew k h; omega
      have hno : ¬ (R0.new k ∧ ¬ K' k) := by
        rintro ⟨h3 | h3, _⟩
        · omega
        · exact h2 h3
      have h4 : k < M.w.heap.size := Nat.lt_of_lt_of_le h1 I0.size
      exact (I2.frame k (Nat.lt_of_lt_of_le h4 hsz) hno).trans ((hcell k h4 hkc).trans (I0.frame k h1 h2))
    · intro b o hs
      obtain ⟨h1, h2⟩ := I2.here b o hs
      refine ⟨?_, h2⟩
      rcases h1 with h1 | h1 | h1
      · exact (I0.here b o h1).1
      · exact .inr (.inl (Nat.le_trans (Nat.le_trans I0.size hsz) h1))
      · exact .inr h1.1
    · intro b d B hB
      refine ref (fun blk hn _ => ?_) (I2.boxes b d B hB)
      rcases hn with h1 | h1
      · exact .inl (Nat.le_trans (Nat.le_trans I0.size hsz) h1)
      · exact h1.1

section
variable {P : Program} {C : Ctx} {b : Frame} {Q : Exit → Act → World → Prop} {a : Act} {w : World} {ops : Array Oper} {l : List Nat}
/-- In these slots this is known; some slots hold these values; these blocks are such. -/
structure Kd (R0 : Ref) (K : Nat → Prop) (W : Nat → Option Obj) (n : Nat) (sl : List (Nat × Value)) (s : St) (a : Act) (w : World) : Prop where
  new : ∀ k, K k → R0.w0.heap.size ≤ k
  size : a.tmps.size = n
  defers : a.defers = []
  slots : ∀ p ∈ sl, a.tmps.getD p.1 undef = p.2
  st : ∃ R : Ref, (∀ k, K k → k < R.w0.heap.size ∧ ¬ R.own k ∧ ∀ o, ¬ R.S0 k o) ∧ (∀ k, K k → R.w0.heap[k]? = W k) ∧ IsSt R s a w ∧ ∀ M, InvM R M → InvM R0 M
variable {R0 : Ref} {K : Nat → Prop} {W : Nat → Option Obj} {n : Nat} {sl : List (Nat × Value)} {s : St}
theorem Kd.heap (h : Kd R0 K W n sl s a w) {k : Nat} (hk : K k) : w.heap[k]? = W k := by
  obtain ⟨R, h1, h2, h3, _⟩ := h.st
  rw [h3.frame (h1 k hk).1 (h1 k hk).2.1]
  exact h2 k hk
theorem Kd.old (h : Kd R0 K W n sl s a w) : IsSt R0 s a w := by
  obtain ⟨R, _, _, ⟨M, hM, hb, I, hr⟩, h4⟩ := h.st
  exact ⟨M, hM, hb, h4 M I, hr⟩
theorem Kd.start (h : IsSt R0 s a w) (hs : a.tmps.size = n) (hd : a.defers = []) (hsl : ∀ p ∈ sl, a.tmps.getD p.1 undef = p.2) : Kd R0 (fun _ => False) W n sl s a w :=
  ⟨fun _ h => h.elim, hs, hd, hsl, R0, fun _ h => h.elim, fun _ h => h.elim, h, fun _ I => I⟩
theorem Kd.world {K' : Nat → Prop} {W' : Nat → Option Obj} {w' : World} (h : Kd R0 K W n sl s a w) (hK' : ∀ k, K' k → K k ∨ w.heap.size ≤ k) (hlt : ∀ k, K' k → k < w'.heap.size) (hW : ∀ k, K' k → w'.heap[k]? = W' k)
    (hos : w'.os = w.os) (htape : w'.tape = w.tape) (hout : w'.output = w.output) (hsz : w.heap.size ≤ w'.heap.size) (hcell : ∀ k, k < w.heap.size → ¬ K' k → w'.heap[k]? = w.heap[k]?) : Kd R0 K' W' n sl s a w' := by
  have hg := h.old.grow
  obtain ⟨R, h1, h2, h3, h4⟩ := h.st
  have hn : ∀ k, K' k → R0.w0.heap.size ≤ k := fun k hk => by
    rcases hK' k hk with h5 | h5
    · exact h.new k h5
    · omega
  obtain ⟨R', e, g1, g2, g3⟩ := rebaseK h3 h4 h1 hK' hn hlt hos htape hout hsz hcell
  exact ⟨hn, h.size, h.defers, h.slots, R', g1, fun k hk => by rw [e]; exact hW k hk, g2, g3⟩
theorem Kd.restr {L : LoopSpec} {s' : St} (h : Kd R0 K W n sl s a w) (hr : restrict L s = some s') : Kd R0 K W n sl s' a w := by
  obtain ⟨R, h1, h2, h3, h4⟩ := h.st
  exact ⟨h.new, h.size, h.defers, h.slots, R, h1, h2, h3.restr (restrict_spec hr), h4⟩
/-- A slot that nothing is known of takes a value that is to be kept. -/
theorem Kd.keep {k : Nat} {v : Value} (h : Kd R0 K W n sl s a w) (hl : s.look k = .undef) (hk : k < n) (hd : ∀ p ∈ sl, p.1 ≠ k) : Kd R0 K W n ((k, v) :: sl) s (a.put (some k) v) w := by
  obtain ⟨R, h1, h2, h3, h4⟩ := h.st
  have hk' : k < a.tmps.size := by rw [h.size]; exact hk
  refine ⟨h.new, (put_size _ _ _).trans h.size, (put_defers' _ _ _).trans h.defers, fun p hp => ?_, R, h1, h2, h3.put_undef hl hk', h4⟩
  rcases List.mem_cons.1 hp with rfl | hp
  · exact put_at hk'
  · exact (put_same hk' (hd p hp)).trans (h.slots p hp)
theorem Kd.less {sl' : List (Nat × Value)} (h : Kd R0 K W n sl s a w) (hs : ∀ p ∈ sl', p ∈ sl) : Kd R0 K W n sl' s a w :=
  ⟨h.new, h.size, h.defers, fun p hp => h.slots p (hs p hp), h.st⟩
theorem Kd.op (TOK : TysOK P C.τ) (GOK : CtrsOK P C.Γ) {i : Nat} {o : Oper} {e : Eff} (h : Kd R0 K W n sl s a w) (ho : ops[i]? = some o) (hg : o.guard = none) (he : opEff C.τ C.Γ (o.dst.getD 0) o (s.args o) = some e) (hn : e.ok) (hk : ∀ k, o.dst = some k → k < n ∧ ∀ p ∈ sl, p.1 ≠ k)
    (hnext : ∀ a' w', Kd R0 K W n sl (s.after o e) a' w' → RegTo P b ops l Q a' w') : RegTo P b ops (i :: l) Q a w := by
  obtain ⟨R, h1, h2, h3, h4⟩ := h.st
  refine RegTo.op TOK GOK ho hg h3 he hn (fun k hk' => by rw [h.size]; exact (hk k hk').1) fun a' w' h5 h6 => hnext a' w' ⟨h.new, h6.size.trans h.size, h6.defers.trans h.defers, fun p hp => (h6.tmps p.1 (fun hd => (hk p.1 hd).2 p hp rfl)).trans (h.slots p hp), R, h1, h2, h5, h4⟩
/-- Pieces that keep out of these slots. -/
def farL (ts : List Nat) (cs : List Code) : Bool := cs.all fun x => (writes x).all fun t => ts.all fun d => !(Nat.beq t d)
theorem farL_out {ts : List Nat} {cs : List Code} (h : farL ts cs = true) {d : Nat} (hd : d ∈ ts) : ∀ x ∈ cs, d ∉ writes x := fun x hx ht => by
  unfold farL at h
  rw [List.all_eq_true] at h
  have h1 := h x hx
  rw [List.all_eq_true] at h1
  have h2 := h1 d ht
  rw [List.all_eq_true] at h2
  have h3 := h2 d hd
  simp at h3
theorem Kd.piece (TOK : TysOK P C.τ) (GC : CtrsOK P C.Γ) (hmix : P.follows .mixedOrders = true) {fn : Func} {res : List GTy} {ts : List (Nat × Sh)} {bs : List (Nat × BSh)} {rest cs : List Code} {G : Option (dens res) × Option (ShT ts × ShB bs) → Prop} (h : Kd R0 K W n sl s a w) (hcalm : calmL n n cs = true) (hfar : farL (sl.map (·.1)) cs = true) (hG : (pieceT C fn res ts bs cs s).holds G)
    (hret : ∀ y s' a' w', G (some y, none) → IsSt R0 s' a' w' → a'.defers = [] → (evRes C fn res (.normal, s')).holds (fun z => z = y) → Q .ret a' w')
    (hgo : ∀ x a' w', G (none, some x) → Kd R0 K W n sl (mkS ts bs x) a' w' → LTo P b rest Q a' w')
    (hbad : ¬ G (none, none)) (DK : DsOK P C := by exact dsOK_nil rfl) : LTo P b (cs ++ rest) Q a w := by
  obtain ⟨R, h1, h2, h3, h4⟩ := h.st
  have hsz := calmL_wr hcalm
  refine piece_to (DK := DK) TOK GC hmix (calmL_lam hcalm) (fun x hx t ht => by rw [h.size]; exact (hsz x hx t ht).1) h3 hG ?_ ?_ hbad
  · rintro y s' a' w' k1 ⟨M, hM, hb, I, hr⟩ k3 k4
    exact hret y s' a' w' k1 ⟨M, hM, hb, h4 M I, hr⟩ (k3.trans h.defers) k4
  · intro x a' w' k1 k2 k3 k4 k5
    exact hgo x a' w' k1 ⟨h.new, k3.trans h.size, k4.trans h.defers, fun p hp => (k5 p.1 (farL_out hfar (List.mem_map_of_mem hp))).trans (h.slots p hp), R, h1, h2, k2, h4⟩
/-- A loop, with what holds at its head and what goes down. -/
theorem CodeTo.loop {c : Code} (I : Nat → Act → World → Prop) (n0 : Nat) (h0 : I n0 a w) (round : ∀ n a w, I n a w → CodeTo P b c (Exit.then (fun a' w' => ∃ m, m < n ∧ I m a' w') Q) a w) : CodeTo P b (.loop c) Q a w := by
  intro k cs
  have key : ∀ n a w, I n a w → ∃ e a' w', Q e a' w' ∧ Arrives P (lone (b.at a (.code c :: .inLoop c :: k)) cs w) b k cs e a' w' := by
    intro n
    induction n using Nat.strongRecOn with
    | _ n ih =>
      intro a w hI
      obtain ⟨e, a1, w1, hq, harr⟩ := round n a w hI (.inLoop c :: k) cs
      cases e with
      | normal =>
        obtain ⟨m, hlt, hI1⟩ := hq
        obtain ⟨e2, a2, w2, hq2, harr2⟩ := ih m hlt a1 w1 hI1
        exact ⟨e2, a2, w2, hq2, .of_steps (Steps.trans harr (.one step_inLoop)) harr2⟩
      | exit id => exact ⟨_, a1, w1, hq, .pass (x := .inLoop c) rfl (fun _ _ => .inl (by simp)) harr⟩
      | goto l => exact ⟨_, a1, w1, hq, .pass (x := .inLoop c) rfl (fun _ _ => .inl (by simp)) harr⟩
      | ret => exact ⟨_, a1, w1, hq, .pass (x := .inLoop c) rfl (fun _ _ => .inl (by simp)) harr⟩
      | panic ch => exact ⟨_, a1, w1, hq, .pass (x := .inLoop c) rfl (fun _ _ => .inl (by simp)) harr⟩
      | outgrown => exact ⟨_, a1, w1, hq, .pass (x := .inLoop c) rfl (fun _ _ => .inl (by simp)) harr⟩
  obtain ⟨e, a', w', hq, harr⟩ := key n0 a w h0
  exact ⟨e, a', w', hq, .of_steps (.one step_loop) harr⟩
/-- A block: its own exit is its end. -/
theorem CodeTo.block {id : Nat} {c : Code} (h : CodeTo P b c (Exit.inBlock id Q) a w) : CodeTo P b (.block id c) Q a w := by
  intro k cs
  obtain ⟨e, a1, w1, hq, harr⟩ := h (.inBlock id :: k) cs
  cases e with
  | normal => exact ⟨.normal, a1, w1, hq, .head step_block (Steps.trans harr (.one step_inBlock))⟩
  | exit id' =>
    by_cases hid : id' = id
    · simp only [Exit.inBlock, hid, if_true] at hq
      exact ⟨.normal, a1, w1, hq, .head step_block (harr k (by simp [exitTo, hid]))⟩
    · simp only [Exit.inBlock, hid, if_false] at hq
      refine ⟨.exit id', a1, w1, hq, fun k' hk => .head step_block (harr k' ?_)⟩
      have : (id == id') = false := by simp; exact fun h => hid h.symm
      simp [exitTo, this, hk]
  | goto l => exact ⟨_, a1, w1, hq, fun k' hk => .head step_block (harr k' (by simp [gotoIn, hk]))⟩
  | ret => exact ⟨_, a1, w1, hq, .of_steps (.one step_block) harr⟩
  | panic ch => exact ⟨_, a1, w1, hq, .of_steps (.one step_block) harr⟩
  | outgrown => exact ⟨_, a1, w1, hq, .of_steps (b := b) (k := k) (cs := cs) (e := .outgrown) (.one step_block) harr⟩
theorem CodeTo.exit {id : Nat} (h : Q (.exit id) a w) : CodeTo P b (.exit id) Q a w := fun _ _ => ⟨.exit id, a, w, h, fun _ hk => .one (step_exit hk)⟩
end
end Go.Ev
/- A call beside the evaluator: of a function, or of a function value, whose Calls is given. -/
set_option linter.unusedVariables false
set_option linter.unusedSimpArgs false
namespace Go.Ev
open Go.Conc
theorem yields_call {P : Program} {ρ : Operand → Value} {o : Oper} {w : World} {K : Value → World → Prop} {x : Operand} {aas : Array Operand} {ts : Array TypeId} {f : Nat} {caps : Array Value} {fn : Func} {R : Ending → World → Prop}
    (ho : o.op = .call { callee := .value x, args := aas, argTypes := ts }) (hx : ρ x = .func (.func f) #[] caps) (hf : P.funcs[f]? = some fn) (hb : fn.body.isNone = false) (hn : (fn.name == "runtime.NumGoroutine") = false)
    (h : Calls P f (aas.map ρ ++ caps) w R) (hR : ∀ e w', R e w' → ∃ v, e = .returned v ∧ K v w') : Yields P ρ o w K := by
  have hrun : (execOp ρ o).run P w = .ok (.enter f (aas.map ρ ++ caps)) w := by
    simp only [execOp, ho, resolve, hx, Deferred.ofValue, Sem.run_bind]
    have h2' : ¬ fn.body = none := by intro hh; rw [hh] at hb; simp at hb
    have h3' : ¬ fn.name = "runtime.NumGoroutine" := by simpa using hn
    simp [invoke, callFunc, hf, h2', h3']
  unfold Yields
  rw [hrun]
  exact h.mono hR
section
variable {P : Program} {C : Ctx} {b : Frame} {Q : Exit → Act → World → Prop} {a : Act} {w : World} {ops : Array Oper} {l : List Nat} {R0 : Ref} {K : Nat → Prop} {W : Nat → Option Obj} {n : Nat} {sl : List (Nat × Value)} {s : St}
/-- What a part of a tuple is. -/
theorem RegTo.extract {i j : Nat} {o : Oper} {x : Operand} {vs : Array Value} {v : Value} (ho : ops[i]? = some o) (hg : o.guard = none) (hop : o.op = .extract x j) (hx : a.eval x = .tuple vs) (hv : vs[j]? = some v) (h : RegTo P b ops l Q (a.put o.dst v) w) : RegTo P b ops (i :: l) Q a w := by
  refine RegTo.value ho hg (v := v) (w' := w) ?_ h
  unfold execOp
  rw [hop]
  simp [hx, hv, Instr.extract]
/-- A slot's value, moved. -/
theorem RegTo.moved {i : Nat} {o : Oper} {x : Operand} (ho : ops[i]? = some o) (hg : o.guard = none) (hop : o.op = .move x ∨ o.op = .assign x) (h : RegTo P b ops l Q (a.put o.dst (a.eval x)) w) : RegTo P b ops (i :: l) Q a w := by
  refine RegTo.value ho hg (v := a.eval x) (w' := w) ?_ h
  unfold execOp
  rcases hop with hop | hop <;> rw [hop] <;> rfl
/-- A call that writes only kept blocks and new ones; what it leaves in new blocks is kept, or not. -/
theorem Kd.call {i f : Nat} {o : Oper} {x : Operand} {ar : Array Operand} {ts : Array TypeId} {caps args : Array Value} {fn : Func} {R : Ending → World → Prop} (h : Kd R0 K W n sl s a w)
    (ho : ops[i]? = some o) (hg : o.guard = none) (hop : o.op = .call { callee := .value x, args := ar, argTypes := ts }) (hx : a.eval x = .func (.func f) #[] caps) (hargs : ar.map a.eval ++ caps = args) (hf : P.funcs[f]? = some fn) (hb : fn.body.isNone = false) (hn : (fn.name == "runtime.NumGoroutine") = false)
    (hc : Calls P f args w R)
    (hR : ∀ e w', R e w' → ∃ v K' W', e = .returned v ∧ (∀ k, K' k → K k ∨ w.heap.size ≤ k) ∧ (∀ k, K' k → k < w'.heap.size) ∧ (∀ k, K' k → w'.heap[k]? = W' k) ∧ w'.os = w.os ∧ w'.tape = w.tape ∧ w'.output = w.output ∧ w.heap.size ≤ w'.heap.size ∧ (∀ k, k < w.heap.size → ¬ K' k → w'.heap[k]? = w.heap[k]?) ∧
      (Kd R0 K' W' n sl s a w' → RegTo P b ops l Q (a.put o.dst v) w')) : RegTo P b ops (i :: l) Q a w := by
  refine RegTo.yields ho hg (K := fun v w' => RegTo P b ops l Q (a.put o.dst v) w') (yields_call hop hx hf hb hn (hargs ▸ hc) fun e w' hr => ?_) (fun v w' hv => hv)
  obtain ⟨v, K', W', h1, h2, h3, h4, h5, h6, h7, h8, h9, h10⟩ := hR e w' hr
  exact ⟨v, h1, h10 (h.world h2 h3 h4 h5 h6 h7 h8 h9)⟩
theorem LTo.cons {c : Code} {cs : List Code} (h : CodeTo P b c (Exit.then (LTo P b cs Q) Q) a w) : LTo P b (c :: cs) Q a w := h
theorem Kd.known {k : Nat} {v : Value} {av : AV} (h : Kd R0 K W n sl s a w) (hv : ∀ M, RelV M av v) (hk : k < n) (hd : ∀ p ∈ sl, p.1 ≠ k) : Kd R0 K W n sl (s.put k av) (a.put (some k) v) w := by
  obtain ⟨R, h1, h2, h3, h4⟩ := h.st
  have hk' : k < a.tmps.size := by rw [h.size]; exact hk
  exact ⟨h.new, (put_size _ _ _).trans h.size, (put_defers' _ _ _).trans h.defers, fun p hp => (put_same hk' (hd p hp)).trans (h.slots p hp), R, h1, h2, h3.put_known hv hk', h4⟩
/-- Operations of a region, told by the evaluator, read back. -/
def opsT (C : Ctx) (ts : List (Nat × Sh)) (bs : List (Nat × BSh)) (l : List Oper) (s : St) : Tree (Option (ShT ts × ShB bs)) :=
  (runOps C l s).bind fun s' => match restrict { prom := [], keep := ts.map (·.1), boxes := bs.map (·.1), sum := fun _ => .stuck } s' with
    | none => .stuck
    | some s'' => .leaf (unS ts bs s'')
def farO (n : Nat) (ds : List Nat) (l : List Oper) : Bool := l.all fun o => o.guard.isNone && match o.dst with
  | some d => Nat.blt d n && ds.all fun t => !(Nat.beq t d)
  | none => true
theorem Kd.ops_run (TOK : TysOK P C.τ) (GOK : CtrsOK P C.Γ) {F : St → Prop} {l2 : List Nat} : ∀ (l1 : List Nat) {s : St} {a : Act} {w : World}, Kd R0 K W n sl s a w → (∀ i ∈ l1, i < ops.size) → farO n (sl.map (·.1)) (l1.map fun i => ops.getD i default) = true → (runOps C (l1.map fun i => ops.getD i default) s).holds F →
    (∀ s' a' w', F s' → Kd R0 K W n sl s' a' w' → RegTo P b ops l2 Q a' w') → RegTo P b ops (l1 ++ l2) Q a w
  | [], s, a, w, h, _, _, hF, hgo => hgo s a w hF h
  | i :: l1, s, a, w, h, hi, hfar, hF, hgo => by
    have hlt := hi i (by simp)
    have ho : ops[i]? = some (ops.getD i default) := by simp [hlt]
    generalize ops.getD i default = o at *
    have ho2 : ops.getD i default = o := by simp [Array.getD_eq_getD_getElem?, ho]
    simp only [List.map_cons, ho2] at hfar hF
    unfold farO at hfar
    rw [List.all_cons, Bool.and_eq_true, Bool.and_eq_true] at hfar
    obtain ⟨⟨hg, hd⟩, hrest⟩ := hfar
    simp only [runOps] at hF
    split at hF
    · exact hF.elim
    · rename_i e he
      have hF' : e.ok ∧ (runOps C (l1.map fun i => ops.getD i default) (s.after o e)).holds F := by
        cases hn : e.need with
        | none =>
          rw [hn] at hF
          exact ⟨(fun p hp => by rw [hn] at hp; cases hp), hF⟩
        | some p =>
          rw [hn] at hF
          exact ⟨(fun q hq => by rw [hn] at hq; cases hq; exact hF.1), hF.2⟩
      refine h.op TOK GOK ho (by simpa using hg) he hF'.1 (fun k hk => ?_) fun a' w' h' => Kd.ops_run TOK GOK l1 h' (fun j hj => hi j (by simp [hj])) (by unfold farO; exact hrest) hF'.2 hgo
      rw [hk] at hd
      simp only [Bool.and_eq_true, Nat.blt_eq] at hd
      refine ⟨hd.1, fun p hp => ?_⟩
      have := List.all_eq_true.1 hd.2 p.1 (List.mem_map_of_mem hp)
      intro e
      rw [e] at this
      simp at this
theorem Kd.opsL (TOK : TysOK P C.τ) (GOK : CtrsOK P C.Γ) {ts : List (Nat × Sh)} {bs : List (Nat × BSh)} {G : Option (ShT ts × ShB bs) → Prop} {l2 : List Nat} (l1 : List Nat) (h : Kd R0 K W n sl s a w) (hi : (l1.all fun i => Nat.blt i ops.size) = true) (hfar : farO n (sl.map (·.1)) (l1.map fun i => ops.getD i default) = true)
    (hG : (opsT C ts bs (l1.map fun i => ops.getD i default) s).holds G) (hgo : ∀ x a' w', G (some x) → Kd R0 K W n sl (mkS ts bs x) a' w' → RegTo P b ops l2 Q a' w') (hbad : ¬ G none) : RegTo P b ops (l1 ++ l2) Q a w := by
  refine h.ops_run TOK GOK l1 (fun i hm => ?_) hfar (holds_bind.1 hG) fun s' a' w' hF h' => ?_
  · have := List.all_eq_true.1 hi i hm
    simpa [Nat.blt_eq] using this
  · split at hF
    · exact hF.elim
    · rename_i s'' hr
      have h5 := h'.restr hr
      simp only [Tree.holds] at hF
      cases hu : unS ts bs s'' with
      | none => rw [hu] at hF; exact absurd hF hbad
      | some x =>
        rw [hu] at hF
        have := unS_eq hu
        subst this
        exact hgo x a' w' hF h5
end
theorem known_u8 {R : Ref} {s : St} {a : Act} {w : World} {t : Nat} {n : Int} (h : IsSt R s a w) (hl : s.look t = .val (.int .u8) n) : a.tmps.getD t undef = .int .u8 n := by
  obtain ⟨M, _, _, _, hr⟩ := h
  have := hr t
  rw [hl] at this
  obtain ⟨cs, h1, h2⟩ := this
  have h3 : cs = [.int .u8 n] := h1.1
  subst h3
  exact h2
theorem known_i64 {R : Ref} {s : St} {a : Act} {w : World} {t : Nat} {n : Int} (h : IsSt R s a w) (hl : s.look t = .val (.int .i64) n) : a.tmps.getD t undef = .int .i64 n := by
  obtain ⟨M, _, _, _, hr⟩ := h
  have := hr t
  rw [hl] at this
  obtain ⟨cs, h1, h2⟩ := this
  have h3 : cs = [.int .i64 n] := h1.1
  subst h3
  exact h2
theorem known_u64 {R : Ref} {s : St} {a : Act} {w : World} {t : Nat} {n : Int} (h : IsSt R s a w) (hl : s.look t = .val (.int .u64) n) : a.tmps.getD t undef = .int .u64 n := by
  obtain ⟨M, _, _, _, hr⟩ := h
  have := hr t
  rw [hl] at this
  obtain ⟨cs, h1, h2⟩ := this
  have h3 : cs = [.int .u64 n] := h1.1
  subst h3
  exact h2
theorem known_u32 {R : Ref} {s : St} {a : Act} {w : World} {t : Nat} {n : Int} (h : IsSt R s a w) (hl : s.look t = .val (.int .u32) n) : a.tmps.getD t undef = .int .u32 n := by
  obtain ⟨M, _, _, _, hr⟩ := h
  have := hr t
  rw [hl] at this
  obtain ⟨cs, h1, h2⟩ := this
  have h3 : cs = [.int .u32 n] := h1.1
  subst h3
  exact h2
theorem known_str {R : Ref} {s : St} {a : Act} {w : World} {t : Nat} {n : List UInt8} (h : IsSt R s a w) (hl : s.look t = .val .str n) : a.tmps.getD t undef = .string ⟨⟨n⟩⟩ := by
  obtain ⟨M, _, _, _, hr⟩ := h
  have := hr t
  rw [hl] at this
  obtain ⟨cs, h1, h2⟩ := this
  have h3 : cs = [.string ⟨⟨n⟩⟩] := h1.1
  subst h3
  exact h2
def rThen : Code → Code
  | .cond _ x _ => x
  | _ => .skip
def rElse : Code → Code
  | .cond _ _ x => x
  | _ => .skip
def rIn : Code → Code
  | .block _ c => c
  | _ => .skip
def rOps : Code → Array Oper
  | .region _ ops _ => ops
  | _ => #[]
def rOp (c : Code) (i : Nat) : Oper := (rOps c).getD i default
def rNth (c : Code) (i : Nat) : Code := (seqs c).getD i .skip
end Go.Ev
/- Configurations as texts, in plain Lean. -/
set_option linter.unusedVariables false
set_option linter.unusedSimpArgs false
namespace Go.Ev
def numBad (n : Int) : Bool := bif decide (n < (0 : Int)) then true else decide (n > (1073741824 : Int))
def rulesBad (r : DRules) : Bool := bif numBad r.1 then true else bif numBad r.2.1 then true else bif numBad r.2.2.1 then true else numBad r.2.2.2
def headT (c : DConf) : List UInt8 := (([110, 111, 100, 101, 32] ++ textN (withF 0 c.1)) ++ [10, 114, 117, 108, 101, 115]) ++ ([32] ++ itoaF c.2.1.1) ++ ([32] ++ itoaF c.2.1.2.1) ++ ([32] ++ itoaF c.2.1.2.2.1) ++ ([32] ++ itoaF c.2.1.2.2.2) ++ [10]
/-- One link's line. -/
def lineB (c : DCosts) (n : Int) : List UInt8 := ((([108, 105, 110, 107, 32] ++ textN (withF 0 n)) ++ [32]) ++ natT (c.2.getD n.toNat 0).toNat) ++ [10]
def linesB (c : DCosts) (l : List Int) : List UInt8 := l.flatMap (lineB c)
theorem lines_cons (c : DCosts) (j : Int) (l : List Int) : linesB c (j :: l) = lineB c j ++ linesB c l := rfl
theorem lineB_len (c : DCosts) (n : Int) : (lineB c n).length ≤ 60 := by
  have h1 := textN_len (withF 0 n)
  have h3 := digN_len 20 (c.2.getD n.toNat 0).toNat
  unfold lineB natT
  simp only [List.length_append, List.length_cons, List.length_nil]
  omega
def printF (c : DConf) : List UInt8 × Int := bif (bif !rightF c.1 then true else !soundF c.2.2) then ([], 1) else bif rulesBad c.2.1 then ([], 1) else (headT c ++ linesB c.2.2 (elemsF c.2.2.1 16), 0)
theorem print_bad {c : DConf} (h : (bif !rightF c.1 then true else !soundF c.2.2) = true) : ([], (1 : Int)) = printF c := by unfold printF; rw [h]; rfl
theorem print_num {c : DConf} (h : (bif !rightF c.1 then true else !soundF c.2.2) = false) (h2 : rulesBad c.2.1 = true) : ([], (1 : Int)) = printF c := by unfold printF; rw [h, h2]; rfl
theorem print_good {c : DConf} (h : (bif !rightF c.1 then true else !soundF c.2.2) = false) (h2 : rulesBad c.2.1 = false) : (headT c ++ linesB c.2.2 (elemsF c.2.2.1 16), (0 : Int)) = printF c := by unfold printF; rw [h, h2]; rfl
theorem rb1 {r : DRules} (h : numBad r.1 = true) : rulesBad r = true := by unfold rulesBad; rw [h]; rfl
theorem rb2 {r : DRules} (h1 : numBad r.1 = false) (h : numBad r.2.1 = true) : rulesBad r = true := by unfold rulesBad; rw [h1, h]; rfl
theorem rb3 {r : DRules} (h1 : numBad r.1 = false) (h2 : numBad r.2.1 = false) (h : numBad r.2.2.1 = true) : rulesBad r = true := by unfold rulesBad; rw [h1, h2, h]; rfl
theorem rb4 {r : DRules} (h1 : numBad r.1 = false) (h2 : numBad r.2.1 = false) (h3 : numBad r.2.2.1 = false) {b : Bool} (h : numBad r.2.2.2 = b) : rulesBad r = b := by unfold rulesBad; rw [h1, h2, h3, h]; rfl
theorem within_iff {n a b : Int} : withinF n a b = true ↔ a ≤ n ∧ n ≤ b := by
  unfold withinF
  by_cases h : n ≥ a
  · rw [decide_eq_true h]
    show decide (n ≤ b) = true ↔ _
    rw [decide_eq_true_eq]
    exact ⟨fun h2 => ⟨h, h2⟩, fun h2 => h2.2⟩
  · rw [decide_eq_false h]
    exact ⟨(fun h2 => by cases h2), fun h2 => absurd h2.1 h⟩
theorem and_true' {a b : Bool} (h : (bif a then b else false) = true) : a = true ∧ b = true := by cases a <;> simp_all
theorem num_ok {n : Int} (h0 : 0 ≤ n) (h1 : n ≤ 1073741824) : numBad n = false := by
  unfold numBad
  rw [decide_eq_false (show ¬ n < 0 by omega), decide_eq_false (show ¬ n > 1073741824 by omega)]; rfl
theorem rules_ok {r : DRules} (h : rulesF r = true) : rulesBad r = false := by
  unfold rulesF at h
  obtain ⟨h, h4⟩ := and_true' h
  obtain ⟨h, h3⟩ := and_true' h
  obtain ⟨h, h2b⟩ := and_true' h
  obtain ⟨h1, h2a⟩ := and_true' h
  have q1 := within_iff.1 h1
  have q2 := of_decide_eq_true h2a
  have q3 := of_decide_eq_true h2b
  have q4 := within_iff.1 h3
  have q5 := within_iff.1 h4
  exact rb4 (num_ok (by omega) (by omega)) (num_ok (by omega) (by omega)) (num_ok (by omega) (by omega)) (num_ok (by omega) (by omega))
theorem right_print {c : DConf} (h : (confF c != 0) = false) : ((printF c).2 == (0 : Int)) = true := by
  unfold confF at h
  cases h1 : (bif !rightF c.1 then true else !soundF c.2.2) with
  | true => rw [h1] at h; cases h
  | false =>
    rw [h1] at h
    cases h2 : hasF c.2.2.1 c.1 with
    | true => rw [h2] at h; cases h
    | false =>
      rw [h2] at h
      cases h3 : rulesF c.2.1 with
      | false => rw [h3] at h; cases h
      | true => rw [← print_good h1 (rules_ok h3)]; rfl
theorem pair_both (a b : DConf) : cpairF a b = cpairF b a := by
  unfold cpairF
  have e : (a.1 != b.1) = (b.1 != a.1) := by
    rw [Bool.eq_iff_iff]
    simp only [bne_iff_ne, ne_eq]
    exact ⟨fun h h2 => h h2.symm, fun h h2 => h h2.symm⟩
  rw [e]
  cases (b.1 != a.1) <;> cases hasF a.2.2.1 b.1 <;> cases hasF b.2.2.1 a.1 <;> rfl
theorem pair_one (a : DConf) : cpairF a a = false := by
  unfold cpairF
  simp
end Go.Ev
/- Loops told by their steps: round after round, till one does not go on. -/
set_option linter.unusedVariables false
namespace Go.Ev
/-- So many rounds at most. -/
def runF {σ : Type} (stp : σ → Ex × σ) : Nat → σ → Ex × σ
  | 0, x => (.normal, x)
  | n + 1, x => match stp x with
    | (.normal, y) => runF stp n y
    | p => p
theorem runF_go {σ : Type} {stp : σ → Ex × σ} {n : Nat} {x y : σ} (h : stp x = (.normal, y)) : runF stp (n + 1) x = runF stp n y := by
  show (match stp x with | (.normal, y) => runF stp n y | p => p) = _
  rw [h]
theorem runF_end {σ : Type} {stp : σ → Ex × σ} {n : Nat} {x : σ} (h : (stp x).1 ≠ .normal) : runF stp (n + 1) x = stp x := by
  show (match stp x with | (.normal, y) => runF stp n y | p => p) = _
  split
  · rename_i y hy
    rw [hy] at h
    exact absurd rfl h
  · rfl
/-- Enough rounds are enough. -/
theorem runF_fuel {σ : Type} {stp : σ → Ex × σ} {pre : σ → Prop} {μ : σ → Nat} (h : ∀ x, pre x → (stp x).1 = .normal → pre (stp x).2 ∧ μ (stp x).2 < μ x) : ∀ n m x, pre x → μ x < n → μ x < m → runF stp n x = runF stp m x
  | 0, _, _, _, h1, _ => by omega
  | _ + 1, 0, _, _, _, h1 => by omega
  | n + 1, m + 1, x, hp, h1, h2 => by
    by_cases hn : (stp x).1 = .normal
    · have e : stp x = (.normal, (stp x).2) := Prod.ext hn rfl
      obtain ⟨h3, h4⟩ := h x hp hn
      rw [runF_go e, runF_go e]
      exact runF_fuel h n m _ h3 (by omega) (by omega)
    · rw [runF_end hn, runF_end hn]
/-- What holds at each round's head, and what comes of it. -/
theorem runF_inv {σ : Type} {stp : σ → Ex × σ} {J : σ → Prop} {Post : Ex × σ → Prop} {μ : σ → Nat} (h : ∀ x, J x → ((stp x).1 = .normal → J (stp x).2 ∧ μ (stp x).2 < μ x) ∧ ((stp x).1 ≠ .normal → Post (stp x))) : ∀ n x, J x → μ x < n → Post (runF stp n x)
  | 0, _, _, h1 => by omega
  | n + 1, x, hp, h1 => by
    obtain ⟨h2, h3⟩ := h x hp
    by_cases hn : (stp x).1 = .normal
    · have e : stp x = (.normal, (stp x).2) := Prod.ext hn rfl
      obtain ⟨h4, h5⟩ := h2 hn
      rw [runF_go e]
      exact runF_inv h n _ h4 (by omega)
    · rw [runF_end hn]
      exact h3 hn
def isRet : Ex → Bool
  | .ret => true
  | _ => false
/-- A loop that ends in one way. -/
def out1 {σ : Type} (id : Nat) (p : Ex × σ) : Tree (Ex × σ) := .leaf (.exit id, p.2)
/-- A loop that ends, or leaves the function. -/
def out2 {σ : Type} (id : Nat) (p : Ex × σ) : Tree (Ex × σ) := .br (isRet p.1) (.leaf (.ret, p.2)) (.leaf (.exit id, p.2))
section
variable {C : Ctx} {body : Code} {D : LoopD}
theorem loopF_ok {T : ShT D.ts × ShB D.bs → Tree (Ex × Option (ShT D.ts × ShB D.bs))} (hstep : ∀ x, roundOf C D body x = T x) (stp : ShT D.ts × ShB D.bs → Ex × (ShT D.ts × ShB D.bs)) (μ : ShT D.ts × ShB D.bs → Nat)
    (O : Ex × (ShT D.ts × ShB D.bs) → Tree (Ex × (ShT D.ts × ShB D.bs))) (hD : ∀ x, D.out x = O (runF stp (μ x + 1) x)) (hO : ∀ x, D.pre x → (stp x).1 ≠ .normal → ∀ G, (O (stp x)).holds G → G (stp x))
    (h : ∀ x, D.pre x → ((T x).holds fun p => p = ((stp x).1, some (stp x).2)) ∧ ((stp x).1 = .normal → D.pre (stp x).2 ∧ μ (stp x).2 < μ x)) : LoopOK C D.spec body :=
  loopD_ok hstep μ fun x hp => by
    obtain ⟨h1, h2⟩ := h x hp
    refine holds_mono ?_ h1
    rintro p rfl
    refine ⟨(stp x).2, rfl, ?_⟩
    by_cases hn : (stp x).1 = .normal
    · obtain ⟨h3, h4⟩ := h2 hn
      have e : stp x = (.normal, (stp x).2) := Prod.ext hn rfl
      simp only [hn]
      refine ⟨h3, h4, fun G hG => ?_⟩
      rw [hD, runF_go e, runF_fuel (pre := D.pre) (μ := μ) (fun y hy => (h y hy).2) (μ x) (μ (stp x).2 + 1) _ h3 h4 (by omega)] at hG
      rw [hD]
      exact hG
    · have hfin : ∀ G, (D.out x).holds G → G ((stp x).1, (stp x).2) := fun G hG => by
        rw [hD, runF_end hn] at hG
        exact hO x hp hn G hG
      cases he : (stp x).1 with
      | normal => exact absurd he hn
      | exit k => rw [he] at hfin; exact hfin
      | ret => rw [he] at hfin; exact hfin
      | die v => rw [he] at hfin; exact hfin
/-- … that ends in one way. -/
theorem loopF1_ok {T : ShT D.ts × ShB D.bs → Tree (Ex × Option (ShT D.ts × ShB D.bs))} (hstep : ∀ x, roundOf C D body x = T x) {id : Nat} (stp : ShT D.ts × ShB D.bs → Ex × (ShT D.ts × ShB D.bs)) (μ : ShT D.ts × ShB D.bs → Nat) (hD : ∀ x, D.out x = out1 id (runF stp (μ x + 1) x))
    (he : ∀ x, (stp x).1 = .normal ∨ (stp x).1 = .exit id) (h : ∀ x, D.pre x → ((T x).holds fun p => p = ((stp x).1, some (stp x).2)) ∧ ((stp x).1 = .normal → D.pre (stp x).2 ∧ μ (stp x).2 < μ x)) : LoopOK C D.spec body :=
  loopF_ok hstep stp μ (out1 id) hD (fun x _ hn G hG => by
    have h1 := (he x).resolve_left hn
    have e : stp x = (.exit id, (stp x).2) := Prod.ext h1 rfl
    rw [e]
    exact hG) h
theorem loopF2_ok {T : ShT D.ts × ShB D.bs → Tree (Ex × Option (ShT D.ts × ShB D.bs))} (hstep : ∀ x, roundOf C D body x = T x) {id : Nat} (stp : ShT D.ts × ShB D.bs → Ex × (ShT D.ts × ShB D.bs)) (μ : ShT D.ts × ShB D.bs → Nat) (hD : ∀ x, D.out x = out2 id (runF stp (μ x + 1) x))
    (he : ∀ x, (stp x).1 = .normal ∨ (stp x).1 = .exit id ∨ (stp x).1 = .ret) (h : ∀ x, D.pre x → ((T x).holds fun p => p = ((stp x).1, some (stp x).2)) ∧ ((stp x).1 = .normal → D.pre (stp x).2 ∧ μ (stp x).2 < μ x)) : LoopOK C D.spec body :=
  loopF_ok hstep stp μ (out2 id) hD (fun x _ hn G hG => by
    rcases (he x).resolve_left hn with h1 | h1
    · have e : stp x = (.exit id, (stp x).2) := Prod.ext h1 rfl
      rw [e] at hG ⊢
      exact hG.2 rfl
    · have e : stp x = (.ret, (stp x).2) := Prod.ext h1 rfl
      rw [e] at hG ⊢
      exact hG.1 rfl) h
end
end Go.Ev
/- Letters of a text, and its bytes. -/
set_option linter.unusedVariables false
set_option linter.unusedSimpArgs false
namespace Go.Ev
def byteAt (y : List UInt8) (i : Nat) : Nat := (y.getD i 0).toNat
theorem get_byte (y : List UInt8) (i : Nat) : ((ByteArray.mk ⟨y⟩).get! i).toNat = byteAt y i := by
  show ((⟨y⟩ : Array UInt8)[i]!).toNat = _
  unfold byteAt
  rw [Array.getElem!_eq_getD, List.getD_eq_getElem?_getD]
  simp [Array.getD_eq_getD_getElem?]
  rfl
theorem byteAt_lt (y : List UInt8) (i : Nat) : byteAt y i < 256 := UInt8.toNat_lt _
theorem dec_eq (y : List UInt8) (i : Nat) : decL y i =
    (let cont (k : Nat) : Bool := i + k < y.length && byteAt y (i + k) / 64 == 2
    let b0 := byteAt y (i + 0)
    if b0 < 0x80 then (b0, 1)
    else if b0 / 32 == 6 && cont 1 then
      let c := (b0 % 32) * 64 + byteAt y (i + 1) % 64
      if c ≥ 0x80 then (c, 2) else (Utf8.runeError, 1)
    else if b0 / 16 == 14 && cont 1 && cont 2 then
      let c := (b0 % 16) * 4096 + (byteAt y (i + 1) % 64) * 64 + byteAt y (i + 2) % 64
      if c ≥ 0x800 && Utf8.valid c then (c, 3) else (Utf8.runeError, 1)
    else if b0 / 8 == 30 && cont 1 && cont 2 && cont 3 then
      let c := (b0 % 8) * 262144 + (byteAt y (i + 1) % 64) * 4096 + (byteAt y (i + 2) % 64) * 64 + byteAt y (i + 3) % 64
      if c ≥ 0x10000 && Utf8.valid c then (c, 4) else (Utf8.runeError, 1)
    else (Utf8.runeError, 1)) := by
  unfold decL Utf8.decode
  simp only [get_byte]
  rfl
/-- A byte of one letter. -/
theorem decL_low {y : List UInt8} {i : Nat} (h : byteAt y i < 128) : decL y i = (byteAt y i, 1) := by
  rw [dec_eq]
  simp only [Nat.add_zero]
  rw [if_pos h]
/-- A byte that is no letter alone: the letter is a great one, and what belongs to it is great, too. -/
theorem decL_high {y : List UInt8} {i : Nat} (h : ¬ byteAt y i < 128) : 128 ≤ (decL y i).1 ∧ ∀ j, i ≤ j → j < i + (decL y i).2 → 128 ≤ byteAt y j ∧ (i < j → j < y.length) := by
  have h0 := byteAt_lt y i
  rw [dec_eq]
  simp only [Nat.add_zero]
  rw [if_neg h]
  unfold Utf8.runeError
  have one : ∀ (P : Nat → Prop), (P i) → ∀ j, i ≤ j → j < i + 1 → P j := fun P hp j h1 h2 => by
    have : j = i := by omega
    rw [this]; exact hp
  have hi : 128 ≤ byteAt y i ∧ (i < i → i < y.length) := ⟨by omega, by omega⟩
  split
  · rename_i hc
    simp only [Bool.and_eq_true, beq_iff_eq, decide_eq_true_eq] at hc
    split
    · refine ⟨by simp only []; omega, fun j h1 h2 => ?_⟩
      simp only [] at h2
      have : j = i ∨ j = i + 1 := by omega
      rcases this with rfl | rfl
      · exact hi
      · exact ⟨by omega, fun _ => by omega⟩
    · exact ⟨by decide, one _ hi⟩
  split
  · rename_i hc
    simp only [Bool.and_eq_true, beq_iff_eq, decide_eq_true_eq] at hc
    split
    · rename_i hd
      simp only [Bool.and_eq_true, decide_eq_true_eq] at hd
      refine ⟨by simp only []; omega, fun j h1 h2 => ?_⟩
      simp only [] at h2
      have : j = i ∨ j = i + 1 ∨ j = i + 2 := by omega
      rcases this with rfl | rfl | rfl
      · exact hi
      · exact ⟨by omega, fun _ => by omega⟩
      · exact ⟨by omega, fun _ => by omega⟩
    · exact ⟨by decide, one _ hi⟩
  split
  · rename_i hc
    simp only [Bool.and_eq_true, beq_iff_eq, decide_eq_true_eq] at hc
    split
    · rename_i hd
      simp only [Bool.and_eq_true, decide_eq_true_eq] at hd
      refine ⟨by simp only []; omega, fun j h1 h2 => ?_⟩
      simp only [] at h2
      have : j = i ∨ j = i + 1 ∨ j = i + 2 ∨ j = i + 3 := by omega
      rcases this with rfl | rfl | rfl | rfl
      · exact hi
      · exact ⟨by omega, fun _ => by omega⟩
      · exact ⟨by omega, fun _ => by omega⟩
      · exact ⟨by omega, fun _ => by omega⟩
    · exact ⟨by decide, one _ hi⟩
  · exact ⟨by decide, one _ hi⟩
theorem drop_byte {y : List UInt8} {i : Nat} (h : i < y.length) : y.drop i = y.getD i 0 :: y.drop (i + 1) := by
  rw [List.drop_eq_getElem_cons h]
  simp [List.getD, h]
end Go.Ev
/- Commands as texts, in plain Lean. -/
set_option linter.unusedVariables false
set_option linter.unusedSimpArgs false
namespace Go.Ev
abbrev gCmd : GTy := .prod (.int .i64) (.prod (.int .i64) (.int .i64))
abbrev DCmd := Int × Int × Int
def crightF (c : DCmd) : Bool := bif !rightF c.2.1 then false else bif c.1 == (1 : Int) then withinF c.2.2 1 65536 else bif c.1 == (3 : Int) then withinF c.2.2 1 64 else bif (bif c.1 == (2 : Int) then c.1 == (2 : Int) else c.1 == (4 : Int)) then c.2.2 == (0 : Int) else false
def wordK (k : Int) : List UInt8 := bif k == (1 : Int) then [108, 105, 110, 107] else bif k == (2 : Int) then [99, 117, 116] else bif k == (3 : Int) then [115, 101, 110, 100] else bif k == (4 : Int) then [115, 104, 111, 119] else []
def cprintT (c : DCmd) : List UInt8 := bif decide (c.2.2 > (0 : Int)) then ((wordK c.1 ++ [32]) ++ textN (withF 0 c.2.1)) ++ ([32] ++ itoaF c.2.2) else (wordK c.1 ++ [32]) ++ textN (withF 0 c.2.1)
def cprintF (c : DCmd) : List UInt8 × Int := bif !crightF c then ([], 1) else (cprintT c, 0)
/-- Sets of nodes out of texts. -/
def npGo : List UInt8 → Int → Int → Option Int
  | [], s, _ => some s
  | b :: l, s, last => bif (bif decide ((b.toNat : Int) ≤ last) then true else decide ((b.toNat : Int) > 112)) then none else npGo l (withF s ((b.toNat : Int) - 97)) (b.toNat : Int)
def nparseF (s : List UInt8) : Int × Int := bif s == [46] then (0, 0) else match npGo s 0 96 with
  | none => (0, 3)
  | some v => bif v == 0 then (0, 3) else (v, 0)
/-- A number out of digits. -/
def numGo (top : Int) : List UInt8 → Int → Option Int
  | [], n => some n
  | b :: l, n => bif (bif decide ((b.toNat : Int) < 48) then true else bif decide ((b.toNat : Int) > 57) then true else decide (n > top)) then none else numGo top l (n * 10 + ((b.toNat : Int) - 48))
def numberF (s : List UInt8) : Int := match numGo 65536 s 0 with
  | none => -1
  | some n => bif s == [] then -1 else n
/-- A text's words. -/
def wordsGo : List UInt8 → List UInt8 → List (List UInt8)
  | [], cur => [cur]
  | b :: l, cur => bif b == 32 then cur :: wordsGo l [] else wordsGo l (cur ++ [b])
def wordsF (s : List UInt8) : List (List UInt8) := wordsGo s []
def kindF (w : List UInt8) : Int := bif wordK 4 == w then 4 else bif wordK 3 == w then 3 else bif wordK 2 == w then 2 else bif wordK 1 == w then 1 else 0
def lowestF (s : Int) : Int := match elemsF s 16 with
  | [] => -1
  | j :: _ => j
def cparseC (w : List (List UInt8)) : DCmd := (kindF (w.getD 0 []), lowestF (nparseF (w.getD 1 [])).1, bif (w.length : Int) == (3 : Int) then numberF (w.getD 2 []) else 0)
def cparseF (s : List UInt8) : DCmd × Int := bif decide ((s.length : Int) > 40) then ((0, 0, 0), 4) else
  bif (bif decide (((wordsF s).length : Int) < 2) then true else decide (((wordsF s).length : Int) > 3)) then ((0, 0, 0), 3) else
  bif (nparseF ((wordsF s).getD 1 [])).2 != (0 : Int) then ((0, 0, 0), 3) else
  bif (bif (cprintF (cparseC (wordsF s))).2 != (0 : Int) then true else !((cprintF (cparseC (wordsF s))).1 == s)) then ((0, 0, 0), 3) else (cparseC (wordsF s), 0)
/-! What is printed is parsed. -/
theorem words_end : ∀ (a cur : List UInt8), (∀ b ∈ a, b ≠ 32) → wordsGo a cur = [cur ++ a]
  | [], cur, _ => by simp [wordsGo]
  | b :: a, cur, h => by
    have hb : (b == 32) = false := by simpa using h b (by simp)
    rw [wordsGo, hb]
    show wordsGo a (cur ++ [b]) = _
    rw [words_end a (cur ++ [b]) (fun x hx => h x (by simp [hx])), List.append_assoc]
    rfl
theorem words_cons : ∀ (a cur l : List UInt8), (∀ b ∈ a, b ≠ 32) → wordsGo (a ++ 32 :: l) cur = (cur ++ a) :: wordsGo l []
  | [], cur, l, _ => by simp [wordsGo]
  | b :: a, cur, l, h => by
    have hb : (b == 32) = false := by simpa using h b (by simp)
    rw [List.cons_append, wordsGo, hb]
    show wordsGo (a ++ 32 :: l) (cur ++ [b]) = _
    rw [words_cons a (cur ++ [b]) l (fun x hx => h x (by simp [hx])), List.append_assoc]
    rfl
theorem node_cases {p : Int → Prop} {n : Int} (h0 : 0 ≤ n) (h1 : n < 16) (h : p 0 ∧ p 1 ∧ p 2 ∧ p 3 ∧ p 4 ∧ p 5 ∧ p 6 ∧ p 7 ∧ p 8 ∧ p 9 ∧ p 10 ∧ p 11 ∧ p 12 ∧ p 13 ∧ p 14 ∧ p 15) : p n := by
  obtain ⟨a0, a1, a2, a3, a4, a5, a6, a7, a8, a9, a10, a11, a12, a13, a14, a15⟩ := h
  have : n = 0 ∨ n = 1 ∨ n = 2 ∨ n = 3 ∨ n = 4 ∨ n = 5 ∨ n = 6 ∨ n = 7 ∨ n = 8 ∨ n = 9 ∨ n = 10 ∨ n = 11 ∨ n = 12 ∨ n = 13 ∨ n = 14 ∨ n = 15 := by omega
  rcases this with rfl | rfl | rfl | rfl | rfl | rfl | rfl | rfl | rfl | rfl | rfl | rfl | rfl | rfl | rfl | rfl <;> assumption
theorem one_text {n : Int} (h0 : 0 ≤ n) (h1 : n < 16) : textN (withF 0 n) = [letF n] ∧ nparseF [letF n] = (withF 0 n, 0) ∧ lowestF (withF 0 n) = n ∧ letF n ≠ 32 ∧ elemsF (withF 0 n) 16 = [n] :=
  node_cases (p := fun n => textN (withF 0 n) = [letF n] ∧ nparseF [letF n] = (withF 0 n, 0) ∧ lowestF (withF 0 n) = n ∧ letF n ≠ 32 ∧ elemsF (withF 0 n) 16 = [n]) h0 h1 (by refine ⟨?_, ?_, ?_, ?_, ?_, ?_, ?_, ?_, ?_, ?_, ?_, ?_, ?_, ?_, ?_, ?_⟩ <;> decide +kernel)
theorem num_more {top : Int} : ∀ (l : List UInt8) (n : Int) (b : UInt8), numGo top (l ++ [b]) n = match numGo top l n with
    | none => none
    | some m => bif (bif decide ((b.toNat : Int) < 48) then true else bif decide ((b.toNat : Int) > 57) then true else decide (m > top)) then none else some (m * 10 + ((b.toNat : Int) - 48))
  | [], n, b => by simp only [List.nil_append, numGo]
  | c :: l, n, b => by
    rw [List.cons_append, numGo, numGo]
    cases (bif decide ((c.toNat : Int) < 48) then true else bif decide ((c.toNat : Int) > 57) then true else decide (n > top)) with
    | true => rfl
    | false => exact num_more l _ b
theorem dig_toNat {d : Nat} (h : d < 10) : (UInt8.ofNat (48 + d)).toNat = 48 + d := by
  rw [UInt8.toNat_ofNat']; omega
theorem num_digits {top : Int} : ∀ (f n : Nat), n < 10 ^ f → 0 < f → ((n / 10 : Nat) : Int) ≤ top → numGo top (digN f n) 0 = some (n : Int)
  | 0, _, _, h, _ => absurd h (by omega)
  | f + 1, n, h, _, ht => by
    unfold digN
    by_cases h10 : n < 10
    · rw [show Nat.blt n 10 = true by rw [Nat.blt_eq]; exact h10]
      simp only [cond_true, numGo]
      rw [dig_toNat h10]
      have h0 : 0 ≤ top := by omega
      rw [decide_eq_false (by omega), decide_eq_false (by omega), decide_eq_false (by omega)]
      simp only [cond_false]
      congr 1
      omega
    · rw [show Nat.blt n 10 = false by
        cases hb : Nat.blt n 10 with
        | false => rfl
        | true => exact absurd (by rw [Nat.blt_eq] at hb; exact hb) h10]
      have hf : 0 < f := by
        rcases Nat.eq_zero_or_pos f with h0 | h0
        · subst h0; omega
        · exact h0
      have hd : n / 10 < 10 ^ f := by rw [Nat.pow_succ] at h; omega
      simp only [cond_false]
      rw [num_more, num_digits f (n / 10) hd hf (by omega)]
      simp only
      rw [dig_toNat (Nat.mod_lt _ (by omega))]
      have := Nat.mod_lt n (show 0 < 10 by omega)
      rw [decide_eq_false (by omega), decide_eq_false (by omega), decide_eq_false (by omega)]
      simp only [cond_false]
      congr 1
      omega
theorem digN_no : ∀ (f n : Nat), ∀ b ∈ digN f n, 48 ≤ b.toNat ∧ b.toNat ≤ 57
  | 0, _, b, h => by cases h
  | f + 1, n, b, h => by
    unfold digN at h
    cases hb : Nat.blt n 10 with
    | true =>
      rw [hb] at h
      have h10 : n < 10 := by rw [Nat.blt_eq] at hb; exact hb
      simp only [cond_true, List.mem_singleton] at h
      rw [h, dig_toNat h10]; omega
    | false =>
      rw [hb] at h
      simp only [cond_false, List.mem_append, List.mem_singleton] at h
      rcases h with h | h
      · exact digN_no f _ b h
      · have := Nat.mod_lt n (show 0 < 10 by omega)
        rw [h, dig_toNat this]; omega
theorem digN_ne : ∀ (f n : Nat), 0 < f → digN f n ≠ []
  | 0, _, h => absurd h (by omega)
  | f + 1, n, _ => by
    unfold digN
    cases Nat.blt n 10 <;> simp
theorem digN_short : ∀ (f n k : Nat), n < 10 ^ k → 0 < k → (digN f n).length ≤ k
  | 0, _, _, _, _ => by simp [digN]
  | f + 1, n, k, h, hk => by
    unfold digN
    cases hb : Nat.blt n 10 with
    | true => simp; omega
    | false =>
      have h10 : ¬ n < 10 := by rw [← Nat.blt_eq, hb]; simp
      obtain ⟨j, rfl⟩ : ∃ j, k = j + 1 := ⟨k - 1, by omega⟩
      have hj : 0 < j := by
        rcases Nat.eq_zero_or_pos j with h0 | h0
        · subst h0; omega
        · exact h0
      have hd : n / 10 < 10 ^ j := by rw [Nat.pow_succ] at h; omega
      have := digN_short f (n / 10) j hd hj
      simp only [cond_false, List.length_append, List.length_cons, List.length_nil]
      omega
theorem within_iff' {n a b : Int} : withinF n a b = true ↔ a ≤ n ∧ n ≤ b := by
  unfold withinF
  by_cases h : n ≥ a
  · rw [decide_eq_true h]
    show decide (n ≤ b) = true ↔ _
    rw [decide_eq_true_eq]
    exact ⟨fun h2 => ⟨h, h2⟩, fun h2 => h2.2⟩
  · rw [decide_eq_false h]
    exact ⟨(fun h2 => by cases h2), fun h2 => absurd h2.1 h⟩
theorem wordK_len (k : Int) : (wordK k).length ≤ 4 := by
  unfold wordK
  cases k == (1 : Int) <;> cases k == (2 : Int) <;> cases k == (3 : Int) <;> cases k == (4 : Int) <;> decide
theorem cright_of {c : DCmd} (h : crightF c = true) : 0 ≤ c.2.1 ∧ c.2.1 < 16 ∧ (c.1 = 1 ∧ 1 ≤ c.2.2 ∧ c.2.2 ≤ 65536 ∨ c.1 = 2 ∧ c.2.2 = 0 ∨ c.1 = 3 ∧ 1 ≤ c.2.2 ∧ c.2.2 ≤ 64 ∨ c.1 = 4 ∧ c.2.2 = 0) := by
  unfold crightF at h
  cases hr : rightF c.2.1 with
  | false => rw [hr] at h; cases h
  | true =>
    have hr' := rightF_iff.1 hr
    rw [hr] at h
    refine ⟨hr'.1, hr'.2, ?_⟩
    simp only [Bool.not_true, cond_false] at h
    by_cases h1 : c.1 = 1
    · have e : (c.1 == (1 : Int)) = true := by simpa using h1
      rw [e] at h
      simp only [cond_true] at h
      have := within_iff'.1 h
      exact .inl ⟨h1, this.1, this.2⟩
    · have e : (c.1 == (1 : Int)) = false := by simpa using h1
      rw [e] at h
      simp only [cond_false] at h
      by_cases h3 : c.1 = 3
      · have e : (c.1 == (3 : Int)) = true := by simpa using h3
        rw [e] at h
        simp only [cond_true] at h
        have := within_iff'.1 h
        exact .inr (.inr (.inl ⟨h3, this.1, this.2⟩))
      · have e : (c.1 == (3 : Int)) = false := by simpa using h3
        rw [e] at h
        simp only [cond_false] at h
        by_cases h2 : c.1 = 2
        · have e : (c.1 == (2 : Int)) = true := by simpa using h2
          rw [e] at h
          simp only [cond_true, beq_iff_eq] at h
          exact .inr (.inl ⟨h2, h⟩)
        · have e : (c.1 == (2 : Int)) = false := by simpa using h2
          rw [e] at h
          simp only [cond_false] at h
          by_cases h4 : c.1 = 4
          · have e : (c.1 == (4 : Int)) = true := by simpa using h4
            rw [e] at h
            simp only [cond_true, beq_iff_eq] at h
            exact .inr (.inr (.inr ⟨h4, h⟩))
          · have e : (c.1 == (4 : Int)) = false := by simpa using h4
            rw [e] at h
            cases h
/-- A right command's parts as it is printed. -/
theorem cprint_parts {c : DCmd} (h : crightF c = true) : cprintT c = wordK c.1 ++ 32 :: [letF c.2.1] ∧ c.2.2 = 0 ∨ cprintT c = wordK c.1 ++ 32 :: ([letF c.2.1] ++ 32 :: natT c.2.2.toNat) ∧ 1 ≤ c.2.2 ∧ c.2.2 ≤ 65536 := by
  obtain ⟨h0, h1, h2⟩ := cright_of h
  have ht := (one_text h0 h1).1
  unfold cprintT
  rw [ht]
  by_cases hn : c.2.2 > 0
  · right
    rw [decide_eq_true hn]
    have e : itoaF c.2.2 = natT c.2.2.toNat := by
      unfold itoaF
      rw [decide_eq_false (by omega)]
      rfl
    rw [e]
    refine ⟨by simp, by omega, ?_⟩
    rcases h2 with h2 | h2 | h2 | h2 <;> omega
  · left
    rw [decide_eq_false hn]
    refine ⟨by simp, ?_⟩
    rcases h2 with h2 | h2 | h2 | h2 <;> omega
theorem wordK_no {k : Int} (h : k = 1 ∨ k = 2 ∨ k = 3 ∨ k = 4) : (∀ b ∈ wordK k, b ≠ 32) ∧ kindF (wordK k) = k ∧ (wordK k).length ≤ 4 ∧ wordK k ≠ [] := by
  rcases h with rfl | rfl | rfl | rfl <;> decide +kernel
theorem cprint_words {c : DCmd} (h : crightF c = true) : wordsF (cprintT c) = [wordK c.1, [letF c.2.1]] ∧ c.2.2 = 0 ∨ wordsF (cprintT c) = [wordK c.1, [letF c.2.1], natT c.2.2.toNat] ∧ 1 ≤ c.2.2 ∧ c.2.2 ≤ 65536 := by
  obtain ⟨h0, h1, h2⟩ := cright_of h
  have hk := (wordK_no (k := c.1) (by rcases h2 with h2 | h2 | h2 | h2 <;> omega)).1
  have hl := (one_text h0 h1).2.2.2.1
  have hl' : ∀ b ∈ [letF c.2.1], b ≠ 32 := by simpa using hl
  rcases cprint_parts h with ⟨e, e2⟩ | ⟨e, e2⟩
  · left
    refine ⟨?_, e2⟩
    rw [e]
    unfold wordsF
    rw [words_cons _ _ _ hk, words_end _ _ hl']
    rfl
  · right
    refine ⟨?_, e2⟩
    rw [e]
    unfold wordsF
    rw [words_cons _ _ _ hk, words_cons _ _ _ hl', words_end _ _ (fun b hb => by
      have := digN_no _ _ b hb
      rintro rfl
      exact absurd this.1 (by decide))]
    rfl
theorem number_nat {n : Int} (h0 : 1 ≤ n) (h1 : n ≤ 65536) : numberF (natT n.toNat) = n := by
  unfold numberF natT
  rw [num_digits 20 n.toNat (by omega) (by omega) (by omega)]
  have : digN 20 n.toNat ≠ [] := digN_ne _ _ (by omega)
  have e : (digN 20 n.toNat == []) = false := by simpa using this
  rw [e]
  simp only [cond_false]
  omega
theorem cprint_len {c : DCmd} (h : crightF c = true) : (cprintT c).length ≤ 20 := by
  obtain ⟨h0, h1, h2⟩ := cright_of h
  have hk := (wordK_no (k := c.1) (by rcases h2 with h2 | h2 | h2 | h2 <;> omega)).2.2.1
  rcases cprint_parts h with ⟨e, e2⟩ | ⟨e, e2, e3⟩
  · rw [e]; simp; omega
  · have := digN_short 20 c.2.2.toNat 6 (by omega) (by omega)
    rw [e]; unfold natT; simp; omega
theorem cparse_print {c : DCmd} (h : crightF c = true) : cparseF (cprintT c) = (c, 0) := by
  obtain ⟨h0, h1, h2⟩ := cright_of h
  have hk := wordK_no (k := c.1) (by rcases h2 with h2 | h2 | h2 | h2 <;> omega)
  have hone := one_text h0 h1
  have hlen := cprint_len h
  have hc : cparseC (wordsF (cprintT c)) = c ∧ (wordsF (cprintT c)).length ≤ 3 ∧ 2 ≤ (wordsF (cprintT c)).length ∧ (wordsF (cprintT c)).getD 1 [] = [letF c.2.1] := by
    rcases cprint_words h with ⟨e, e2⟩ | ⟨e, e2, e3⟩
    · rw [e]
      refine ⟨?_, by simp, by simp, rfl⟩
      show (kindF (wordK c.1), lowestF (nparseF [letF c.2.1]).1, (0 : Int)) = c
      rw [hk.2.1, hone.2.1, hone.2.2.1, ← e2]
    · rw [e]
      refine ⟨?_, by simp, by simp, rfl⟩
      show (kindF (wordK c.1), lowestF (nparseF [letF c.2.1]).1, numberF (natT c.2.2.toNat)) = c
      rw [hk.2.1, hone.2.1, hone.2.2.1, number_nat e2 e3]
  obtain ⟨hc1, hc2, hc3, hc4⟩ := hc
  unfold cparseF
  rw [decide_eq_false (by omega), decide_eq_false (by omega), decide_eq_false (by omega), hc4, hone.2.1, hc1]
  have e : cprintF c = (cprintT c, 0) := by unfold cprintF; rw [h]; rfl
  rw [e]
  simp
theorem cparse_back {s : List UInt8} (h : ((cparseF s).2 == (0 : Int)) = true) : crightF (cparseF s).1 = true ∧ cprintT (cparseF s).1 = s := by
  unfold cparseF at h ⊢
  cases h1 : decide ((s.length : Int) > 40) with
  | true => rw [h1] at h; cases h
  | false =>
    rw [h1] at h
    simp only [cond_false] at h ⊢
    cases h2 : (bif decide (((wordsF s).length : Int) < 2) then true else decide (((wordsF s).length : Int) > 3)) with
    | true => rw [h2] at h; cases h
    | false =>
      rw [h2] at h
      simp only [cond_false] at h ⊢
      cases h3 : (nparseF ((wordsF s).getD 1 [])).2 != (0 : Int) with
      | true => rw [h3] at h; cases h
      | false =>
        rw [h3] at h
        simp only [cond_false] at h ⊢
        cases h4 : (bif (cprintF (cparseC (wordsF s))).2 != (0 : Int) then true else !((cprintF (cparseC (wordsF s))).1 == s)) with
        | true => rw [h4] at h; cases h
        | false =>
          simp only [cond_false]
          have hr : crightF (cparseC (wordsF s)) = true := by
            cases hr : crightF (cparseC (wordsF s)) with
            | true => rfl
            | false =>
              unfold cprintF at h4
              rw [hr] at h4
              cases h4
          refine ⟨hr, ?_⟩
          unfold cprintF at h4
          rw [hr] at h4
          simpa using h4
/-- What is no command's text is refused. -/
theorem cparse_none {s : List UInt8} (hl : ¬ (s.length : Int) > 40) (h : ∀ c, crightF c = true → cprintT c ≠ s) : cparseF s = ((0, 0, 0), 3) := by
  cases he : (cparseF s).2 == (0 : Int) with
  | true => exact absurd (cparse_back he).2 (h _ (cparse_back he).1)
  | false =>
    unfold cparseF at he ⊢
    rw [decide_eq_false hl] at he ⊢
    simp only [cond_false] at he ⊢
    cases h2 : (bif decide (((wordsF s).length : Int) < 2) then true else decide (((wordsF s).length : Int) > 3)) with
    | true => rfl
    | false =>
      rw [h2] at he
      simp only [cond_false] at he ⊢
      cases h3 : (nparseF ((wordsF s).getD 1 [])).2 != (0 : Int) with
      | true => rfl
      | false =>
        rw [h3] at he
        simp only [cond_false] at he ⊢
        cases h4 : (bif (cprintF (cparseC (wordsF s))).2 != (0 : Int) then true else !((cprintF (cparseC (wordsF s))).1 == s)) with
        | true => rfl
        | false => rw [h4] at he; cases he
theorem cparse_long {s : List UInt8} (hl : (s.length : Int) > 40) : cparseF s = ((0, 0, 0), 4) := by
  unfold cparseF
  rw [decide_eq_true hl]
  rfl
theorem cparse_zero {s : List UInt8} (h : ((cparseF s).2 != (0 : Int)) = true) : (cparseF s).1 = (0, 0, 0) := by
  unfold cparseF at h ⊢
  cases h1 : decide ((s.length : Int) > 40) with
  | true => rfl
  | false =>
    rw [h1] at h
    simp only [cond_false] at h ⊢
    cases h2 : (bif decide (((wordsF s).length : Int) < 2) then true else decide (((wordsF s).length : Int) > 3)) with
    | true => rfl
    | false =>
      rw [h2] at h
      simp only [cond_false] at h ⊢
      cases h3 : (nparseF ((wordsF s).getD 1 [])).2 != (0 : Int) with
      | true => rfl
      | false =>
        rw [h3] at h
        simp only [cond_false] at h ⊢
        cases h4 : (bif (cprintF (cparseC (wordsF s))).2 != (0 : Int) then true else !((cprintF (cparseC (wordsF s))).1 == s)) with
        | true => rfl
        | false => rw [h4] at h; cases h
theorem cprint_good {c : DCmd} (h : ((cprintF c).2 == (0 : Int)) = true) : crightF c = true := by
  unfold cprintF at h
  cases hr : crightF c with
  | true => rfl
  | false => rw [hr] at h; cases h
end Go.Ev
/- The least node of a set; sets of nodes out of texts, round by round. -/
set_option linter.unusedVariables false
set_option linter.unusedSimpArgs false
namespace Go.Ev
abbrev NpS := (Int × Int × Int × Int × Unit) × (List UInt8 × Nat) × Unit
def npStp (x : NpS) : Ex × NpS :=
  bif Nat.blt x.2.1.2 x.2.1.1.length then
    bif (bif decide (((decL x.2.1.1 x.2.1.2).1 : Int) ≤ x.1.2.2.2.1) then true else decide (((decL x.2.1.1 x.2.1.2).1 : Int) > 112)) then (.ret, ((0, 3, x.1.2.2.1, x.1.2.2.2.1, ()), (x.2.1.1, decN x.2.1.1 x.2.1.2), ()))
    else (.normal, ((x.1.1, x.1.2.1, withF x.1.2.2.1 (((decL x.2.1.1 x.2.1.2).1 : Int) - 97), ((decL x.2.1.1 x.2.1.2).1 : Int), ()), (x.2.1.1, decN x.2.1.1 x.2.1.2), ()))
  else (.exit 0, (x.1, (x.2.1.1, decN x.2.1.1 x.2.1.2), ()))
def npMu (x : NpS) : Nat := x.2.1.1.length - x.2.1.2
theorem blt_iff {a b : Nat} : Nat.blt a b = true ↔ a < b := by rw [Nat.blt_eq]
theorem blt_no {a b : Nat} (h : ¬ a < b) : Nat.blt a b = false := by
  cases hb : Nat.blt a b with
  | false => rfl
  | true => exact absurd (blt_iff.1 hb) h
theorem decN_go {y : List UInt8} {pos : Nat} (h : pos < y.length) : decN y pos = pos + (decL y pos).2 := by unfold decN; rw [blt_iff.2 h]; rfl
theorem decN_low {y : List UInt8} {pos : Nat} (h : pos < y.length) (hb : byteAt y pos < 128) : decN y pos = pos + 1 := by rw [decN_go h, decL_low hb]
theorem decN_lt {y : List UInt8} {pos : Nat} (h : Nat.blt pos y.length = true) : y.length - decN y pos < y.length - pos := by
  have h' := blt_iff.1 h
  have := decL_pos y pos
  rw [decN_go h']
  omega
theorem npStp_ends (x : NpS) : (npStp x).1 = .normal ∨ (npStp x).1 = .exit 0 ∨ (npStp x).1 = .ret := by
  unfold npStp
  cases Nat.blt x.2.1.2 x.2.1.1.length with
  | false => exact .inr (.inl rfl)
  | true => cases (bif decide (((decL x.2.1.1 x.2.1.2).1 : Int) ≤ x.1.2.2.2.1) then true else decide (((decL x.2.1.1 x.2.1.2).1 : Int) > 112)) with
    | true => exact .inr (.inr rfl)
    | false => exact .inl rfl
theorem np_mu {x : NpS} (h : (npStp x).1 = .normal) : npMu (npStp x).2 < npMu x := by
  unfold npStp at h ⊢
  cases hb : Nat.blt x.2.1.2 x.2.1.1.length with
  | false => rw [hb] at h; cases h
  | true =>
    rw [hb] at h
    cases hc : (bif decide (((decL x.2.1.1 x.2.1.2).1 : Int) ≤ x.1.2.2.2.1) then true else decide (((decL x.2.1.1 x.2.1.2).1 : Int) > 112)) with
    | true => rw [hc] at h; cases h
    | false => exact decN_lt hb
/-- What comes of it. -/
def npEnd (o : Option Int) (p : Ex × NpS) : Prop := match o with
  | none => p.1 = .ret ∧ p.2.1.1 = 0 ∧ p.2.1.2.1 = 3
  | some v => p.1 = .exit 0 ∧ p.2.1.2.2.1 = v
theorem np_run {y : List UInt8} {o : Option Int} : ∀ (n : Nat) (x : NpS), (x.2.1.1 = y ∧ npGo (y.drop x.2.1.2) x.1.2.2.1 x.1.2.2.2.1 = o) → npMu x < n → npEnd o (runF npStp n x) :=
  runF_inv fun x hx => by
    refine ⟨fun hn => ⟨?_, np_mu hn⟩, fun hn => ?_⟩
    · obtain ⟨⟨a, b, s, l, ⟨⟩⟩, ⟨y', pos⟩, ⟨⟩⟩ := x
      obtain ⟨h1, h2⟩ := hx
      simp only at h1 h2
      subst h1
      unfold npStp at hn ⊢
      simp only at hn ⊢
      cases hb : Nat.blt pos y'.length with
      | false => rw [hb] at hn; cases hn
      | true =>
        rw [hb] at hn
        have hlt := blt_iff.1 hb
        simp only [cond_true] at hn ⊢
        cases hc : (bif decide (((decL y' pos).1 : Int) ≤ l) then true else decide (((decL y' pos).1 : Int) > 112)) with
        | true => rw [hc] at hn; cases hn
        | false =>
          simp only [cond_false]
          refine ⟨trivial, ?_⟩
          by_cases hlow : byteAt y' pos < 128
          · rw [drop_byte hlt, npGo] at h2
            have e : ((y'.getD pos 0).toNat : Int) = ((decL y' pos).1 : Int) := by rw [decL_low hlow]; rfl
            rw [e, hc] at h2
            rw [decN_low hlt hlow]
            exact h2
          · have h3 := (decL_high hlow).1
            rw [decide_eq_true (show ((decL y' pos).1 : Int) > 112 by omega)] at hc
            cases hd : decide (((decL y' pos).1 : Int) ≤ l) <;> rw [hd] at hc <;> cases hc
    · obtain ⟨⟨a, b, s, l, ⟨⟩⟩, ⟨y', pos⟩, ⟨⟩⟩ := x
      obtain ⟨h1, h2⟩ := hx
      simp only at h1 h2
      subst h1
      unfold npStp at hn ⊢
      simp only at hn ⊢
      cases hb : Nat.blt pos y'.length with
      | false =>
        have hlt : ¬ pos < y'.length := fun h => by rw [blt_iff.2 h] at hb; cases hb
        rw [List.drop_eq_nil_of_le (by omega), npGo] at h2
        subst h2
        exact ⟨rfl, rfl⟩
      | true =>
        rw [hb] at hn
        have hlt := blt_iff.1 hb
        simp only [cond_true] at hn ⊢
        cases hc : (bif decide (((decL y' pos).1 : Int) ≤ l) then true else decide (((decL y' pos).1 : Int) > 112)) with
        | false => rw [hc] at hn; exact absurd rfl hn
        | true =>
          simp only [cond_true]
          have h3 : o = none := by
            rw [drop_byte hlt, npGo] at h2
            by_cases hlow : byteAt y' pos < 128
            · have e : ((y'.getD pos 0).toNat : Int) = ((decL y' pos).1 : Int) := by rw [decL_low hlow]; rfl
              rw [e, hc] at h2
              exact h2.symm
            · have hg : decide (((y'.getD pos 0).toNat : Int) > 112) = true := decide_eq_true (by
                have : byteAt y' pos = (y'.getD pos 0).toNat := rfl
                omega)
              rw [hg] at h2
              cases hd : decide (((y'.getD pos 0).toNat : Int) ≤ l) <;> rw [hd] at h2 <;> exact h2.symm
          subst h3
          exact ⟨rfl, rfl, rfl⟩
theorem np_all (y : List UInt8) (a b : Int) : npEnd (npGo y 0 96) (runF npStp (npMu ((a, b, 0, 96, ()), (y, 0), ()) + 1) ((a, b, 0, 96, ()), (y, 0), ())) :=
  np_run _ _ ⟨rfl, rfl⟩ (by omega)
/-! The least node -/
theorem tz_at {n : Nat} (hn0 : n ≠ 0) (hn : n < 18446744073709551616) {a : Nat} (hlow : n &&& (18446744073709551616 - n) = a) :
    Int.fdiv (IntKind.wrap IntKind.u64 (bitsOp BinOp.and IntKind.u64 (n : Int) (IntKind.wrap IntKind.u64 ((0 : Int) - (n : Int))) * 285870213051353865)) 288230376151711744 = ((a * 285870213051353865 % 18446744073709551616 / 288230376151711744 : Nat) : Int) := by
  have ha : a ≤ n := by rw [← hlow]; exact Nat.and_le_left
  have e1 : IntKind.wrap IntKind.u64 ((0 : Int) - (n : Int)) = ((18446744073709551616 - n : Nat) : Int) := by
    rw [wrap_u64]
    omega
  have e2 : bitsOp BinOp.and IntKind.u64 (n : Int) ((18446744073709551616 - n : Nat) : Int) = (a : Int) := by
    show IntKind.u64.wrap ((BitVec.ofInt 64 (n : Int) &&& BitVec.ofInt 64 ((18446744073709551616 - n : Nat) : Int)).toNat : Int) = _
    rw [BitVec.toNat_and, BitVec.toNat_ofInt, BitVec.toNat_ofInt]
    have a1 : ((n : Int) % ((2 ^ 64 : Nat) : Int)).toNat = n := by omega
    have a2 : (((18446744073709551616 - n : Nat) : Int) % ((2 ^ 64 : Nat) : Int)).toNat = 18446744073709551616 - n := by omega
    rw [a1, a2, hlow, wrap_u64]
    omega
  rw [e1, e2, wrap_u64, Int.fdiv_eq_ediv_of_nonneg _ (by decide), Int.natCast_ediv, Int.natCast_emod, Int.natCast_mul]
  rfl
theorem tab_at (i : Nat) : List.getD lowTab (Int.toNat (i : Int)) 0 = ((Lib.deBruijn64tab.getD i 0 : Nat) : Int) := by
  rw [Int.toNat_natCast]
  unfold lowTab
  generalize Lib.deBruijn64tab = l
  simp only [List.getD_eq_getElem?_getD, List.getElem?_map]
  cases l[i]? <;> rfl
theorem tz_key {x : Int} (h0 : 0 < x) (h1 : x ≤ 18446744073709551615) :
    ((0 : Int) ≤ Int.fdiv (IntKind.wrap IntKind.u64 (bitsOp BinOp.and IntKind.u64 x (IntKind.wrap IntKind.u64 ((0 : Int) - x)) * 285870213051353865)) 288230376151711744 ∧
      Int.fdiv (IntKind.wrap IntKind.u64 (bitsOp BinOp.and IntKind.u64 x (IntKind.wrap IntKind.u64 ((0 : Int) - x)) * 285870213051353865)) 288230376151711744 < 64) ∧
    IntKind.wrap IntKind.i64 (List.getD lowTab (Int.toNat (Int.fdiv (IntKind.wrap IntKind.u64 (bitsOp BinOp.and IntKind.u64 x (IntKind.wrap IntKind.u64 ((0 : Int) - x)) * 285870213051353865)) 288230376151711744)) 0) = (Lib.ctz 64 x.toNat : Int) := by
  obtain ⟨n, rfl⟩ := Int.eq_ofNat_of_zero_le (Int.le_of_lt h0)
  have hn0 : n ≠ 0 := by omega
  have hn : n < 18446744073709551616 := by omega
  obtain ⟨hlow, hk⟩ := Lib.lowest_bit 64 n hn0 hn
  obtain ⟨hi, htab⟩ := Lib.deBruijn64_at _ hk
  rw [tz_at hn0 hn hlow, tab_at, htab, Int.toNat_natCast]
  generalize 2 ^ Lib.ctz 64 n * 285870213051353865 % 18446744073709551616 / 288230376151711744 = i at hi ⊢
  generalize Lib.ctz 64 n = k at hk ⊢
  exact ⟨⟨by omega, by omega⟩, i64_id (by omega) (by omega)⟩
theorem elems_head {s : Int} {k : Nat} (hk : k < 16) (h : hasF s k = true) (hb : ∀ j : Nat, j < k → hasF s j = false) : ∀ n : Nat, n ≤ 16 → 16 - n ≤ k → ∃ l, elemsF s n = (k : Int) :: l
  | 0, _, h1 => by omega
  | n + 1, h0, h1 => by
    unfold elemsF
    by_cases e : 16 - (n + 1) = k
    · have e2 : (16 : Int) - ((n + 1 : Nat) : Int) = (k : Int) := by omega
      rw [e2, h]
      exact ⟨_, rfl⟩
    · obtain ⟨l, hl⟩ := elems_head hk h hb n (by omega) (by omega)
      have e2 : (16 : Int) - ((n + 1 : Nat) : Int) = ((16 - (n + 1) : Nat) : Int) := by omega
      rw [e2, hb _ (by omega), hl]
      exact ⟨_, rfl⟩
theorem has_bit {s : Int} {j : Nat} (hj : j < 16) : hasF s j = (((s % 65536).toNat / 2 ^ j) % 2 == 1) := by
  unfold hasF
  rw [right_nat hj]
  simp only [cond_true]
  rw [bit_at hj]
  have h0 := Int.emod_nonneg s (show (65536 : Int) ≠ 0 by decide)
  have h1 : (s / ((2 ^ j : Nat) : Int)) % 2 = (((s % 65536).toNat / 2 ^ j % 2 : Nat) : Int) := by
    have e : ((s % 65536).toNat : Int) = s % 65536 := Int.toNat_of_nonneg h0
    have hk : j = 0 ∨ j = 1 ∨ j = 2 ∨ j = 3 ∨ j = 4 ∨ j = 5 ∨ j = 6 ∨ j = 7 ∨ j = 8 ∨ j = 9 ∨ j = 10 ∨ j = 11 ∨ j = 12 ∨ j = 13 ∨ j = 14 ∨ j = 15 := by omega
    rcases hk with rfl | rfl | rfl | rfl | rfl | rfl | rfl | rfl | rfl | rfl | rfl | rfl | rfl | rfl | rfl | rfl <;> (simp only [Nat.reducePow]; omega)
  rw [h1, Bool.eq_iff_iff]
  simp only [beq_iff_eq]
  omega
theorem low_none {x : Int} (h : (bitsOp BinOp.and IntKind.i64 x (65535 : Int) == (0 : Int)) = true) : (-1 : Int) = lowestF x := by
  rw [mask_empty] at h
  unfold lowestF
  rw [List.isEmpty_iff.1 h]
theorem low_some {x : Int} (h : (bitsOp BinOp.and IntKind.i64 x (65535 : Int) == (0 : Int)) = false) :
    0 < IntKind.wrap IntKind.u64 (bitsOp BinOp.and IntKind.i64 x (65535 : Int)) ∧ (Lib.ctz 64 (Int.toNat (IntKind.wrap IntKind.u64 (bitsOp BinOp.and IntKind.i64 x (65535 : Int)))) : Int) = lowestF x := by
  have hm : bitsOp BinOp.and IntKind.i64 x (65535 : Int) = x % 65536 := and_low (s := x) 16 (by omega)
  rw [hm] at h ⊢
  have h0 := Int.emod_nonneg x (show (65536 : Int) ≠ 0 by decide)
  have h1 := Int.emod_lt_of_pos x (show (0 : Int) < 65536 by decide)
  have hne : x % 65536 ≠ 0 := by simpa using h
  have e : IntKind.wrap IntKind.u64 (x % 65536) = x % 65536 := u64_id h0 (by omega)
  rw [e]
  refine ⟨by omega, ?_⟩
  obtain ⟨n, hn⟩ : ∃ n, (x % 65536).toNat = n := ⟨_, rfl⟩
  have hn0 : n ≠ 0 := by omega
  have hn1 : n < 65536 := by omega
  rw [hn]
  have hc : Lib.ctz 64 n = Lib.ctzFrom 64 n := by simp [Lib.ctz, hn0]
  obtain ⟨m, hm2, hk⟩ := Lib.ctzFrom_spec 64 n (by omega) (by omega)
  rw [hc]
  generalize Lib.ctzFrom 64 n = k at hm2 hk ⊢
  have hk16 : k < 16 := by
    by_cases hkk : k < 16
    · exact hkk
    · exfalso
      have : 2 ^ 16 ≤ 2 ^ k := Nat.pow_le_pow_right (by omega) (by omega)
      have h3 : 2 ^ k ≤ 2 ^ k * (2 * m + 1) := Nat.le_mul_of_pos_right _ (by omega)
      omega
  have hb : hasF x k = true := by
    rw [has_bit hk16, hn, hm2, Nat.mul_div_cancel_left _ (Nat.pow_pos (by omega))]
    simp
  have hnb : ∀ j : Nat, j < k → hasF x j = false := by
    intro j hj
    rw [has_bit (by omega), hn, hm2]
    have e2 : 2 ^ k = 2 ^ j * (2 * 2 ^ (k - j - 1)) := by
      rw [← Nat.pow_succ', ← Nat.pow_add]
      congr 1
      omega
    rw [e2, Nat.mul_assoc, Nat.mul_div_cancel_left _ (Nat.pow_pos (by omega)), Nat.mul_assoc]
    simp
  obtain ⟨l, hl⟩ := elems_head hk16 hb hnb 16 (by omega) (by omega)
  unfold lowestF
  rw [hl]
end Go.Ev
/- Sets of nodes out of texts; the least node of a set. -/
set_option linter.unusedVariables false
set_option linter.unusedSimpArgs false
namespace Go.Ev.D
open Go.Proofs
def tz64C : Ctr := { args := [.int .u64], res := [.int .i64], pre := some (fun (x : Int) => 0 < x), fn := fun (x : Int) => (Lib.ctz 64 x.toNat : Int) }
theorem tz64_tree : (fun x : Int => evFn (mkC tys [] []) (fnOf Tryd.prog 165) (resL tz64C.args x) tz64C.res) =
  (fun x =>
    Tree.br (x == (0 : Int)) (Tree.leaf (64 : Int))
      (Tree.need
        ((0 : Int) ≤ Int.fdiv (IntKind.wrap IntKind.u64 (bitsOp BinOp.and IntKind.u64 x (IntKind.wrap IntKind.u64 ((0 : Int) - x)) * (285870213051353865 : Int))) (288230376151711744 : Int) ∧
          Int.fdiv (IntKind.wrap IntKind.u64 (bitsOp BinOp.and IntKind.u64 x (IntKind.wrap IntKind.u64 ((0 : Int) - x)) * (285870213051353865 : Int))) (288230376151711744 : Int) < (64 : Int))
        (Tree.leaf
          (IntKind.wrap IntKind.i64
            (List.getD lowTab
              (Int.toNat (Int.fdiv (IntKind.wrap IntKind.u64 (bitsOp BinOp.and IntKind.u64 x (IntKind.wrap IntKind.u64 ((0 : Int) - x)) * (285870213051353865 : Int))) (288230376151711744 : Int)))
              (0 : Int)))))) := by kernel_rfl
theorem tz64_ok : CtrOK Tryd.prog 165 tz64C :=
  fun_ok (G := []) (Λ := []) tysOK ctrs_nil mixed (by kernel_rfl) (by kernel_rfl) (by kernel_rfl) (by kernel_rfl) lp_nil fun (x : Int) hw hp => by
    have hp' : 0 < (x : Int) := hp (fun (x : Int) => 0 < x) rfl
    have hu : IntKind.u64.has x := hw
    rw [has_u64] at hu
    rw [congrFun tz64_tree x]
    simp only [Tree.holds]
    have key := tz_key hp' hu.2
    refine ⟨fun h => ?_, fun _ => ⟨key.1, key.2⟩⟩
    have : x = 0 := by simpa using h
    omega
def tzG : List (Nat × Ctr) := [(165, tz64C)]
theorem tzG_ok : CtrsOK Tryd.prog (fun f => lk f tzG) := (ctrs_cons tz64_ok ctrs_nil)
def tzC : Ctr := { args := [.int .u64], res := [.int .i64], pre := some (fun (x : Int) => 0 < x), fn := fun (x : Int) => (Lib.ctz 64 x.toNat : Int) }
theorem tz_tree : (fun x : Int => evFn (mkC tys tzG []) (fnOf Tryd.prog 143) (resL tzC.args x) tzC.res) =
  (fun x => Tree.br false Tree.stuck (Tree.need ((0 : Int) < x) (Tree.leaf (↑(Lib.ctz (64 : Nat) (Int.toNat x)) : Int)))) := by kernel_rfl
theorem tz_ok : CtrOK Tryd.prog 143 tzC :=
  fun_ok (G := tzG) (Λ := []) tysOK tzG_ok mixed (by kernel_rfl) (by kernel_rfl) (by kernel_rfl) (by kernel_rfl) lp_nil fun (x : Int) hw hp => by
    have hp' : 0 < (x : Int) := hp (fun (x : Int) => 0 < x) rfl
    rw [congrFun tz_tree x]
    simp only [Tree.holds]
    exact ⟨nofun, fun _ => ⟨hp', rfl⟩⟩
def lowestG : List (Nat × Ctr) := [(143, tzC)]
theorem lowestG_ok : CtrsOK Tryd.prog (fun f => lk f lowestG) := (ctrs_cons tz_ok ctrs_nil)
def lowestC : Ctr := { args := [.int .i64], res := [.int .i64], pre := none, fn := fun (x : Int) => lowestF x }
theorem lowest_tree : (fun x : Int => evFn (mkC tys lowestG []) (fnOf Tryd.prog 120) (resL lowestC.args x) lowestC.res) =
  (fun x =>
    Tree.br (bitsOp BinOp.and IntKind.i64 x (65535 : Int) == (0 : Int)) (Tree.leaf (-1 : Int))
      (Tree.need ((0 : Int) < IntKind.wrap IntKind.u64 (bitsOp BinOp.and IntKind.i64 x (65535 : Int)))
        (Tree.leaf (↑(Lib.ctz (64 : Nat) (Int.toNat (IntKind.wrap IntKind.u64 (bitsOp BinOp.and IntKind.i64 x (65535 : Int))))) : Int)))) := by kernel_rfl
theorem lowest_ok : CtrOK Tryd.prog 120 lowestC :=
  fun_ok (G := lowestG) (Λ := []) tysOK lowestG_ok mixed (by kernel_rfl) (by kernel_rfl) (by kernel_rfl) (by kernel_rfl) lp_nil fun (x : Int) hw hp => by
    rw [congrFun lowest_tree x]
    have e : lowestC.fn x = lowestF x := rfl
    rw [e]
    simp only [Tree.holds]
    exact ⟨fun h => low_none h, fun h => low_some h⟩
def nparseG : List (Nat × Ctr) := [(100, withC)]
theorem nparseG_ok : CtrsOK Tryd.prog (fun f => lk f nparseG) := (ctrs_cons with_ok ctrs_nil)
def npD : LoopD where
  prom := []
  ts := [(2, .val (.int .i64)), (3, .val (.int .i64)), (4, .val (.int .i64)), (5, .val (.int .i32)), (11, .ptr 11 .unit)]
  bs := [(11, .iter)]
  pre := fun (x : (Int × Int × Int × Int × Unit) × (List UInt8 × Nat) × Unit) => True
  out := fun (x : (Int × Int × Int × Int × Unit) × (List UInt8 × Nat) × Unit) => out2 0 (runF npStp (npMu x + 1) x)
theorem nparse_round : (fun x : (Int × Int × Int × Int × Unit) × (List UInt8 × Nat) × Unit => roundOf (mkC tys nparseG [(0, npD.spec)]) npD (loopB 0 (bodyOf (fnOf Tryd.prog 119))) x) =
  (fun x =>
    Tree.br (Nat.blt x.2.1.2 (List.length x.2.1.1))
      (Tree.need (Nat.blt x.2.1.2 (List.length x.2.1.1) = true)
        (Tree.br (bif decide ((↑(decL x.2.1.1 x.2.1.2).1 : Int) ≤ x.1.2.2.2.1) then true else decide ((↑(decL x.2.1.1 x.2.1.2).1 : Int) > (112 : Int)))
          (Tree.leaf (Ex.ret, some (((0 : Int), (3 : Int), x.1.2.2.1, x.1.2.2.2.1, ()), (x.2.1.1, decN x.2.1.1 x.2.1.2), ())))
          (Tree.leaf
            (Ex.normal,
              some
                ((x.1.1, x.1.2.1, withF x.1.2.2.1 (IntKind.wrap IntKind.i64 (IntKind.wrap IntKind.i32 ((↑(decL x.2.1.1 x.2.1.2).1 : Int) - (97 : Int)))), (↑(decL x.2.1.1 x.2.1.2).1 : Int), ()),
                  (x.2.1.1, decN x.2.1.1 x.2.1.2), ())))))
      (Tree.leaf (Ex.exit (0 : Nat), some ((x.1.1, x.1.2.1, x.1.2.2.1, x.1.2.2.2.1, ()), (x.2.1.1, decN x.2.1.1 x.2.1.2), ())))) := by kernel_rfl
theorem nparse_loop : LoopOK (mkC tys nparseG [(0, npD.spec)]) npD.spec (loopB 0 (bodyOf (fnOf Tryd.prog 119))) :=
  loopF2_ok (id := 0) (D := npD) (fun x => congrFun nparse_round x) npStp npMu (fun _ => rfl) npStp_ends fun (x : (Int × Int × Int × Int × Unit) × (List UInt8 × Nat) × Unit) _ => by
    obtain ⟨⟨a, b, s, l, ⟨⟩⟩, ⟨y, pos⟩, ⟨⟩⟩ := x
    have hr := decL_lt y pos
    have e : IntKind.wrap IntKind.i64 (IntKind.wrap IntKind.i32 (((decL y pos).1 : Int) - 97)) = ((decL y pos).1 : Int) - 97 := by
      rw [show IntKind.wrap IntKind.i32 (((decL y pos).1 : Int) - 97) = ((decL y pos).1 : Int) - 97 from i32_id (by omega) (by omega)]
      exact i64_id (by omega) (by omega)
    refine ⟨?_, fun hn => ⟨trivial, np_mu hn⟩⟩
    simp only [Tree.holds, npStp]
    rw [e]
    refine ⟨fun h => ⟨h, fun h2 => ?_, fun h2 => ?_⟩, fun h => ?_⟩
    · rw [h, h2]; rfl
    · rw [h, h2]; rfl
    · rw [h]; rfl
theorem nparse_tree : (fun x : List UInt8 => evFn (mkC tys nparseG [(0, npD.spec)]) (fnOf Tryd.prog 119) (resL [.str] x) [.int .i64, .int .i64]) =
  (fun x =>
    Tree.br (x == [(46 : UInt8)]) (Tree.leaf ((0 : Int), (0 : Int)))
      (Tree.need True
        (Tree.br
          (isRet
            (runF npStp (npMu (((0 : Int), (0 : Int), (0 : Int), (96 : Int), PUnit.unit), (x, (0 : Nat)), PUnit.unit) + (1 : Nat))
                (((0 : Int), (0 : Int), (0 : Int), (96 : Int), PUnit.unit), (x, (0 : Nat)), PUnit.unit)).1)
          (Tree.leaf
            ((runF npStp (npMu (((0 : Int), (0 : Int), (0 : Int), (96 : Int), PUnit.unit), (x, (0 : Nat)), PUnit.unit) + (1 : Nat))
                      (((0 : Int), (0 : Int), (0 : Int), (96 : Int), PUnit.unit), (x, (0 : Nat)), PUnit.unit)).2.1.1,
              (runF npStp (npMu (((0 : Int), (0 : Int), (0 : Int), (96 : Int), PUnit.unit), (x, (0 : Nat)), PUnit.unit) + (1 : Nat))
                        (((0 : Int), (0 : Int), (0 : Int), (96 : Int), PUnit.unit), (x, (0 : Nat)), PUnit.unit)).2.1.2.1))
          (Tree.br
            ((runF npStp (npMu (((0 : Int), (0 : Int), (0 : Int), (96 : Int), PUnit.unit), (x, (0 : Nat)), PUnit.unit) + (1 : Nat))
                          (((0 : Int), (0 : Int), (0 : Int), (96 : Int), PUnit.unit), (x, (0 : Nat)), PUnit.unit)).2.1.2.2.1 ==
              (0 : Int))
            (Tree.leaf ((0 : Int), (3 : Int)))
            (Tree.leaf
              ((runF npStp (npMu (((0 : Int), (0 : Int), (0 : Int), (96 : Int), PUnit.unit), (x, (0 : Nat)), PUnit.unit) + (1 : Nat))
                            (((0 : Int), (0 : Int), (0 : Int), (96 : Int), PUnit.unit), (x, (0 : Nat)), PUnit.unit)).2.1.2.2.1,
                (0 : Int))))))) := by kernel_rfl
def nparseC : Ctr := { args := [.str], res := [.int .i64, .int .i64], pre := none, fn := fun (x : List UInt8) => nparseF x }
theorem nparse_ok : CtrOK Tryd.prog 119 nparseC :=
  fun_ok (G := nparseG) (Λ := [(0, npD.spec)]) tysOK nparseG_ok mixed (by kernel_rfl) (by kernel_rfl) (by kernel_rfl) (by kernel_rfl) (lp_cons nparse_loop lp_nil) fun (x : List UInt8) hw hp => by
    show (evFn (mkC tys nparseG [(0, npD.spec)]) (fnOf Tryd.prog 119) (resL [.str] x) [.int .i64, .int .i64]).holds (fun y => y = nparseF x)
    rw [congrFun nparse_tree x]
    have key := np_all x 0 0
    generalize runF npStp (npMu (((0 : Int), (0 : Int), (0 : Int), (96 : Int), PUnit.unit), (x, (0 : Nat)), PUnit.unit) + (1 : Nat)) (((0 : Int), (0 : Int), (0 : Int), (96 : Int), PUnit.unit), (x, (0 : Nat)), PUnit.unit) = r at key ⊢
    simp only [Tree.holds]
    refine ⟨fun h => ?_, fun h => ⟨trivial, fun h2 => ?_, fun h2 => ⟨fun h3 => ?_, fun h3 => ?_⟩⟩⟩
    all_goals (unfold nparseF; rw [h])
    · rfl
    · cases hg : npGo x 0 96 with
      | none => rw [hg] at key; rw [key.2.1, key.2.2]; rfl
      | some v => rw [hg] at key; rw [key.1] at h2; cases h2
    · cases hg : npGo x 0 96 with
      | none => rw [hg] at key; rw [key.1] at h2; cases h2
      | some v => rw [hg] at key; rw [key.2] at h3; simp only [cond_false]; rw [h3]; rfl
    · cases hg : npGo x 0 96 with
      | none => rw [hg] at key; rw [key.1] at h2; cases h2
      | some v => rw [hg] at key; rw [key.2] at h3 ⊢; simp only [cond_false]; rw [h3]; rfl
def rnparseG : List (Nat × Ctr) := [(101, rwithC)]
theorem rnparseG_ok : CtrsOK Tryd.prog (fun f => lk f rnparseG) := (ctrs_cons rwith_ok ctrs_nil)
theorem rnparse_round : (fun x : (Int × Int × Int × Int × Unit) × (List UInt8 × Nat) × Unit => roundOf (mkC tys rnparseG [(0, npD.spec)]) npD (loopB 0 (bodyOf (fnOf Tryd.prog 122))) x) =
  (fun x =>
    Tree.br (Nat.blt x.2.1.2 (List.length x.2.1.1))
      (Tree.need (Nat.blt x.2.1.2 (List.length x.2.1.1) = true)
        (Tree.br (bif decide ((↑(decL x.2.1.1 x.2.1.2).1 : Int) ≤ x.1.2.2.2.1) then true else decide ((↑(decL x.2.1.1 x.2.1.2).1 : Int) > (112 : Int)))
          (Tree.leaf (Ex.ret, some (((0 : Int), (3 : Int), x.1.2.2.1, x.1.2.2.2.1, ()), (x.2.1.1, decN x.2.1.1 x.2.1.2), ())))
          (Tree.leaf
            (Ex.normal,
              some
                ((x.1.1, x.1.2.1, withF x.1.2.2.1 (IntKind.wrap IntKind.i64 (IntKind.wrap IntKind.i32 ((↑(decL x.2.1.1 x.2.1.2).1 : Int) - (97 : Int)))), (↑(decL x.2.1.1 x.2.1.2).1 : Int), ()),
                  (x.2.1.1, decN x.2.1.1 x.2.1.2), ())))))
      (Tree.leaf (Ex.exit (0 : Nat), some ((x.1.1, x.1.2.1, x.1.2.2.1, x.1.2.2.2.1, ()), (x.2.1.1, decN x.2.1.1 x.2.1.2), ())))) := by kernel_rfl
theorem rnparse_loop : LoopOK (mkC tys rnparseG [(0, npD.spec)]) npD.spec (loopB 0 (bodyOf (fnOf Tryd.prog 122))) :=
  loopF2_ok (id := 0) (D := npD) (fun x => congrFun rnparse_round x) npStp npMu (fun _ => rfl) npStp_ends fun (x : (Int × Int × Int × Int × Unit) × (List UInt8 × Nat) × Unit) _ => by
    obtain ⟨⟨a, b, s, l, ⟨⟩⟩, ⟨y, pos⟩, ⟨⟩⟩ := x
    have hr := decL_lt y pos
    have e : IntKind.wrap IntKind.i64 (IntKind.wrap IntKind.i32 (((decL y pos).1 : Int) - 97)) = ((decL y pos).1 : Int) - 97 := by
      rw [show IntKind.wrap IntKind.i32 (((decL y pos).1 : Int) - 97) = ((decL y pos).1 : Int) - 97 from i32_id (by omega) (by omega)]
      exact i64_id (by omega) (by omega)
    refine ⟨?_, fun hn => ⟨trivial, np_mu hn⟩⟩
    simp only [Tree.holds, npStp]
    rw [e]
    refine ⟨fun h => ⟨h, fun h2 => ?_, fun h2 => ?_⟩, fun h => ?_⟩
    · rw [h, h2]; rfl
    · rw [h, h2]; rfl
    · rw [h]; rfl
theorem rnparse_tree : (fun x : List UInt8 => evFn (mkC tys rnparseG [(0, npD.spec)]) (fnOf Tryd.prog 122) (resL [.str] x) [.int .i64, .int .i64]) =
  (fun x =>
    Tree.br (x == [(46 : UInt8)]) (Tree.leaf ((0 : Int), (0 : Int)))
      (Tree.need True
        (Tree.br
          (isRet
            (runF npStp (npMu (((0 : Int), (0 : Int), (0 : Int), (96 : Int), PUnit.unit), (x, (0 : Nat)), PUnit.unit) + (1 : Nat))
                (((0 : Int), (0 : Int), (0 : Int), (96 : Int), PUnit.unit), (x, (0 : Nat)), PUnit.unit)).1)
          (Tree.leaf
            ((runF npStp (npMu (((0 : Int), (0 : Int), (0 : Int), (96 : Int), PUnit.unit), (x, (0 : Nat)), PUnit.unit) + (1 : Nat))
                      (((0 : Int), (0 : Int), (0 : Int), (96 : Int), PUnit.unit), (x, (0 : Nat)), PUnit.unit)).2.1.1,
              (runF npStp (npMu (((0 : Int), (0 : Int), (0 : Int), (96 : Int), PUnit.unit), (x, (0 : Nat)), PUnit.unit) + (1 : Nat))
                        (((0 : Int), (0 : Int), (0 : Int), (96 : Int), PUnit.unit), (x, (0 : Nat)), PUnit.unit)).2.1.2.1))
          (Tree.br
            ((runF npStp (npMu (((0 : Int), (0 : Int), (0 : Int), (96 : Int), PUnit.unit), (x, (0 : Nat)), PUnit.unit) + (1 : Nat))
                          (((0 : Int), (0 : Int), (0 : Int), (96 : Int), PUnit.unit), (x, (0 : Nat)), PUnit.unit)).2.1.2.2.1 ==
              (0 : Int))
            (Tree.leaf ((0 : Int), (3 : Int)))
            (Tree.leaf
              ((runF npStp (npMu (((0 : Int), (0 : Int), (0 : Int), (96 : Int), PUnit.unit), (x, (0 : Nat)), PUnit.unit) + (1 : Nat))
                            (((0 : Int), (0 : Int), (0 : Int), (96 : Int), PUnit.unit), (x, (0 : Nat)), PUnit.unit)).2.1.2.2.1,
                (0 : Int))))))) := by kernel_rfl
theorem rnparse_ok : CtrOK Tryd.prog 122 nparseC :=
  fun_ok (G := rnparseG) (Λ := [(0, npD.spec)]) tysOK rnparseG_ok mixed (by kernel_rfl) (by kernel_rfl) (by kernel_rfl) (by kernel_rfl) (lp_cons rnparse_loop lp_nil) fun (x : List UInt8) hw hp => by
    show (evFn (mkC tys rnparseG [(0, npD.spec)]) (fnOf Tryd.prog 122) (resL [.str] x) [.int .i64, .int .i64]).holds (fun y => y = nparseF x)
    rw [congrFun rnparse_tree x]
    have key := np_all x 0 0
    generalize runF npStp (npMu (((0 : Int), (0 : Int), (0 : Int), (96 : Int), PUnit.unit), (x, (0 : Nat)), PUnit.unit) + (1 : Nat)) (((0 : Int), (0 : Int), (0 : Int), (96 : Int), PUnit.unit), (x, (0 : Nat)), PUnit.unit) = r at key ⊢
    simp only [Tree.holds]
    refine ⟨fun h => ?_, fun h => ⟨trivial, fun h2 => ?_, fun h2 => ⟨fun h3 => ?_, fun h3 => ?_⟩⟩⟩
    all_goals (unfold nparseF; rw [h])
    · rfl
    · cases hg : npGo x 0 96 with
      | none => rw [hg] at key; rw [key.2.1, key.2.2]; rfl
      | some v => rw [hg] at key; rw [key.1] at h2; cases h2
    · cases hg : npGo x 0 96 with
      | none => rw [hg] at key; rw [key.1] at h2; cases h2
      | some v => rw [hg] at key; rw [key.2] at h3; simp only [cond_false]; rw [h3]; rfl
    · cases hg : npGo x 0 96 with
      | none => rw [hg] at key; rw [key.1] at h2; cases h2
      | some v => rw [hg] at key; rw [key.2] at h3 ⊢; simp only [cond_false]; rw [h3]; rfl
def rcountC : Ctr := { args := [.int .i64], res := [.int .i64], pre := none, fn := fun (x : Int) => ((elemsF x 16).length : Int) }
def rcountG : List (Nat × Ctr) := [(105, rlistC)]
theorem rcount_tree : (fun x : Int => evFn (mkC tys rcountG []) (fnOf Tryd.prog 123) (resL rcountC.args x) rcountC.res) =
  (fun x => Tree.leaf (↑(List.length (elemsF x (16 : Nat))) : Int)) := by kernel_rfl
theorem rcount_ok : CtrOK Tryd.prog 123 rcountC :=
  fun_ok (G := rcountG) (Λ := []) tysOK (ctrs_cons rlist_ok ctrs_nil) mixed (by kernel_rfl) (by kernel_rfl) (by kernel_rfl) (by kernel_rfl) lp_nil fun (x : Int) hw _ => by
    rw [congrFun rcount_tree x]
    exact holds_val (d := rcountC.fn x) (by kernel_rfl) (by simp [Tree.safe])
end Go.Ev.D
/- How many are in a set: the library's sums. -/
set_option linter.unusedVariables false
set_option linter.unusedSimpArgs false
namespace Go.Ev
def pA (m : Nat) : Nat := ((m / 2) &&& 6148914691236517205) + (m &&& 6148914691236517205)
def pB (m : Nat) : Nat := ((m / 4) &&& 3689348814741910323) + (m &&& 3689348814741910323)
def pC (m : Nat) : Nat := (m / 16 + m) &&& 1085102592571150095
def pD (m : Nat) : Nat := m + m / 256
def pE (m : Nat) : Nat := m + m / 65536
def pF (m : Nat) : Nat := m + m / 4294967296
def pcN (m : Nat) : Nat := pF (pE (pD (pC (pB (pA m))))) &&& 127
def cntN (m : Nat) : Nat → Nat
  | 0 => 0
  | k + 1 => (m / 2 ^ (15 - k)) % 2 + cntN m k
def allN (p : Nat → Bool) : Nat → Bool
  | 0 => true
  | k + 1 => bif p k then allN p k else false
theorem allN_all {p : Nat → Bool} : ∀ k, allN p k = true → ∀ i, i < k → p i = true
  | 0, _, i, hi => by omega
  | k + 1, h, i, hi => by
    unfold allN at h
    cases hk : p k with
    | false => rw [hk] at h; cases h
    | true =>
      rw [hk] at h
      by_cases he : i = k
      · rw [he]; exact hk
      · exact allN_all k h i (by omega)
def pcRow (o p : Nat) : Bool := allN (fun q => Nat.beq (pcN (256 * (o + p) + q)) (cntN (256 * (o + p) + q) 16)) 256
theorem pc_rows0 : allN (pcRow 0) 16 = true := by decide +kernel
theorem pc_rows1 : allN (pcRow 16) 16 = true := by decide +kernel
theorem pc_rows2 : allN (pcRow 32) 16 = true := by decide +kernel
theorem pc_rows3 : allN (pcRow 48) 16 = true := by decide +kernel
theorem pc_rows4 : allN (pcRow 64) 16 = true := by decide +kernel
theorem pc_rows5 : allN (pcRow 80) 16 = true := by decide +kernel
theorem pc_rows6 : allN (pcRow 96) 16 = true := by decide +kernel
theorem pc_rows7 : allN (pcRow 112) 16 = true := by decide +kernel
theorem pc_rows8 : allN (pcRow 128) 16 = true := by decide +kernel
theorem pc_rows9 : allN (pcRow 144) 16 = true := by decide +kernel
theorem pc_rows10 : allN (pcRow 160) 16 = true := by decide +kernel
theorem pc_rows11 : allN (pcRow 176) 16 = true := by decide +kernel
theorem pc_rows12 : allN (pcRow 192) 16 = true := by decide +kernel
theorem pc_rows13 : allN (pcRow 208) 16 = true := by decide +kernel
theorem pc_rows14 : allN (pcRow 224) 16 = true := by decide +kernel
theorem pc_rows15 : allN (pcRow 240) 16 = true := by decide +kernel
theorem pc_row {p : Nat} (hp : p < 256) : ∃ o i, i < 16 ∧ p = o + i ∧ allN (pcRow o) 16 = true := by
  have : p / 16 < 16 := by omega
  refine ⟨16 * (p / 16), p % 16, by omega, by omega, ?_⟩
  generalize p / 16 = d at this
  rcases (show d = 0 ∨ d = 1 ∨ d = 2 ∨ d = 3 ∨ d = 4 ∨ d = 5 ∨ d = 6 ∨ d = 7 ∨ d = 8 ∨ d = 9 ∨ d = 10 ∨ d = 11 ∨ d = 12 ∨ d = 13 ∨ d = 14 ∨ d = 15 by omega) with rfl | rfl | rfl | rfl | rfl | rfl | rfl | rfl | rfl | rfl | rfl | rfl | rfl | rfl | rfl | rfl
  · exact pc_rows0
  · exact pc_rows1
  · exact pc_rows2
  · exact pc_rows3
  · exact pc_rows4
  · exact pc_rows5
  · exact pc_rows6
  · exact pc_rows7
  · exact pc_rows8
  · exact pc_rows9
  · exact pc_rows10
  · exact pc_rows11
  · exact pc_rows12
  · exact pc_rows13
  · exact pc_rows14
  · exact pc_rows15
theorem pc_all {m : Nat} (hm : m < 65536) : pcN m = cntN m 16 := by
  obtain ⟨o, i, hi, he, h⟩ := pc_row (p := m / 256) (by omega)
  have h1 := allN_all 256 (allN_all 16 h i hi) (m % 256) (by omega)
  have h2 := Nat.eq_of_beq_eq_true h1
  rw [← he] at h2
  rwa [show 256 * (m / 256) + m % 256 = m by omega] at h2
theorem elems_cnt {m : Nat} : ∀ k, k ≤ 16 → ((elemsF (m : Int) k).length : Int) = cntN m k
  | 0, _ => rfl
  | k + 1, hk => by
    have hn : (16 : Int) - (k + 1 : Nat) = ((15 - k : Nat) : Int) := by omega
    unfold elemsF cntN
    rw [List.length_append, hn, has_nat (by omega)]
    have := elems_cnt (m := m) k (by omega)
    have hb : m.testBit (15 - k) = decide (m / 2 ^ (15 - k) % 2 = 1) := Nat.testBit_eq_decide_div_mod_eq
    rw [hb]
    have h2 : m / 2 ^ (15 - k) % 2 = 0 ∨ m / 2 ^ (15 - k) % 2 = 1 := by omega
    rcases h2 with h2 | h2 <;> rw [h2]
    · rw [decide_eq_false (by decide)]; simp only [cond_false, List.length_nil]; omega
    · rw [decide_eq_true rfl]; simp only [cond_true, List.length_cons, List.length_nil]; omega
end Go.Ev
/- The library's sums, in the code's own numbers. -/
set_option linter.unusedVariables false
set_option linter.unusedSimpArgs false
namespace Go.Ev
/-! The sums, as the library's code forms them -/
def iA (x : Int) : Int := IntKind.wrap IntKind.u64 (bitsOp BinOp.and IntKind.u64 (Int.fdiv x (2 : Int)) (6148914691236517205 : Int) + bitsOp BinOp.and IntKind.u64 x (6148914691236517205 : Int))
def iB (x : Int) : Int := IntKind.wrap IntKind.u64 (bitsOp BinOp.and IntKind.u64 (Int.fdiv x (4 : Int)) (3689348814741910323 : Int) + bitsOp BinOp.and IntKind.u64 x (3689348814741910323 : Int))
def iC (x : Int) : Int := bitsOp BinOp.and IntKind.u64 (IntKind.wrap IntKind.u64 (Int.fdiv x (16 : Int) + x)) (1085102592571150095 : Int)
def iD (x : Int) : Int := IntKind.wrap IntKind.u64 (x + Int.fdiv x (256 : Int))
def iE (x : Int) : Int := IntKind.wrap IntKind.u64 (x + Int.fdiv x (65536 : Int))
def iF (x : Int) : Int := IntKind.wrap IntKind.u64 (x + Int.fdiv x (4294967296 : Int))
def onesI (x : Int) : Int := bitsOp BinOp.and IntKind.i64 (IntKind.wrap IntKind.i64 (iF (iE (iD (iC (iB (iA x))))))) (127 : Int)
theorem fdiv_nat (m k : Nat) : Int.fdiv (m : Int) (k : Int) = ((m / k : Nat) : Int) := by
  rw [Int.fdiv_eq_ediv_of_nonneg _ (by omega)]
  exact (Int.natCast_ediv m k).symm
theorem and_u64 {m k : Nat} (hm : m < 18446744073709551616) (hk : k < 18446744073709551616) : bitsOp BinOp.and IntKind.u64 (m : Int) (k : Int) = ((m &&& k : Nat) : Int) := by
  have h := Nat.and_le_left (n := m) (m := k)
  rw [and_nat (k := .u64) (by omega) (by show (m : Int) < 18446744073709551616; omega) (by omega) (by show (k : Int) < 18446744073709551616; omega)]
  · rw [Int.toNat_natCast, Int.toNat_natCast]
  · rw [Int.toNat_natCast, Int.toNat_natCast]
    exact (has_u64 _).2 ⟨by omega, by omega⟩
theorem wrap64_nat {m : Nat} (hm : m < 18446744073709551616) : IntKind.wrap IntKind.u64 (m : Int) = (m : Int) := u64_id (by omega) (by omega)

theorem iA_nat {m : Nat} (hm : m < 65536) : iA (m : Int) = (pA m : Int) ∧ pA m < 98304 := by
  have h1 := Nat.and_le_left (n := m / 2) (m := 6148914691236517205)
  have h2 := Nat.and_le_left (n := m) (m := 6148914691236517205)
  have hb : pA m < 98304 := by unfold pA; omega
  refine ⟨?_, hb⟩
  unfold iA
  rw [show (2 : Int) = ((2 : Nat) : Int) from rfl, fdiv_nat, show (6148914691236517205 : Int) = ((6148914691236517205 : Nat) : Int) from rfl, and_u64 (by omega) (by omega), and_u64 (by omega) (by omega), ← Int.natCast_add]
  exact wrap64_nat (by show pA m < _; omega)
theorem iB_nat {m : Nat} (hm : m < 98304) : iB (m : Int) = (pB m : Int) ∧ pB m < 131072 := by
  have h1 := Nat.and_le_left (n := m / 4) (m := 3689348814741910323)
  have h2 := Nat.and_le_left (n := m) (m := 3689348814741910323)
  have hb : pB m < 131072 := by unfold pB; omega
  refine ⟨?_, hb⟩
  unfold iB
  rw [show (4 : Int) = ((4 : Nat) : Int) from rfl, fdiv_nat, show (3689348814741910323 : Int) = ((3689348814741910323 : Nat) : Int) from rfl, and_u64 (by omega) (by omega), and_u64 (by omega) (by omega), ← Int.natCast_add]
  exact wrap64_nat (by show pB m < _; omega)
theorem iC_nat {m : Nat} (hm : m < 131072) : iC (m : Int) = (pC m : Int) ∧ pC m < 262144 := by
  have h1 := Nat.and_le_left (n := m / 16 + m) (m := 1085102592571150095)
  have hb : pC m < 262144 := by unfold pC; omega
  refine ⟨?_, hb⟩
  unfold iC
  rw [show (16 : Int) = ((16 : Nat) : Int) from rfl, fdiv_nat, ← Int.natCast_add, wrap64_nat (by omega), show (1085102592571150095 : Int) = ((1085102592571150095 : Nat) : Int) from rfl, and_u64 (by omega) (by omega)]
  rfl
theorem iD_nat {m : Nat} (hm : m < 262144) : iD (m : Int) = (pD m : Int) ∧ pD m < 524288 := by
  have hb : pD m < 524288 := by unfold pD; omega
  refine ⟨?_, hb⟩
  unfold iD
  rw [show (256 : Int) = ((256 : Nat) : Int) from rfl, fdiv_nat, ← Int.natCast_add]
  exact wrap64_nat (by show pD m < _; omega)
theorem iE_nat {m : Nat} (hm : m < 524288) : iE (m : Int) = (pE m : Int) ∧ pE m < 1048576 := by
  have hb : pE m < 1048576 := by unfold pE; omega
  refine ⟨?_, hb⟩
  unfold iE
  rw [show (65536 : Int) = ((65536 : Nat) : Int) from rfl, fdiv_nat, ← Int.natCast_add]
  exact wrap64_nat (by show pE m < _; omega)
theorem iF_nat {m : Nat} (hm : m < 1048576) : iF (m : Int) = (pF m : Int) ∧ pF m < 2097152 := by
  have hb : pF m < 2097152 := by unfold pF; omega
  refine ⟨?_, hb⟩
  unfold iF
  rw [show (4294967296 : Int) = ((4294967296 : Nat) : Int) from rfl, fdiv_nat, ← Int.natCast_add]
  exact wrap64_nat (by show pF m < _; omega)
theorem ones_nat {m : Nat} (hm : m < 65536) : onesI (m : Int) = (pcN m : Int) := by
  obtain ⟨a1, a2⟩ := iA_nat hm
  obtain ⟨b1, b2⟩ := iB_nat a2
  obtain ⟨c1, c2⟩ := iC_nat b2
  obtain ⟨d1, d2⟩ := iD_nat c2
  obtain ⟨e1, e2⟩ := iE_nat d2
  obtain ⟨f1, f2⟩ := iF_nat e2
  unfold onesI pcN
  rw [a1, b1, c1, d1, e1, f1]
  generalize pF (pE (pD (pC (pB (pA m))))) = k at f2
  rw [show IntKind.wrap IntKind.i64 (k : Int) = (k : Int) from i64_id (by omega) (by omega), show (127 : Int) = ((127 : Nat) : Int) from rfl]
  have h := Nat.and_le_left (n := k) (m := 127)
  rw [and_nat (k := .i64) (by omega) (by show (k : Int) < 18446744073709551616; omega) (by omega) (by decide), Int.toNat_natCast, Int.toNat_natCast]
  rw [Int.toNat_natCast, Int.toNat_natCast]
  exact (has_i64 _).2 ⟨by omega, by omega⟩
/-- What the sums come to: how many are in the set. -/
theorem ones_len {x : Int} (h0 : 0 ≤ x) (h1 : x < 65536) : onesI x = ((elemsF x 16).length : Int) := by
  obtain ⟨m, rfl⟩ : ∃ m : Nat, x = (m : Int) := ⟨x.toNat, by omega⟩
  rw [ones_nat (by omega), pc_all (by omega)]
  exact (elems_cnt 16 (Nat.le_refl _)).symm
/-- The low sixteen letters alone. -/
theorem and_lowI {x : Int} (h0 : 0 ≤ x) (h1 : x < 65536) : bitsOp BinOp.and IntKind.i64 x (65535 : Int) = x := by
  have := and_low (s := x) 16 (by decide)
  have h2 : bitsOp BinOp.and IntKind.i64 x (65535 : Int) = x % ((2 ^ 16 : Nat) : Int) := this
  rw [h2]
  have h3 : ((2 ^ 16 : Nat) : Int) = 65536 := by decide
  rw [h3]
  omega
end Go.Ev
/- How many are in a set: the library's way. -/
set_option linter.unusedVariables false
set_option linter.unusedSimpArgs false
namespace Go.Ev.D
open Go.Proofs
def lowPre (x : Int) : Prop := 0 ≤ x ∧ x < 65536
def ones64C : Ctr := { args := [.int .u64], res := [.int .i64], pre := some lowPre, fn := fun (x : Int) => ((elemsF x 16).length : Int) }
theorem ones64_tree : (fun x : Int => evFn (mkC tys [] []) (fnOf Tryd.prog 156) (resL [.int .u64] x) [.int .i64]) =
  (fun x =>
    Tree.leaf
      (bitsOp BinOp.and IntKind.i64
        (IntKind.wrap IntKind.i64
          (IntKind.wrap IntKind.u64
            (IntKind.wrap IntKind.u64
                (IntKind.wrap IntKind.u64
                    (bitsOp BinOp.and IntKind.u64
                        (IntKind.wrap IntKind.u64
                          (Int.fdiv
                              (IntKind.wrap IntKind.u64
                                (bitsOp BinOp.and IntKind.u64
                                    (Int.fdiv
                                      (IntKind.wrap IntKind.u64
                                        (bitsOp BinOp.and IntKind.u64 (Int.fdiv x (2 : Int)) (6148914691236517205 : Int) + bitsOp BinOp.and IntKind.u64 x (6148914691236517205 : Int)))
                                      (4 : Int))
                                    (3689348814741910323 : Int) +
                                  bitsOp BinOp.and IntKind.u64
                                    (IntKind.wrap IntKind.u64
                                      (bitsOp BinOp.and IntKind.u64 (Int.fdiv x (2 : Int)) (6148914691236517205 : Int) + bitsOp BinOp.and IntKind.u64 x (6148914691236517205 : Int)))
                                    (3689348814741910323 : Int)))
                              (16 : Int) +
                            IntKind.wrap IntKind.u64
                              (bitsOp BinOp.and IntKind.u64
                                  (Int.fdiv
                                    (IntKind.wrap IntKind.u64
                                      (bitsOp BinOp.and IntKind.u64 (Int.fdiv x (2 : Int)) (6148914691236517205 : Int) + bitsOp BinOp.and IntKind.u64 x (6148914691236517205 : Int)))
                                    (4 : Int))
                                  (3689348814741910323 : Int) +
                                bitsOp BinOp.and IntKind.u64
                                  (IntKind.wrap IntKind.u64
                                    (bitsOp BinOp.and IntKind.u64 (Int.fdiv x (2 : Int)) (6148914691236517205 : Int) + bitsOp BinOp.and IntKind.u64 x (6148914691236517205 : Int)))
                                  (3689348814741910323 : Int))))
                        (1085102592571150095 : Int) +
                      Int.fdiv
                        (bitsOp BinOp.and IntKind.u64
                          (IntKind.wrap IntKind.u64
                            (Int.fdiv
                                (IntKind.wrap IntKind.u64
                                  (bitsOp BinOp.and IntKind.u64
                                      (Int.fdiv
                                        (IntKind.wrap IntKind.u64
                                          (bitsOp BinOp.and IntKind.u64 (Int.fdiv x (2 : Int)) (6148914691236517205 : Int) + bitsOp BinOp.and IntKind.u64 x (6148914691236517205 : Int)))
                                        (4 : Int))
                                      (3689348814741910323 : Int) +
                                    bitsOp BinOp.and IntKind.u64
                                      (IntKind.wrap IntKind.u64
                                        (bitsOp BinOp.and IntKind.u64 (Int.fdiv x (2 : Int)) (6148914691236517205 : Int) + bitsOp BinOp.and IntKind.u64 x (6148914691236517205 : Int)))
                                      (3689348814741910323 : Int)))
                                (16 : Int) +
                              IntKind.wrap IntKind.u64
                                (bitsOp BinOp.and IntKind.u64
                                    (Int.fdiv
                                      (IntKind.wrap IntKind.u64
                                        (bitsOp BinOp.and IntKind.u64 (Int.fdiv x (2 : Int)) (6148914691236517205 : Int) + bitsOp BinOp.and IntKind.u64 x (6148914691236517205 : Int)))
                                      (4 : Int))
                                    (3689348814741910323 : Int) +
                                  bitsOp BinOp.and IntKind.u64
                                    (IntKind.wrap IntKind.u64
                                      (bitsOp BinOp.and IntKind.u64 (Int.fdiv x (2 : Int)) (6148914691236517205 : Int) + bitsOp BinOp.and IntKind.u64 x (6148914691236517205 : Int)))
                                    (3689348814741910323 : Int))))
                          (1085102592571150095 : Int))
                        (256 : Int)) +
                  Int.fdiv
                    (IntKind.wrap IntKind.u64
                      (bitsOp BinOp.and IntKind.u64
                          (IntKind.wrap IntKind.u64
                            (Int.fdiv
                                (IntKind.wrap IntKind.u64
                                  (bitsOp BinOp.and IntKind.u64
                                      (Int.fdiv
                                        (IntKind.wrap IntKind.u64
                                          (bitsOp BinOp.and IntKind.u64 (Int.fdiv x (2 : Int)) (6148914691236517205 : Int) + bitsOp BinOp.and IntKind.u64 x (6148914691236517205 : Int)))
                                        (4 : Int))
                                      (3689348814741910323 : Int) +
                                    bitsOp BinOp.and IntKind.u64
                                      (IntKind.wrap IntKind.u64
                                        (bitsOp BinOp.and IntKind.u64 (Int.fdiv x (2 : Int)) (6148914691236517205 : Int) + bitsOp BinOp.and IntKind.u64 x (6148914691236517205 : Int)))
                                      (3689348814741910323 : Int)))
                                (16 : Int) +
                              IntKind.wrap IntKind.u64
                                (bitsOp BinOp.and IntKind.u64
                                    (Int.fdiv
                                      (IntKind.wrap IntKind.u64
                                        (bitsOp BinOp.and IntKind.u64 (Int.fdiv x (2 : Int)) (6148914691236517205 : Int) + bitsOp BinOp.and IntKind.u64 x (6148914691236517205 : Int)))
                                      (4 : Int))
                                    (3689348814741910323 : Int) +
                                  bitsOp BinOp.and IntKind.u64
                                    (IntKind.wrap IntKind.u64
                                      (bitsOp BinOp.and IntKind.u64 (Int.fdiv x (2 : Int)) (6148914691236517205 : Int) + bitsOp BinOp.and IntKind.u64 x (6148914691236517205 : Int)))
                                    (3689348814741910323 : Int))))
                          (1085102592571150095 : Int) +
                        Int.fdiv
                          (bitsOp BinOp.and IntKind.u64
                            (IntKind.wrap IntKind.u64
                              (Int.fdiv
                                  (IntKind.wrap IntKind.u64
                                    (bitsOp BinOp.and IntKind.u64
                                        (Int.fdiv
                                          (IntKind.wrap IntKind.u64
                                            (bitsOp BinOp.and IntKind.u64 (Int.fdiv x (2 : Int)) (6148914691236517205 : Int) + bitsOp BinOp.and IntKind.u64 x (6148914691236517205 : Int)))
                                          (4 : Int))
                                        (3689348814741910323 : Int) +
                                      bitsOp BinOp.and IntKind.u64
                                        (IntKind.wrap IntKind.u64
                                          (bitsOp BinOp.and IntKind.u64 (Int.fdiv x (2 : Int)) (6148914691236517205 : Int) + bitsOp BinOp.and IntKind.u64 x (6148914691236517205 : Int)))
                                        (3689348814741910323 : Int)))
                                  (16 : Int) +
                                IntKind.wrap IntKind.u64
                                  (bitsOp BinOp.and IntKind.u64
                                      (Int.fdiv
                                        (IntKind.wrap IntKind.u64
                                          (bitsOp BinOp.and IntKind.u64 (Int.fdiv x (2 : Int)) (6148914691236517205 : Int) + bitsOp BinOp.and IntKind.u64 x (6148914691236517205 : Int)))
                                        (4 : Int))
                                      (3689348814741910323 : Int) +
                                    bitsOp BinOp.and IntKind.u64
                                      (IntKind.wrap IntKind.u64
                                        (bitsOp BinOp.and IntKind.u64 (Int.fdiv x (2 : Int)) (6148914691236517205 : Int) + bitsOp BinOp.and IntKind.u64 x (6148914691236517205 : Int)))
                                      (3689348814741910323 : Int))))
                            (1085102592571150095 : Int))
                          (256 : Int)))
                    (65536 : Int)) +
              Int.fdiv
                (IntKind.wrap IntKind.u64
                  (IntKind.wrap IntKind.u64
                      (bitsOp BinOp.and IntKind.u64
                          (IntKind.wrap IntKind.u64
                            (Int.fdiv
                                (IntKind.wrap IntKind.u64
                                  (bitsOp BinOp.and IntKind.u64
                                      (Int.fdiv
                                        (IntKind.wrap IntKind.u64
                                          (bitsOp BinOp.and IntKind.u64 (Int.fdiv x (2 : Int)) (6148914691236517205 : Int) + bitsOp BinOp.and IntKind.u64 x (6148914691236517205 : Int)))
                                        (4 : Int))
                                      (3689348814741910323 : Int) +
                                    bitsOp BinOp.and IntKind.u64
                                      (IntKind.wrap IntKind.u64
                                        (bitsOp BinOp.and IntKind.u64 (Int.fdiv x (2 : Int)) (6148914691236517205 : Int) + bitsOp BinOp.and IntKind.u64 x (6148914691236517205 : Int)))
                                      (3689348814741910323 : Int)))
                                (16 : Int) +
                              IntKind.wrap IntKind.u64
                                (bitsOp BinOp.and IntKind.u64
                                    (Int.fdiv
                                      (IntKind.wrap IntKind.u64
                                        (bitsOp BinOp.and IntKind.u64 (Int.fdiv x (2 : Int)) (6148914691236517205 : Int) + bitsOp BinOp.and IntKind.u64 x (6148914691236517205 : Int)))
                                      (4 : Int))
                                    (3689348814741910323 : Int) +
                                  bitsOp BinOp.and IntKind.u64
                                    (IntKind.wrap IntKind.u64
                                      (bitsOp BinOp.and IntKind.u64 (Int.fdiv x (2 : Int)) (6148914691236517205 : Int) + bitsOp BinOp.and IntKind.u64 x (6148914691236517205 : Int)))
                                    (3689348814741910323 : Int))))
                          (1085102592571150095 : Int) +
                        Int.fdiv
                          (bitsOp BinOp.and IntKind.u64
                            (IntKind.wrap IntKind.u64
                              (Int.fdiv
                                  (IntKind.wrap IntKind.u64
                                    (bitsOp BinOp.and IntKind.u64
                                        (Int.fdiv
                                          (IntKind.wrap IntKind.u64
                                            (bitsOp BinOp.and IntKind.u64 (Int.fdiv x (2 : Int)) (6148914691236517205 : Int) + bitsOp BinOp.and IntKind.u64 x (6148914691236517205 : Int)))
                                          (4 : Int))
                                        (3689348814741910323 : Int) +
                                      bitsOp BinOp.and IntKind.u64
                                        (IntKind.wrap IntKind.u64
                                          (bitsOp BinOp.and IntKind.u64 (Int.fdiv x (2 : Int)) (6148914691236517205 : Int) + bitsOp BinOp.and IntKind.u64 x (6148914691236517205 : Int)))
                                        (3689348814741910323 : Int)))
                                  (16 : Int) +
                                IntKind.wrap IntKind.u64
                                  (bitsOp BinOp.and IntKind.u64
                                      (Int.fdiv
                                        (IntKind.wrap IntKind.u64
                                          (bitsOp BinOp.and IntKind.u64 (Int.fdiv x (2 : Int)) (6148914691236517205 : Int) + bitsOp BinOp.and IntKind.u64 x (6148914691236517205 : Int)))
                                        (4 : Int))
                                      (3689348814741910323 : Int) +
                                    bitsOp BinOp.and IntKind.u64
                                      (IntKind.wrap IntKind.u64
                                        (bitsOp BinOp.and IntKind.u64 (Int.fdiv x (2 : Int)) (6148914691236517205 : Int) + bitsOp BinOp.and IntKind.u64 x (6148914691236517205 : Int)))
                                      (3689348814741910323 : Int))))
                            (1085102592571150095 : Int))
                          (256 : Int)) +
                    Int.fdiv
                      (IntKind.wrap IntKind.u64
                        (bitsOp BinOp.and IntKind.u64
                            (IntKind.wrap IntKind.u64
                              (Int.fdiv
                                  (IntKind.wrap IntKind.u64
                                    (bitsOp BinOp.and IntKind.u64
                                        (Int.fdiv
                                          (IntKind.wrap IntKind.u64
                                            (bitsOp BinOp.and IntKind.u64 (Int.fdiv x (2 : Int)) (6148914691236517205 : Int) + bitsOp BinOp.and IntKind.u64 x (6148914691236517205 : Int)))
                                          (4 : Int))
                                        (3689348814741910323 : Int) +
                                      bitsOp BinOp.and IntKind.u64
                                        (IntKind.wrap IntKind.u64
                                          (bitsOp BinOp.and IntKind.u64 (Int.fdiv x (2 : Int)) (6148914691236517205 : Int) + bitsOp BinOp.and IntKind.u64 x (6148914691236517205 : Int)))
                                        (3689348814741910323 : Int)))
                                  (16 : Int) +
                                IntKind.wrap IntKind.u64
                                  (bitsOp BinOp.and IntKind.u64
                                      (Int.fdiv
                                        (IntKind.wrap IntKind.u64
                                          (bitsOp BinOp.and IntKind.u64 (Int.fdiv x (2 : Int)) (6148914691236517205 : Int) + bitsOp BinOp.and IntKind.u64 x (6148914691236517205 : Int)))
                                        (4 : Int))
                                      (3689348814741910323 : Int) +
                                    bitsOp BinOp.and IntKind.u64
                                      (IntKind.wrap IntKind.u64
                                        (bitsOp BinOp.and IntKind.u64 (Int.fdiv x (2 : Int)) (6148914691236517205 : Int) + bitsOp BinOp.and IntKind.u64 x (6148914691236517205 : Int)))
                                      (3689348814741910323 : Int))))
                            (1085102592571150095 : Int) +
                          Int.fdiv
                            (bitsOp BinOp.and IntKind.u64
                              (IntKind.wrap IntKind.u64
                                (Int.fdiv
                                    (IntKind.wrap IntKind.u64
                                      (bitsOp BinOp.and IntKind.u64
                                          (Int.fdiv
                                            (IntKind.wrap IntKind.u64
                                              (bitsOp BinOp.and IntKind.u64 (Int.fdiv x (2 : Int)) (6148914691236517205 : Int) + bitsOp BinOp.and IntKind.u64 x (6148914691236517205 : Int)))
                                            (4 : Int))
                                          (3689348814741910323 : Int) +
                                        bitsOp BinOp.and IntKind.u64
                                          (IntKind.wrap IntKind.u64
                                            (bitsOp BinOp.and IntKind.u64 (Int.fdiv x (2 : Int)) (6148914691236517205 : Int) + bitsOp BinOp.and IntKind.u64 x (6148914691236517205 : Int)))
                                          (3689348814741910323 : Int)))
                                    (16 : Int) +
                                  IntKind.wrap IntKind.u64
                                    (bitsOp BinOp.and IntKind.u64
                                        (Int.fdiv
                                          (IntKind.wrap IntKind.u64
                                            (bitsOp BinOp.and IntKind.u64 (Int.fdiv x (2 : Int)) (6148914691236517205 : Int) + bitsOp BinOp.and IntKind.u64 x (6148914691236517205 : Int)))
                                          (4 : Int))
                                        (3689348814741910323 : Int) +
                                      bitsOp BinOp.and IntKind.u64
                                        (IntKind.wrap IntKind.u64
                                          (bitsOp BinOp.and IntKind.u64 (Int.fdiv x (2 : Int)) (6148914691236517205 : Int) + bitsOp BinOp.and IntKind.u64 x (6148914691236517205 : Int)))
                                        (3689348814741910323 : Int))))
                              (1085102592571150095 : Int))
                            (256 : Int)))
                      (65536 : Int)))
                (4294967296 : Int))))
        (127 : Int))) := by kernel_rfl
theorem ones64_ok : CtrOK Tryd.prog 156 ones64C :=
  fun_ok (G := []) (Λ := []) tysOK ctrs_nil mixed (by kernel_rfl) (by kernel_rfl) (by kernel_rfl) (by kernel_rfl) lp_nil fun (x : Int) hw hp => by
    have hx : lowPre x := hp lowPre rfl
    show (evFn (mkC tys [] []) (fnOf Tryd.prog 156) (resL [.int .u64] x) [.int .i64]).holds (fun y => y = ((elemsF x 16).length : Int))
    rw [congrFun ones64_tree x]
    exact ones_len hx.1 hx.2
def ones0C : Ctr := { args := [.int .u64], res := [.int .i64], pre := some lowPre, fn := fun (x : Int) => ((elemsF x 16).length : Int) }
def onesG : List (Nat × Ctr) := [(156, ones64C)]
theorem ones0_tree : (fun x : Int => evFn (mkC tys onesG []) (fnOf Tryd.prog 136) (resL [.int .u64] x) [.int .i64]) =
  (fun x => Tree.br false Tree.stuck (Tree.need (lowPre x) (Tree.leaf (↑(List.length (elemsF x (16 : Nat))) : Int)))) := by kernel_rfl
theorem ones0_ok : CtrOK Tryd.prog 136 ones0C :=
  fun_ok (G := onesG) (Λ := []) tysOK (ctrs_cons ones64_ok ctrs_nil) mixed (by kernel_rfl) (by kernel_rfl) (by kernel_rfl) (by kernel_rfl) lp_nil fun (x : Int) hw hp => by
    have hx : lowPre x := hp lowPre rfl
    show (evFn (mkC tys onesG []) (fnOf Tryd.prog 136) (resL [.int .u64] x) [.int .i64]).holds (fun y => y = ((elemsF x 16).length : Int))
    rw [congrFun ones0_tree x]
    simp only [Tree.holds]
    simp [hx]
def ncountC : Ctr := { args := [.int .i64], res := [.int .i64], pre := some lowPre, fn := fun (x : Int) => ((elemsF x 16).length : Int) }
def ncountG : List (Nat × Ctr) := [(136, ones0C)]
theorem ncount_tree : (fun x : Int => evFn (mkC tys ncountG []) (fnOf Tryd.prog 87) (resL [.int .i64] x) [.int .i64]) =
  (fun x =>
    Tree.need (lowPre (IntKind.wrap IntKind.u64 (bitsOp BinOp.and IntKind.i64 x (65535 : Int))))
      (Tree.leaf (↑(List.length (elemsF (IntKind.wrap IntKind.u64 (bitsOp BinOp.and IntKind.i64 x (65535 : Int))) (16 : Nat))) : Int))) := by kernel_rfl
theorem ncount_ok : CtrOK Tryd.prog 87 ncountC :=
  fun_ok (G := ncountG) (Λ := []) tysOK (ctrs_cons ones0_ok ctrs_nil) mixed (by kernel_rfl) (by kernel_rfl) (by kernel_rfl) (by kernel_rfl) lp_nil fun (x : Int) hw hp => by
    have hx : lowPre x := hp lowPre rfl
    show (evFn (mkC tys ncountG []) (fnOf Tryd.prog 87) (resL [.int .i64] x) [.int .i64]).holds (fun y => y = ((elemsF x 16).length : Int))
    rw [congrFun ncount_tree x]
    have e1 := and_lowI hx.1 hx.2
    have e2 : IntKind.wrap IntKind.u64 x = x := u64_id hx.1 (by have := hx.2; omega)
    simp only [Tree.holds]
    rw [e1, e2]
    exact ⟨hx, rfl⟩
end Go.Ev.D
