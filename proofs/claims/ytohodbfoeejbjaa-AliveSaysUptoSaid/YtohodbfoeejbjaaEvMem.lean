/- What the machine does to memory, told of boxes. -/
import Derived.Test.YtohodbfoeejbjaaEvRel
set_option linter.unusedVariables false
namespace Go.Ev

theorem RelB.move {R : Ref} {w w' : World} {S S' : Stab} {v : Value} {B : Box} (h : RelB R w S v B) (hk : Keeps S S' w w') (hb : ∀ blk, blkOf v = some blk → w'.heap[blk]? = w.heap[blk]?)
    (hs : ∀ blk o, blkOf v = some blk → S' blk o → S blk o) : RelB R w' S' v B := by
  cases B with
  | var g x =>
    obtain ⟨blk, cs, e, rfl, h2, h3, h4, h5⟩ := h
    exact ⟨blk, cs, e, rfl, by rw [hb blk rfl]; exact h2, h3.keeps hk, fun o ho => h4 o (hs blk o rfl ho), h5⟩
  | row e g xs fz =>
    obtain ⟨cs, h1, h2, h3, h4, h5, h6⟩ := h
    refine ⟨cs, ?_, encL_mono (fun _ _ hh => hh.keeps hk) h2, h3, h4, h5, fun blk hblk => ⟨(h6 blk hblk).1, fun o ho => (h6 blk hblk).2 o (hs blk o hblk ho)⟩⟩
    obtain ⟨q1, q2⟩ := h1
    refine ⟨q1, ?_⟩
    rcases q2 with q2 | ⟨g', cap, cur, rfl, r1, r2, r3⟩
    · exact .inl q2
    · exact .inr ⟨g', cap, cur, rfl, r1, by rw [hb g' rfl]; exact r2, r3⟩

theorem RelB.lt {R : Ref} {w : World} {S : Stab} {v : Value} {B : Box} (h : RelB R w S v B) : ∀ blk, blkOf v = some blk → blk < w.heap.size := by
  intro blk hblk
  cases B with
  | var g x =>
    obtain ⟨b, cs, e, rfl, h2, _⟩ := h
    simp [blkOf] at hblk; subst hblk
    exact (Array.getElem?_eq_some_iff.1 h2).1
  | row e g xs fz =>
    obtain ⟨cs, h1, _⟩ := h
    rcases h1.2 with ⟨rfl, _⟩ | ⟨g', cap, cur, rfl, r1, r2, r3⟩
    · simp [blkOf] at hblk
    · simp [blkOf] at hblk; subst hblk
      exact (Array.getElem?_eq_some_iff.1 r2).1

theorem RelB.new {R : Ref} {w : World} {S : Stab} {v : Value} {B : Box} (h : RelB R w S v B) : ∀ blk, blkOf v = some blk → R.new blk := by
  intro blk hblk
  cases B with
  | var g x =>
    obtain ⟨b, cs, e, rfl, h2, _, _, h5⟩ := h
    simp [blkOf] at hblk; subst hblk
    exact h5
  | row e g xs fz =>
    obtain ⟨cs, h1, _, _, _, _, h6⟩ := h
    exact (h6 blk hblk).1

/-- A world that is as it was but for new blocks (and draws). -/
structure Grows (w w' : World) : Prop where
  os : w'.os = w.os
  tape : w'.tape = w.tape
  output : w'.output = w.output
  size : w.heap.size ≤ w'.heap.size
  block : ∀ k, k < w.heap.size → w'.heap[k]? = w.heap[k]?

theorem Grows.refl (w : World) : Grows w w := ⟨rfl, rfl, rfl, Nat.le_refl _, fun _ _ => rfl⟩
theorem Grows.trans {a b c : World} (h : Grows a b) (k : Grows b c) : Grows a c :=
  ⟨k.os.trans h.os, k.tape.trans h.tape, k.output.trans h.output, Nat.le_trans h.size k.size, fun i hi => (k.block i (Nat.lt_of_lt_of_le hi h.size)).trans (h.block i hi)⟩
theorem Grows.drew (w : World) : Grows w w.drew := ⟨rfl, rfl, rfl, Nat.le_refl _, fun _ _ => rfl⟩
theorem Grows.alloc (w : World) (o : Obj) : Grows w (w.alloc o) := ⟨rfl, rfl, rfl, by simp, fun k hk => heap_alloc_old w o k hk⟩
theorem Grows.below {w w' : World} (h : RowKit.Below w.heap.size w w') : Grows w w' := ⟨h.os, h.tape, h.output, h.size, h.block⟩

theorem cell_of_heap {w w' : World} {b o : Nat} (h : w'.heap[b]? = w.heap[b]?) : w'.cell? ⟨b, o, none⟩ = w.cell? ⟨b, o, none⟩ := by simp [World.cell?, h]

/-- New blocks, some of whose cells may be stable from here on. -/
theorem InvM.grows {R : Ref} {M : Mem} (I : InvM R M) {w' : World} (g : Grows M.w w') (N : Stab) (hN : ∀ b o, N b o → M.w.heap.size ≤ b ∧ b < w'.heap.size) :
    InvM R { M with w := w', S := fun b o => M.S b o ∨ N b o } ∧ Step M { M with w := w', S := fun b o => M.S b o ∨ N b o } (fun _ => False) := by
  have hk : Keeps M.S (fun b o => M.S b o ∨ N b o) M.w w' := fun b o hs => ⟨.inl hs, cell_of_heap (g.block b (I.here b o hs).2)⟩
  refine ⟨⟨g.os.trans I.os, g.tape.trans I.tape, g.output.trans I.output, Nat.le_trans I.size g.size, fun k hk ho => (g.block k (Nat.lt_of_lt_of_le hk I.size)).trans (I.frame k hk ho), I.old.trans hk, ?_, ?_, I.sep⟩, hk, fun b d B h _ => ⟨d, B, h, rfl, Box.le_refl B⟩⟩
  · intro b o h
    rcases h with h | h
    · exact ⟨(I.here b o h).1, Nat.lt_of_lt_of_le (I.here b o h).2 g.size⟩
    · exact ⟨.inr (.inl (Nat.le_trans I.size (hN b o h).1)), (hN b o h).2⟩
  · intro b d B hb
    have hB := I.boxes b d B hb
    exact hB.move hk (fun blk hblk => g.block blk (hB.lt blk hblk)) (fun blk o hblk hs => hs.elim id (fun hn => absurd (hB.lt blk hblk) (Nat.not_lt.2 (hN blk o hn).1)))

theorem InvM.grow {R : Ref} {M : Mem} (I : InvM R M) {w' : World} (g : Grows M.w w') : InvM R { M with w := w' } ∧ Step M { M with w := w' } (fun _ => False) := by
  have := I.grows g (fun _ _ => False) (fun _ _ h => h.elim)
  simpa using this

/-- Only one box is another one. -/
theorem InvM.setBox {R : Ref} {M : Mem} (I : InvM R M) {w' : World} {S' : Stab} {v' : Value} (b : Nat) (B' : Box) (dd : Bool)
    (os : w'.os = M.w.os) (tape : w'.tape = M.w.tape) (output : w'.output = M.w.output) (size : M.w.heap.size ≤ w'.heap.size)
    (blk : ∀ k, k < M.w.heap.size → (∀ d B, lk b M.bs = some (d, B) → blkOf (M.β b) ≠ some k) → w'.heap[k]? = M.w.heap[k]?)
    (hk : Keeps M.S S' M.w w') (hS : ∀ k o, S' k o → M.S k o ∨ (blkOf v' = some k)) (hv : RelB R w' S' v' B')
    (hsep : ∀ k, blkOf v' = some k → (M.w.heap.size ≤ k ∨ (∃ d B, lk b M.bs = some (d, B)) ∧ blkOf (M.β b) = some k)) :
    InvM R { w := w', S := S', β := fun c => if c = b then v' else M.β c, bs := st' b (dd, B') M.bs } := by
  have hne : ∀ c d B, c ≠ b → lk c M.bs = some (d, B) → ∀ k, blkOf (M.β c) = some k → blkOf v' ≠ some k := by
    intro c d B hc hB k hck hvk
    rcases hsep k hvk with h | ⟨⟨d', B'', hb⟩, h⟩
    · exact absurd ((I.boxes c d B hB).lt k hck) (Nat.not_lt.2 h)
    · exact I.sep c b d B d' B'' hc hB hb k hck h
  refine ⟨os.trans I.os, tape.trans I.tape, output.trans I.output, Nat.le_trans I.size size, ?_, I.old.trans hk, ?_, ?_, ?_⟩
  · intro k h ho
    refine (blk k (Nat.lt_of_lt_of_le h I.size) ?_).trans (I.frame k h ho)
    intro d B hB hbk
    rcases (I.boxes b d B hB).new k hbk with h' | h'
    · omega
    · exact ho h'
  · intro x o h
    rcases hS x o h with h' | h'
    · exact ⟨(I.here x o h').1, Nat.lt_of_lt_of_le (I.here x o h').2 size⟩
    · exact ⟨.inr (hv.new x h'), hv.lt x h'⟩
  · intro c d B hc
    simp only [lk_st] at hc
    by_cases hcb : c = b
    · subst hcb
      simp at hc
      obtain ⟨rfl, rfl⟩ := hc
      simpa using hv
    · simp only [hcb, if_false] at hc ⊢
      have hB := I.boxes c d B hc
      refine hB.move hk (fun x hx => blk x (hB.lt x hx) ?_) (fun x o hx hs => ?_)
      · intro d' B'' hb hbx
        exact I.sep c b d B d' B'' hcb hc hb x hx hbx
      · exact (hS x o hs).resolve_right (hne c d B hcb hc x hx)
  · intro c1 c2 d1 B1 d2 B2 h12 hc1 hc2 k
    simp only [lk_st] at hc1 hc2
    by_cases h1 : c1 = b
    · subst h1
      have h2 : c2 ≠ c1 := fun h => h12 h.symm
      simp only [h2, if_false, if_true] at hc2 ⊢
      intro hk1 hk2
      exact hne c2 d2 B2 h2 hc2 k hk2 hk1
    · simp only [h1, if_false] at hc1 ⊢
      by_cases h2 : c2 = b
      · subst h2
        simp only [if_true]
        exact hne c1 d1 B1 h1 hc1 k
      · simp only [h2, if_false] at hc2 ⊢
        exact I.sep c1 c2 d1 B1 d2 B2 h12 hc1 hc2 k

/-- A row is kept from here on. -/
theorem InvM.freeze {R : Ref} {M : Mem} (I : InvM R M) {b : Nat} {d : Bool} {e : Nat} {g : GTy} {xs : List (den g)} {fz : Bool} (hb : lk b M.bs = some (d, .row e g xs fz)) :
    ∃ S', InvM R { M with S := S', bs := st' b (true, .row e g xs true) M.bs } ∧ Step M { M with S := S', bs := st' b (true, .row e g xs true) M.bs } (fun _ => False) ∧ Enc M.w S' (.sl g) xs [M.β b] := by
  have hB := I.boxes b d _ hb
  obtain ⟨cs, h1, h2, h3, h4, h5, h6⟩ := hB
  let S' : Stab := fun k o => M.S k o ∨ (blkOf (M.β b) = some k ∧ o < xs.length * ncell g)
  have hk : Keeps M.S S' M.w M.w := fun x o hs => ⟨.inl hs, rfl⟩
  have hB' : RelB R M.w S' (M.β b) (.row e g xs true) :=
    ⟨cs, h1, encL_mono (fun _ _ hh => hh.keeps hk) h2, h3, h4, h5, fun blk hblk => ⟨(h6 blk hblk).1, fun o ho => ⟨rfl, ho.elim (fun hs => ((h6 blk hblk).2 o hs).2) (fun hs => hs.2)⟩⟩⟩
  have J := I.setBox (w' := M.w) (S' := S') (v' := M.β b) b (.row e g xs true) true rfl rfl rfl (Nat.le_refl _) (fun _ _ _ => rfl) hk (fun k o h => h.imp id (fun h => h.1)) hB' (fun k h => .inr ⟨⟨d, _, hb⟩, h⟩)
  have hβ : (fun c => if c = b then M.β b else M.β c) = M.β := by funext c; split <;> simp_all
  rw [hβ] at J
  refine ⟨S', J, ⟨hk, fun c dc Bc hc _ => ?_⟩, ?_⟩
  · simp only [lk_st]
    by_cases hcb : c = b
    · subst hcb
      rw [hb] at hc
      simp only [Option.some.injEq, Prod.mk.injEq] at hc
      obtain ⟨rfl, rfl⟩ := hc
      exact ⟨true, .row e g xs true, by simp, trivial, ⟨fun g' p hp => hp, fun h => h⟩⟩
    · exact ⟨dc, Bc, by simp only [hcb, if_false]; exact hc, trivial, Box.le_refl _⟩
  · rcases h1.2 with ⟨hn, hz⟩ | ⟨blk, cap, cur, hv, r1, r2, r3, r4, r5, r6⟩
    · have hxs : xs = [] := List.eq_nil_of_length_eq_zero hz
      subst hxs
      exact ⟨none, 0, by rw [hn]; rfl, Nat.le_refl _, by simp, Nat.zero_le _, .inl rfl⟩
    · refine ⟨some ⟨blk, 0, none⟩, cap, by rw [hv], r3, h3, h4, .inr ⟨blk, 0, cs, rfl, encL_mono (fun _ _ hh => hh.keeps hk) h2, fun j v hj => ?_⟩⟩
      have hjlt : j < xs.length * ncell g := by
        rw [← h1.1]
        exact (List.getElem?_eq_some_iff.1 hj).1
      refine ⟨?_, .inr ⟨by rw [hv]; rfl, by simpa using hjlt⟩⟩
      rw [cell_of_row M.w blk (0 + j) cur e (0, 0) r2]
      rw [← r6, List.getElem?_take] at hj
      simp only [hjlt, if_true] at hj
      simpa using hj

/-- A new variable. -/
theorem InvM.newVar {R : Ref} {M : Mem} (I : InvM R M) {g : GTy} {x : den g} {cs : List Value} (e : TypeId) (b : Nat) (h : Enc M.w M.S g x cs) :
    InvM R { w := M.w.alloc (.cells cs.toArray e), S := M.S, β := fun c => if c = b then .pointer (some ⟨M.w.heap.size, 0, none⟩) else M.β c, bs := st' b (true, .var g x) M.bs } ∧
    Step M { w := M.w.alloc (.cells cs.toArray e), S := M.S, β := fun c => if c = b then .pointer (some ⟨M.w.heap.size, 0, none⟩) else M.β c, bs := st' b (true, .var g x) M.bs } (fun c => c = b) := by
  have gr := Grows.alloc M.w (.cells cs.toArray e)
  have hk : Keeps M.S M.S M.w (M.w.alloc (.cells cs.toArray e)) := fun x o hs => ⟨hs, cell_of_heap (gr.block x (I.here x o hs).2)⟩
  have hB : RelB R (M.w.alloc (.cells cs.toArray e)) M.S (.pointer (some ⟨M.w.heap.size, 0, none⟩)) (.var g x) :=
    ⟨M.w.heap.size, cs.toArray, e, rfl, heap_alloc_new M.w _, by simpa using h.keeps hk, fun o ho => absurd (I.here _ o ho).2 (Nat.lt_irrefl _), .inl I.size⟩
  refine ⟨I.setBox b _ true rfl rfl rfl gr.size (fun k hk _ => gr.block k hk) hk (fun _ _ h => .inl h) hB (fun k h => .inl (by simp [blkOf] at h; omega)), hk, fun c d B hc hcb => ?_⟩
  exact ⟨d, B, by simp only [lk_st]; simp [hcb, hc], by simp [hcb], Box.le_refl B⟩

/-- A new row. -/
theorem InvM.newRow {R : Ref} {M : Mem} (I : InvM R M) {g : GTy} {xs : List (den g)} {cs : List Value} (rest : List Value) (cap : Nat) (e : TypeId) (b : Nat) (h : encL (Enc M.w M.S g) xs cs)
    (h1 : xs.length * lbytes g ≤ maxRow) (h2 : xs.length ≤ maxRow) (h3 : 0 < ncell g) (h4 : xs.length ≤ cap) (h5 : cap ≤ maxLen) (h6 : (cs ++ rest).length = cap * ncell g) :
    InvM R { w := M.w.alloc (.cells (cs ++ rest).toArray e), S := M.S, β := fun c => if c = b then .slice (some ⟨M.w.heap.size, 0, none⟩) xs.length cap else M.β c, bs := st' b (true, .row e g xs false) M.bs } ∧
    Step M { w := M.w.alloc (.cells (cs ++ rest).toArray e), S := M.S, β := fun c => if c = b then .slice (some ⟨M.w.heap.size, 0, none⟩) xs.length cap else M.β c, bs := st' b (true, .row e g xs false) M.bs } (fun c => c = b) := by
  have gr := Grows.alloc M.w (.cells (cs ++ rest).toArray e)
  have hk : Keeps M.S M.S M.w (M.w.alloc (.cells (cs ++ rest).toArray e)) := fun x o hs => ⟨hs, cell_of_heap (gr.block x (I.here x o hs).2)⟩
  have hl : cs.length = xs.length * ncell g := encL_len (fun _ _ hh => hh.len) h
  have hB : RelB R (M.w.alloc (.cells (cs ++ rest).toArray e)) M.S (.slice (some ⟨M.w.heap.size, 0, none⟩) xs.length cap) (.row e g xs false) := by
    refine ⟨cs, ⟨hl, .inr ⟨M.w.heap.size, cap, (cs ++ rest).toArray, rfl, Nat.zero_le _, heap_alloc_new M.w _, h4, h5, by simpa using h6, ?_⟩⟩, encL_mono (fun _ _ hh => hh.keeps hk) h, h1, h2, h3, fun blk hblk => ?_⟩
    · rw [← hl]; simp
    · simp [blkOf] at hblk
      subst hblk
      exact ⟨.inl I.size, fun o ho => absurd (I.here _ o ho).2 (Nat.lt_irrefl _)⟩
  refine ⟨I.setBox b _ true rfl rfl rfl gr.size (fun k hk _ => gr.block k hk) hk (fun _ _ h => .inl h) hB (fun k h => .inl (by simp [blkOf] at h; omega)), hk, fun c d B hc hcb => ?_⟩
  exact ⟨d, B, by simp only [lk_st]; simp [hcb, hc], by simp [hcb], Box.le_refl B⟩
end Go.Ev
