/- Operations that make memory. -/
import Derived.Test.YtohodbfoeejbjaaEvOp7
import Derived.Great.BuildSlice
set_option linter.unusedVariables false
set_option linter.unusedSimpArgs false
namespace Go.Ev
section
variable {P : Program} {τ : Tys} {R : Ref} {M : Mem}

theorem killed_one {b k : Nat} {B : Box} : killed [(k, true, B)] b ↔ b = k := by
  unfold killed
  constructor
  · rintro ⟨B', hB⟩
    simp at hB
    exact hB.1
  · rintro rfl
    exact ⟨B, by simp⟩

theorem After.newVar {ws : List (Nat × Bool × Box)} {S' : Stab} (f : Froze R M { M with S := S', bs := applyB ws M.bs }) (hk : ∀ b, ¬ killed ws b) {g : GTy} {x : den g} {cs : List Value} (he : Enc M.w S' g x cs) (key : Nat) (t : TypeId) (n : Option Prop) :
    After R M ⟨.ptr key g [], ws ++ [(key, true, .var g x)], n⟩ (.pointer (some ⟨M.w.heap.size, 0, none⟩)) (M.w.alloc (.cells cs.toArray t)) := by
  obtain ⟨I2, s2⟩ := f.inv.newVar t key (by rw [f.w]; exact he)
  simp only [f.w] at I2 s2
  refine ⟨S', fun c => if c = key then .pointer (some ⟨M.w.heap.size, 0, none⟩) else M.β c, ?_, ?_, ?_⟩
  · simp only [applyB_append, applyB]
    exact I2
  · simp only [applyB_append, applyB]
    refine (f.step.trans s2).mono (fun b hb => ?_)
    rcases hb with hb | hb
    · exact hb.elim
    · exact killed_append.2 (.inr (killed_one.2 hb))
  · simp only [RelV, applyB_append, applyB]
    exact ⟨M.w.heap.size, true, .var g x, lk_st_same _ _ _, ⟨rfl, by simp [inB]⟩, by simp [blkOf], by simp [offs]⟩

theorem newVar_run (t : TypeId) {g : GTy} {x : den g} {cs : List Value} {S : Stab} {W : World} (he : Enc W S g x cs) (w : World) :
    (newVar t (toVal g cs)).run P w = .ok ⟨w.heap.size, 0, none⟩ (w.alloc (.cells cs.toArray t)) := by
  have h : (toVal g cs).cells = cs.toArray := by
    apply Array.toList_inj.1
    rw [toVal_cells he]
  simp [newVar, newRow, h]

theorem alloc_run (TOK : TysOK P τ) {t : TypeId} {i : TInfo} (hi : τ t = some i) (w : World) :
    (Instr.alloc t true (.tuple #[])).run P w = .ok (.pointer (some ⟨w.heap.size, 0, none⟩)) (w.alloc (.cells (zeroCells i.g).toArray t)) := by
  obtain ⟨ti, h1, h2, h3⟩ := (TOK t i hi).info
  have := newVar_run (P := P) t (Enc.zero w (fun _ _ => False) i.g) w
  simp [Instr.alloc, zeroValue, typeInfo, h1, h3, this]

theorem box_run (t : TypeId) {g : GTy} {x : den g} {cs : List Value} {S : Stab} {W : World} (he : Enc W S g x cs) (w : World) :
    (Instr.box t (toVal g cs)).run P w = .ok (.pointer (some ⟨w.heap.size, 0, none⟩)) (w.alloc (.cells cs.toArray t)) := by
  simp [Instr.box, newVar_run (P := P) t he w]

theorem madeCells_eq {c : List Value} : ∀ n : Nat, (madeCells c.toArray (n * c.length)).toList = (List.replicate n c).flatten := by
  intro n
  apply List.ext_getElem?
  intro j
  by_cases hj : j < n * c.length
  · have h0 : 0 < c.length := by
      rcases Nat.eq_zero_or_pos c.length with h | h
      · rw [h] at hj; simp at hj
      · exact h
    have e1 : (madeCells c.toArray (n * c.length)).toList[j]? = some (c.toArray[j % c.toArray.size]!) := by
      simp [madeCells, hj]
    have hm : j % c.length < c.length := Nat.mod_lt _ h0
    rw [e1]
    have : ∀ (n j : Nat), j < n * c.length → (List.replicate n c).flatten[j]? = c[j % c.length]? := by
      intro n
      induction n with
      | zero => intro j hj; simp at hj
      | succ n ih =>
        intro j hj
        rw [List.replicate_succ, List.flatten_cons]
        by_cases hlt : j < c.length
        · rw [List.getElem?_append_left hlt, Nat.mod_eq_of_lt hlt]
        · rw [List.getElem?_append_right (by omega), ih (j - c.length) (by rw [Nat.add_mul, Nat.one_mul] at hj; omega)]
          rw [Nat.mod_eq_sub_mod (a := j) (by omega)]
    rw [this n j hj]
    simp [hm]
  · have l1 : (madeCells c.toArray (n * c.length)).toList.length ≤ j := by simp [madeCells]; omega
    have l2 : (List.replicate n c).flatten.length ≤ j := by simp; omega
    rw [List.getElem?_eq_none l1, List.getElem?_eq_none l2]

theorem zeroCells_len (g : GTy) : (zeroCells g).length = ncell g := (Enc.zero (default : World) (fun _ _ => False) g).len

theorem flatten_add {c : List Value} (a b : Nat) : (List.replicate (a + b) c).flatten = (List.replicate a c).flatten ++ (List.replicate b c).flatten := by
  rw [← List.replicate_append_replicate, List.flatten_append]

theorem makeSlice_sound (TOK : TysOK P τ) (I : InvM R M) {t : TypeId} {g : GTy} {nf bytes el : Nat} (hi : τ t = some ⟨.sl g, nf, bytes, el⟩) {k k' : IntKind} {n c : Int} (key : Nat) (nd : Option Prop)
    (h0 : 0 ≤ n) (h1 : n ≤ c) (h2 : c * bytes ≤ maxRow) :
    ∃ v w', (Instr.makeSlice t (.int k n) (.int k' c)).run P M.w = .ok v w' ∧ After R M ⟨.tip key, [(key, true, .row el g (List.replicate n.toNat (zero g)) false)], nd⟩ v w' := by
  have T := TOK t _ hi
  have hd := T.desc
  simp only at hd
  obtain ⟨e, j, ti, q1, q2, q3, q4, q5, q6, q7, q8, q9⟩ := hd
  obtain ⟨ti', p1, p2, p3⟩ := (TOK e j q3).info
  rw [q5] at p1
  simp only [Option.some.injEq] at p1
  subst p1
  subst q2
  rw [q4] at p2 p3
  have hb : 1 ≤ bytes := by omega
  have hc : c ≤ maxRow := by
    have : c * 1 ≤ c * bytes := Int.mul_le_mul_of_nonneg_left (by omega) (by omega)
    omega
  simp only [maxRow] at hc h2
  have hr := run_make (P := P) M.w t e ti _ q1 q5 p3 k k' n c h0 h1 (by rw [q6, Int.mul_comm]; omega) (by omega)
  have hz : (toVal g (zeroCells g)).cells = (zeroCells g).toArray := by
    apply Array.toList_inj.1
    rw [toVal_cells (Enc.zero M.w M.S g)]
  have hm : madeCells (toVal g (zeroCells g)).cells (c.toNat * ti.size) = ((List.replicate n.toNat (zeroCells g)).flatten ++ (List.replicate (c.toNat - n.toNat) (zeroCells g)).flatten).toArray := by
    apply Array.toList_inj.1
    rw [hz, p2, ← zeroCells_len g, madeCells_eq]
    rw [← flatten_add]
    show _ = (List.replicate (n.toNat + (c.toNat - n.toNat)) (zeroCells g)).flatten
    rw [show n.toNat + (c.toNat - n.toNat) = c.toNat by omega]
  rw [hm] at hr
  have hlb : n.toNat * lbytes g ≤ maxRow := by
    have a1 : n.toNat * lbytes g ≤ c.toNat * bytes := Nat.mul_le_mul (by omega) (by omega)
    have a2 : ((c.toNat * bytes : Nat) : Int) = c * bytes := by rw [Int.natCast_mul, Int.toNat_of_nonneg (by omega)]
    simp only [maxRow]
    omega
  obtain ⟨I2, s2⟩ := I.newRow (g := g) (xs := List.replicate n.toNat (zero g)) ((List.replicate (c.toNat - n.toNat) (zeroCells g)).flatten) c.toNat e key (encL_replicate (Enc.zero M.w M.S g) n.toNat)
    (by simpa using hlb) (by simp [maxRow]; omega) (by simpa using q9) (by simp; omega) (by simp only [maxLen]; omega) (by
      rw [← flatten_add]
      simp [zeroCells_len]
      rw [show n.toNat + (c.toNat - n.toNat) = c.toNat by omega])
  simp only [List.length_replicate] at I2 s2
  refine ⟨_, _, hr, M.S, fun x => if x = key then .slice (some ⟨M.w.heap.size, 0, none⟩) n.toNat c.toNat else M.β x, ?_, ?_, ?_⟩
  · exact I2
  · exact s2.mono (fun b hb => killed_one.2 hb)
  · simp only [RelV, applyB]
    exact ⟨⟨true, _, lk_st_same _ _ _, trivial⟩, by simp⟩

theorem buildSlice_sound (TOK : TysOK P τ) (I : InvM R M) {t : TypeId} {g : GTy} {nf b el : Nat} (hi : τ t = some ⟨.sl g, nf, b, el⟩) {n : Nat} {l : List (Nat × Arg)} {us : List Value} (hu : ArgsR M (l.map (·.2)) us) {x : List (den g)} {ws : List (Nat × Bool × Box)}
    (hin : ∀ y ∈ l, y.1 < n) (h : parts (.arr n g) (fun k => [.idx k]) l (zero (.arr n g)) = some (x, ws)) (key : Nat) (nd : Option Prop) (h1 : n * ncell g ≤ 2 ^ 24) (h2 : n * b ≤ maxRow) (ps : Array (Nat × Value)) (hps : ps.toList = (l.map (·.1)).zip us) :
    ∃ v w', (Instr.buildSlice t n ps).run P M.w = .ok v w' ∧ After R M ⟨.tip key, ws ++ [(key, true, .row el g x false)], nd⟩ v w' := by
  have T := TOK t _ hi
  have hd := T.desc
  simp only at hd
  obtain ⟨e, j, ti, q1, q2, q3, q4, q5, q6, q7, q8, q9⟩ := hd
  obtain ⟨ti', p1, p2, p3⟩ := (TOK e j q3).info
  rw [q5] at p1
  simp only [Option.some.injEq] at p1
  subst p1
  subst q2
  rw [q4] at p2 p3
  obtain ⟨hk, S', f, ds, he, hf⟩ := parts_sound (g := .arr n g) (place := fun i => some (i * ncell g, ncell g)) (ok := fun _ => True) (fun i h _ hp => by
      simp only [pathTy, Option.some.injEq] at hp
      subst hp
      simp [offs]) I hu (fun y hy => ⟨trivial, by simp only [inB]; exact ⟨hin y hy, trivial⟩⟩) (Enc.zero M.w M.S (.arr n g)) h
  have hz : (toVal g (zeroCells g)).cells = (zeroCells g).toArray := by
    apply Array.toList_inj.1
    rw [toVal_cells (Enc.zero M.w M.S g)]
  have hm : madeCells (toVal g (zeroCells g)).cells (n * ti.size) = (zeroCells (.arr n g)).toArray := by
    apply Array.toList_inj.1
    rw [hz, p2, ← zeroCells_len g, madeCells_eq]
    rfl
  have hrun : (Instr.buildSlice t n ps).run P M.w = .ok (.slice (some ⟨M.w.heap.size, 0, none⟩) n n) (M.w.alloc (.cells ds.toArray e)) := by
    rw [← hps, ← hm] at hf
    by_cases h0 : n * ti.size = 0
    · have hm0 : madeCells (toVal g (zeroCells g)).cells (n * ti.size) = #[] := by rw [h0]; simp [madeCells, Array.range_zero']
      rw [hm0] at hf
      have hn0 : n = 0 := by
        rcases Nat.mul_eq_zero.1 h0 with h | h
        · exact h
        · omega
      subst hn0
      simp only [← p2] at hf
      simp [Instr.buildSlice, run_underlying q1, sizeOf, typeInfo, q5, hf, newRow, Array.range_zero']
    · exact run_buildSlice M.w t e n ps ds.toArray ti _ q1 q5 p3 (by rw [p2]; omega) h0 (by rw [p2] at hf ⊢; exact hf)
  obtain ⟨hlen, henc⟩ := he
  have hlen' : x.length = n := hlen
  have hnb : n ≤ maxRow := Nat.le_trans (by rw [← q6] at h2 ⊢; exact Nat.le_mul_of_pos_right n (by omega)) h2
  obtain ⟨I2, s2⟩ := f.inv.newRow (g := g) (xs := x) (cs := ds) [] n e key (by rw [f.w]; exact henc) (by
      rw [hlen']
      exact Nat.le_trans (Nat.mul_le_mul_left _ (by omega)) h2) (by rw [hlen']; exact hnb) q9 (by omega) (by simp only [maxLen]; simp only [maxRow] at hnb; omega) (by
      have := encL_len (fun _ _ hh => hh.len) henc
      simp only [List.append_nil]
      rw [this]
      exact congrArg (· * ncell g) hlen')
  simp only [f.w, List.append_nil, hlen'] at I2 s2
  refine ⟨_, _, hrun, S', fun c => if c = key then .slice (some ⟨M.w.heap.size, 0, none⟩) n n else M.β c, ?_, ?_, ?_⟩
  · simp only [applyB_append, applyB]
    exact I2
  · simp only [applyB_append, applyB]
    refine (f.step.trans s2).mono (fun b hb => ?_)
    rcases hb with hb | hb
    · exact hb.elim
    · exact killed_append.2 (.inr (killed_one.2 hb))
  · simp only [RelV, applyB_append, applyB]
    exact ⟨⟨true, _, lk_st_same _ _ _, trivial⟩, by simp⟩
end
end Go.Ev
