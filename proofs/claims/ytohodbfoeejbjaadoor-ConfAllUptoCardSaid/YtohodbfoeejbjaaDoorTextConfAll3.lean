/- Conversions, operators, picks; operations that make memory; calls; and all of them. -/
import Derived.Great.BuildSlice
import Derived.Laws.RangeString
import Derived.Test.YtohodbfoeejbjaaDoorTextConfAll2

set_option linter.unusedVariables false
set_option linter.unusedSimpArgs false
namespace Go.Ev
section
variable {P : Program} {τ : Tys} {R : Ref} {M : Mem}

theorem bytes_cells {w : World} {S : Stab} : ∀ {l : List Int} {cs : List Value}, encL (Enc w S (.int .u8)) l cs → cs = l.map (Value.int .u8)
  | [], _, h => h
  | n :: l, _, ⟨c, d, e, h1, h2⟩ => by
    have hc : c = [.int .u8 n] := h1.1
    rw [e, hc, bytes_cells h2]
    rfl

theorem foldl_push : ∀ (ns : List Int) (s : List UInt8), (ns.foldl (fun (r : ByteArray) n => r.push (UInt8.ofNat n.toNat)) ⟨⟨s⟩⟩) = ⟨⟨s ++ bytesToStr ns⟩⟩
  | [], s => by simp [bytesToStr]
  | n :: ns, s => by
    rw [List.foldl_cons]
    have : (⟨⟨s⟩⟩ : ByteArray).push (UInt8.ofNat n.toNat) = ⟨⟨s ++ [UInt8.ofNat n.toNat]⟩⟩ := by
      apply ByteArray.ext
      rw [ByteArray.data_push]
      simp
    rw [this, foldl_push ns]
    simp [bytesToStr]

theorem equal_nil_nil {P : Program} {t : TypeId} {ms : Array (String × TypeId)} (hu : P.underlying t = some (.interface ms)) (w : World) : (Op.equal t .nilIface .nilIface).run P w = .ok true w := by
  have h : ∀ d, (Op.equalIn (d + 1) t .nilIface .nilIface).run P w = .ok true w := fun d => by
    simp only [Op.equalIn, Sem.run_bind, run_underlying hu, Result.andThen_ok, Sem.run_pure]
  exact h 9999
theorem equal_err_nil {P : Program} {t : TypeId} {ms : Array (String × TypeId)} (hu : P.underlying t = some (.interface ms)) (ty : TypeId) (v : Value) (w : World) : (Op.equal t (.iface ty v) .nilIface).run P w = .ok false w := by
  have h : ∀ d, (Op.equalIn (d + 1) t (.iface ty v) .nilIface).run P w = .ok false w := fun d => by
    simp only [Op.equalIn, Sem.run_bind, run_underlying hu, Result.andThen_ok, Sem.run_pure]
  exact h 9999
theorem encR_len (n : Int) : (encR n).length ≤ maxStr := by
  unfold encR Utf8.encode maxStr
  simp only
  repeat' split
  all_goals simp

theorem convEff_sound (TOK : TysOK P τ) (I : InvM R M) {s d : TypeId} {j i : TInfo} (hj : τ s = some j) (hi : τ d = some i) {va : AV} {u : Value} (ha : RelV M va u) {e : Eff} (h : convEff j.g i.g (argOf M.bs va) = some e) :
    ∃ v, (convert s d u).run P M.w = .ok v M.w ∧ e.wr = [] ∧ RelV M e.av v := by
  have hd := (TOK d i hi).desc
  have Ts := TOK s j hj
  have hs := Ts.desc
  have hus : ∃ ds, P.underlying s = some ds := by
    obtain ⟨g, _, _, _⟩ := j
    cases g <;> simp only at hs
    · exact ⟨_, hs⟩
    · exact ⟨_, hs⟩
    · exact ⟨_, hs⟩
    · obtain ⟨fs, h1, _⟩ := hs; exact ⟨_, h1⟩
    · obtain ⟨e, j, h1, _⟩ := hs; exact ⟨_, h1⟩
    · obtain ⟨e, j, ti, h1, _⟩ := hs; exact ⟨_, h1⟩
    · obtain ⟨ms, h1⟩ := hs; exact ⟨_, h1⟩
  obtain ⟨ds, hds⟩ := hus
  obtain ⟨g, nf, by_, el⟩ := i
  obtain ⟨g', nf', by', el'⟩ := j
  unfold convEff at h
  simp only at h hd hs
  split at h
  · rename_i _ _ k k' n b hargeq
    obtain ⟨rfl, hbox⟩ := argOf_eq hargeq
    obtain ⟨rfl, hk⟩ := relInt ha
    simp only [v0, Option.some.injEq] at h
    subst h
    exact ⟨.int k (k.wrap n), by simp [convert, run_underlying hds, run_underlying hd, Conv.intToInt], rfl, mkInt (wrap_has _ _)⟩
  · rename_i _ _ s' b hargeq
    obtain ⟨rfl, hbox⟩ := argOf_eq hargeq
    obtain ⟨rfl, hk⟩ := relStr ha
    simp only [v0, Option.some.injEq] at h
    subst h
    exact ⟨.string ⟨⟨s'⟩⟩, by simp [convert, run_underlying hds, run_underlying hd], rfl, mkStr hk⟩
  · rename_i _ _ k' n b hargeq
    obtain ⟨rfl, hbox⟩ := argOf_eq hargeq
    obtain ⟨rfl, hk⟩ := relInt ha
    simp only [v0, Option.some.injEq] at h
    subst h
    exact ⟨.string ⟨⟨encR n⟩⟩, by simp [convert, run_underlying hds, run_underlying hd, Conv.intToString]; rfl, rfl, mkStr (encR_len n)⟩
  · rename_i _ _ l b hargeq
    obtain ⟨rfl, hbox⟩ := argOf_eq hargeq
    simp only [v0, Option.some.injEq] at h
    subst h
    obtain ⟨ee, jj, ti, q1, _, q2, q3, _⟩ := hs
    have he := (TOK _ _ q2).desc
    rw [q3] at he
    obtain ⟨ad, cap, rfl, h2, h3, h4, h5⟩ := relSl ha
    have hlen : (bytesToStr l).length ≤ maxStr := by
      simp only [bytesToStr, List.length_map]
      have : List.length (α := Int) l ≤ maxRow := h4
      simp only [maxRow] at this; simp only [maxStr]; omega
    rcases h5 with rfl | ⟨blk, off, cs, rfl, h6, h7⟩
    · cases ad with
      | none => exact ⟨.string .empty, by rw [run_convert_bytes_string _ s d ee _ _ _ q1 he hd]; simp [Conv.bytesToString], rfl, mkStr (by simp [bytesToStr])⟩
      | some a =>
        refine ⟨.string ⟨⟨bytesToStr []⟩⟩, ?_, rfl, mkStr (by simp [bytesToStr])⟩
        rw [run_convert_bytes_string _ s d ee _ _ _ q1 he hd]
        have := run_bytesToString (P := P) M.w a 0 cap [] (by simp [loadCells, loadCellsFrom])
        exact this
    · refine ⟨.string ⟨⟨bytesToStr l⟩⟩, ?_, rfl, mkStr hlen⟩
      rw [run_convert_bytes_string _ s d ee _ _ _ q1 he hd]
      have hb := bytes_cells h6
      have hl : cs.length = List.length (α := Int) l := by rw [hb]; simp
      have := run_bytesToString (P := P) M.w ⟨blk, off, none⟩ (List.length (α := Int) l) cap l (by rw [← hl, ← hb]; exact loadCells_at (fun j v hv => (h7 j v hv).1))
      rw [this, show ByteArray.empty = ⟨⟨[]⟩⟩ from rfl, foldl_push]
      rfl
  · rename_i _ _ b el2 l fz hargeq
    obtain ⟨rfl, hbox⟩ := argOf_eq hargeq
    simp only [v0, Option.some.injEq] at h
    subst h
    obtain ⟨ee, jj, ti, q1, _, q2, q3, _⟩ := hs
    have he := (TOK _ _ q2).desc
    rw [q3] at he
    obtain ⟨⟨dd, hb⟩, rfl⟩ := relTip ha hbox
    have hlen : (bytesToStr l).length ≤ maxStr := by
      simp only [bytesToStr, List.length_map]
      obtain ⟨_, _, _, _, this, _⟩ := I.boxes b dd _ hb
      have : List.length (α := Int) l ≤ maxRow := this
      simp only [maxRow] at this; simp only [maxStr]; omega
    rcases rowCells I hb with ⟨hn, rfl⟩ | ⟨blk, cap, cs, hβ, hcap, h6, h7⟩
    · exact ⟨.string .empty, by rw [hn, run_convert_bytes_string _ s d ee _ _ _ q1 he hd]; simp [Conv.bytesToString], rfl, mkStr (by simp [bytesToStr])⟩
    · refine ⟨.string ⟨⟨bytesToStr l⟩⟩, ?_, rfl, mkStr hlen⟩
      rw [hβ, run_convert_bytes_string _ s d ee _ _ _ q1 he hd]
      have hbc := bytes_cells h6
      have hl : cs.length = List.length (α := Int) l := by rw [hbc]; simp
      have := run_bytesToString (P := P) M.w ⟨blk, 0, none⟩ (List.length (α := Int) l) cap l (by rw [← hl, ← hbc]; exact loadCells_at (fun j v hv => by rw [Nat.zero_add]; exact h7 j v hv))
      have e2 : List.length (α := den (.int .u8)) l = List.length (α := Int) l := rfl
      rw [e2, this, show ByteArray.empty = ⟨⟨[]⟩⟩ from rfl, foldl_push]
      rfl
  · cases h

theorem unEff_sound {op : UnOp} {va : AV} {u : Value} (ha : RelV M va u) {e : Eff} (h : unEff op va = some e) : ∃ v, (Op.unary op u).run P M.w = .ok v M.w ∧ e.wr = [] ∧ RelV M e.av v := by
  unfold unEff at h
  split at h
  · rename_i b
    simp only [v0, Option.some.injEq] at h
    subst h
    rw [relBool ha]
    exact ⟨_, rfl, rfl, mkBool⟩
  · rename_i k n
    simp only [v0, Option.some.injEq] at h
    subst h
    obtain ⟨rfl, hk⟩ := relInt ha
    exact ⟨_, rfl, rfl, mkInt (wrap_has _ _)⟩
  · rename_i k n
    simp only [v0, Option.some.injEq] at h
    subst h
    obtain ⟨rfl, hk⟩ := relInt ha
    exact ⟨_, rfl, rfl, mkInt (bitsOp_has _ _ _ _)⟩
  · cases h

theorem pickEff_sound {vc va vb : AV} {c a b : Value} (hc : RelV M vc c) (ha : c = .bool true → RelV M va a) (hb : c = .bool false → RelV M vb b) {e : Eff} (h : pickEff vc va vb = some e) :
    ∃ x, c = .bool x ∧ e.wr = [] ∧ RelV M e.av (if x then a else b) := by
  unfold pickEff at h
  split at h
  · rename_i x g u g' v
    have hx := relBool hc
    split at h
    · rename_i he _
      subst he
      simp only [v0, Option.some.injEq] at h
      subst h
      refine ⟨x, hx, rfl, ?_⟩
      cases x with
      | true => simpa using ha hx
      | false => simpa using hb hx
    · cases h
  · rename_i x _
    have hx := relBool hc
    refine ⟨x, hx, ?_⟩
    cases x with
    | true =>
      simp only at h
      split at h
      · simp only [v0, Option.some.injEq] at h
        subst h
        exact ⟨rfl, by simpa using ha hx⟩
      · cases h
    | false =>
      simp only at h
      split at h
      · simp only [v0, Option.some.injEq] at h
        subst h
        exact ⟨rfl, by simpa using hb hx⟩
      · cases h
  · cases h

theorem binEff_sound (TOK : TysOK P τ) {op : BinOp} {t : TypeId} {known : Bool} {vx vy : AV} {x y : Value} (hx : RelV M vx x) (hy : RelV M vy y) {e : Eff} (h : binEff (τ t) op known vx vy = some e) (hn : e.ok) (xo yo : Operand)  (hk : known = isK yo) :
    ∃ r, ((do eqGuard op t xo yo x y; binOp op t x y) : Sem Value).run P M.w = .ok r M.w ∧ e.wr = [] ∧ RelV M e.av r := by
  unfold binEff at h
  split at h
  · rename_i k a k' b
    obtain ⟨rfl, ha⟩ := relInt hx
    obtain ⟨rfl, hb⟩ := relInt hy
    have : (0 : Int) ≤ b ∧ e.wr = [] ∧ e.av = .val (.int k) (k.wrap ((a : Int) * 2 ^ (min (b : Int).toNat k.bits))) := by
      rcases needIf_spec h with ⟨_, h⟩ | ⟨hp, h⟩
      · simp only [Option.some.injEq] at h; subst h; exact ⟨hn _ rfl, rfl, rfl⟩
      · simp only [Option.some.injEq] at h; subst h; exact ⟨hp, rfl, rfl⟩
    obtain ⟨h1, h2, h3⟩ := this
    refine ⟨.int k (k.wrap ((a : Int) * 2 ^ (min (b : Int).toNat k.bits))), ?_, h2, by rw [h3]; exact mkInt (wrap_has _ _)⟩
    simp only [Sem.run_bind, eqGuard_int, Result.andThen_ok, binOp, Op.shift]
    rw [if_neg (by omega)]
    rfl
  · rename_i k a k' b
    obtain ⟨rfl, ha⟩ := relInt hx
    obtain ⟨rfl, hb⟩ := relInt hy
    have : (0 : Int) ≤ b ∧ e.wr = [] ∧ e.av = .val (.int k) ((a : Int).fdiv (2 ^ (min (b : Int).toNat k.bits))) := by
      rcases needIf_spec h with ⟨_, h⟩ | ⟨hp, h⟩
      · simp only [Option.some.injEq] at h; subst h; exact ⟨hn _ rfl, rfl, rfl⟩
      · simp only [Option.some.injEq] at h; subst h; exact ⟨hp, rfl, rfl⟩
    obtain ⟨h1, h2, h3⟩ := this
    refine ⟨.int k ((a : Int).fdiv (2 ^ (min (b : Int).toNat k.bits))), ?_, h2, by rw [h3]; exact mkInt (fdiv_has ha)⟩
    simp only [Sem.run_bind, eqGuard_int, Result.andThen_ok, binOp, Op.shift]
    rw [if_neg (by omega)]
    rfl
  · rename_i op' k a k' b hs1 hs2
    split at h
    · rename_i hk _
      subst hk
      obtain ⟨rfl, ha⟩ := relInt hx
      obtain ⟨rfl, hb⟩ := relInt hy
      obtain ⟨v, h1, h2, h3⟩ := intBin_sound (P := P) (M := M) ha hb h hn ⟨hs1, hs2⟩ t
      exact ⟨v, by simp only [Sem.run_bind, eqGuard_int, Result.andThen_ok, h1], h2, h3⟩
    · cases h
  · rename_i op' a b
    obtain ⟨rfl, ha⟩ := relStr hx
    obtain ⟨rfl, hb⟩ := relStr hy
    obtain ⟨v, h1, h2, h3⟩ := strBin_sound (P := P) (M := M) ha hb h hn t
    exact ⟨v, by simp only [Sem.run_bind, eqGuard_str, Result.andThen_ok, h1], h2, h3⟩
  · rename_i op1 av1 av2 a
    have hy' : y = .nilIface := by simpa only [RelV] using hy
    subst hy'
    simp only [RelV] at hx
    obtain ⟨cs, hcs, rfl⟩ := hx
    have key : ∀ nf by_ el, τ t = some ⟨.err, nf, by_, el⟩ → known = true →
        ((do eqGuard .eql t xo yo (toVal .err cs) .nilIface; binOp .eql t (toVal .err cs) .nilIface) : Sem Value).run P M.w = .ok (.bool (!(show Bool from a))) M.w ∧
        ((do eqGuard .neq t xo yo (toVal .err cs) .nilIface; binOp .neq t (toVal .err cs) .nilIface) : Sem Value).run P M.w = .ok (.bool (show Bool from a)) M.w := by
      intro nf by_ el hti hkn
      obtain ⟨ms, hu⟩ : ∃ ms, P.underlying t = some (.interface ms) := (TOK t _ hti).desc
      have hyo : ∃ v, yo = .const v := by
        rw [hkn] at hk
        cases yo <;> simp [isK] at hk ⊢
      obtain ⟨yv, hyo⟩ := hyo
      rcases hcs with ⟨hb, rfl⟩ | ⟨hb, ty, v, rfl⟩
      · have hb' : a = false := hb
        subst hb'
        have e1 : ∀ op, (eqGuard op t xo yo .nilIface .nilIface).run P M.w = .ok () M.w := by
          intro op
          unfold eqGuard
          cases op <;> simp [hyo]
        have e2 : (Op.equal t .nilIface .nilIface).run P M.w = .ok true M.w := by
          exact equal_nil_nil hu M.w
        exact ⟨by show ((do eqGuard .eql t xo yo .nilIface .nilIface; pure (.bool (← Op.equal t .nilIface .nilIface))) : Sem Value).run P M.w = _; simp [e1, e2],
          by show ((do eqGuard .neq t xo yo .nilIface .nilIface; pure (.bool (!(← Op.equal t .nilIface .nilIface)))) : Sem Value).run P M.w = _; simp [e1, e2]⟩
      · have hb' : a = true := hb
        subst hb'
        have e1 : ∀ op, (eqGuard op t xo yo (.iface ty v) .nilIface).run P M.w = .ok () M.w := by
          intro op
          unfold eqGuard
          cases op <;> simp [hyo]
        have e2 : (Op.equal t (.iface ty v) .nilIface).run P M.w = .ok false M.w := by
          exact equal_err_nil hu ty v M.w
        exact ⟨by show ((do eqGuard .eql t xo yo (.iface ty v) .nilIface; pure (.bool (← Op.equal t (.iface ty v) .nilIface))) : Sem Value).run P M.w = _; simp [e1, e2],
          by show ((do eqGuard .neq t xo yo (.iface ty v) .nilIface; pure (.bool (!(← Op.equal t (.iface ty v) .nilIface)))) : Sem Value).run P M.w = _; simp [e1, e2]⟩
    split at h
    · rename_i hti
      simp only [v0, Option.some.injEq] at h
      subst h
      exact ⟨_, (key _ _ _ hti rfl).1, rfl, mkBool⟩
    · rename_i hti
      simp only [v0, Option.some.injEq] at h
      subst h
      exact ⟨_, (key _ _ _ hti rfl).2, rfl, mkBool⟩
    · cases h
  · rename_i op' g a g' b hi hs
    split at h
    · rename_i he i _ hti
      subst he
      split at h
      · rename_i hg _
        subst hg
        exact eqBin_sound TOK hti hx hy h (fun k hk => by obtain ⟨g, _, _, _⟩ := i; cases hk; exact g' k _ k _ rfl HEq.rfl rfl HEq.rfl) (fun hk => by obtain ⟨g, _, _, _⟩ := i; cases hk; exact b _ _ rfl HEq.rfl rfl HEq.rfl) xo yo
      · cases h
    · cases h
  · cases h
end
end Go.Ev
/- Operations that make memory. -/
set_option linter.unusedVariables false
set_option linter.unusedSimpArgs false
namespace Go.Ev
section
variable {P : Program} {τ : Tys} {R : Ref} {M : Mem}

theorem killed_one {b k : Nat} {B : Box} : killed [(k, true, B)] b ↔ b = k := by
  unfold killed
  constructor
  · rintro ⟨B', hB⟩
    simp at hB
    exact hB.1
  · rintro rfl
    exact ⟨B, by simp⟩

theorem After.newVar {ws : List (Nat × Bool × Box)} {S' : Stab} (f : Froze R M { M with S := S', bs := applyB ws M.bs }) (hk : ∀ b, ¬ killed ws b) {g : GTy} {x : den g} {cs : List Value} (he : Enc M.w S' g x cs) (key : Nat) (t : TypeId) (n : Option Prop) :
    After R M ⟨.ptr key g [], ws ++ [(key, true, .var g x)], n⟩ (.pointer (some ⟨M.w.heap.size, 0, none⟩)) (M.w.alloc (.cells cs.toArray t)) := by
  obtain ⟨I2, s2⟩ := f.inv.newVar t key (by rw [f.w]; exact he)
  simp only [f.w] at I2 s2
  refine ⟨S', fun c => if c = key then .pointer (some ⟨M.w.heap.size, 0, none⟩) else M.β c, ?_, ?_, ?_⟩
  · simp only [applyB_append, applyB]
    exact I2
  · simp only [applyB_append, applyB]
    refine (f.step.trans s2).mono (fun b hb => ?_)
    rcases hb with hb | hb
    · exact hb.elim
    · exact killed_append.2 (.inr (killed_one.2 hb))
  · simp only [RelV, applyB_append, applyB]
    exact ⟨M.w.heap.size, true, .var g x, lk_st_same _ _ _, ⟨rfl, by simp [inB]⟩, by simp [blkOf], by simp [offs]⟩

theorem newVar_run (t : TypeId) {g : GTy} {x : den g} {cs : List Value} {S : Stab} {W : World} (he : Enc W S g x cs) (w : World) :
    (newVar t (toVal g cs)).run P w = .ok ⟨w.heap.size, 0, none⟩ (w.alloc (.cells cs.toArray t)) := by
  have h : (toVal g cs).cells = cs.toArray := by
    apply Array.toList_inj.1
    rw [toVal_cells he]
  simp [newVar, newRow, h]

theorem alloc_run (TOK : TysOK P τ) {t : TypeId} {i : TInfo} (hi : τ t = some i) (w : World) :
    (Instr.alloc t true (.tuple #[])).run P w = .ok (.pointer (some ⟨w.heap.size, 0, none⟩)) (w.alloc (.cells (zeroCells i.g).toArray t)) := by
  obtain ⟨ti, h1, h2, h3⟩ := (TOK t i hi).info
  have := newVar_run (P := P) t (Enc.zero w (fun _ _ => False) i.g) w
  simp [Instr.alloc, zeroValue, typeInfo, h1, h3, this]

theorem box_run (t : TypeId) {g : GTy} {x : den g} {cs : List Value} {S : Stab} {W : World} (he : Enc W S g x cs) (w : World) :
    (Instr.box t (toVal g cs)).run P w = .ok (.pointer (some ⟨w.heap.size, 0, none⟩)) (w.alloc (.cells cs.toArray t)) := by
  simp [Instr.box, newVar_run (P := P) t he w]

theorem madeCells_eq {c : List Value} : ∀ n : Nat, (madeCells c.toArray (n * c.length)).toList = (List.replicate n c).flatten := by
  intro n
  apply List.ext_getElem?
  intro j
  by_cases hj : j < n * c.length
  · have h0 : 0 < c.length := by
      rcases Nat.eq_zero_or_pos c.length with h | h
      · rw [h] at hj; simp at hj
      · exact h
    have e1 : (madeCells c.toArray (n * c.length)).toList[j]? = some (c.toArray[j % c.toArray.size]!) := by
      simp [madeCells, hj]
    have hm : j % c.length < c.length := Nat.mod_lt _ h0
    rw [e1]
    have : ∀ (n j : Nat), j < n * c.length → (List.replicate n c).flatten[j]? = c[j % c.length]? := by
      intro n
      induction n with
      | zero => intro j hj; simp at hj
      | succ n ih =>
        intro j hj
        rw [List.replicate_succ, List.flatten_cons]
        by_cases hlt : j < c.length
        · rw [List.getElem?_append_left hlt, Nat.mod_eq_of_lt hlt]
        · rw [List.getElem?_append_right (by omega), ih (j - c.length) (by rw [Nat.add_mul, Nat.one_mul] at hj; omega)]
          rw [Nat.mod_eq_sub_mod (a := j) (by omega)]
    rw [this n j hj]
    simp [hm]
  · have l1 : (madeCells c.toArray (n * c.length)).toList.length ≤ j := by simp [madeCells]; omega
    have l2 : (List.replicate n c).flatten.length ≤ j := by simp; omega
    rw [List.getElem?_eq_none l1, List.getElem?_eq_none l2]

theorem zeroCells_len (g : GTy) : (zeroCells g).length = ncell g := (Enc.zero (default : World) (fun _ _ => False) g).len

theorem flatten_add {c : List Value} (a b : Nat) : (List.replicate (a + b) c).flatten = (List.replicate a c).flatten ++ (List.replicate b c).flatten := by
  rw [← List.replicate_append_replicate, List.flatten_append]

theorem makeSlice_sound (TOK : TysOK P τ) (I : InvM R M) {t : TypeId} {g : GTy} {nf bytes el : Nat} (hi : τ t = some ⟨.sl g, nf, bytes, el⟩) {k k' : IntKind} {n c : Int} (key : Nat) (nd : Option Prop)
    (h0 : 0 ≤ n) (h1 : n ≤ c) (h2 : c * bytes ≤ maxRow) :
    ∃ v w', (Instr.makeSlice t (.int k n) (.int k' c)).run P M.w = .ok v w' ∧ After R M ⟨.tip key, [(key, true, .row el g (List.replicate n.toNat (zero g)) false)], nd⟩ v w' := by
  have T := TOK t _ hi
  have hd := T.desc
  simp only at hd
  obtain ⟨e, j, ti, q1, q2, q3, q4, q5, q6, q7, q8, q9⟩ := hd
  obtain ⟨ti', p1, p2, p3⟩ := (TOK e j q3).info
  rw [q5] at p1
  simp only [Option.some.injEq] at p1
  subst p1
  subst q2
  rw [q4] at p2 p3
  have hb : 1 ≤ bytes := by omega
  have hc : c ≤ maxRow := by
    have : c * 1 ≤ c * bytes := Int.mul_le_mul_of_nonneg_left (by omega) (by omega)
    omega
  simp only [maxRow] at hc h2
  have hr := run_make (P := P) M.w t e ti _ q1 q5 p3 k k' n c h0 h1 (by rw [q6, Int.mul_comm]; omega) (by omega)
  have hz : (toVal g (zeroCells g)).cells = (zeroCells g).toArray := by
    apply Array.toList_inj.1
    rw [toVal_cells (Enc.zero M.w M.S g)]
  have hm : madeCells (toVal g (zeroCells g)).cells (c.toNat * ti.size) = ((List.replicate n.toNat (zeroCells g)).flatten ++ (List.replicate (c.toNat - n.toNat) (zeroCells g)).flatten).toArray := by
    apply Array.toList_inj.1
    rw [hz, p2, ← zeroCells_len g, madeCells_eq]
    rw [← flatten_add]
    show _ = (List.replicate (n.toNat + (c.toNat - n.toNat)) (zeroCells g)).flatten
    rw [show n.toNat + (c.toNat - n.toNat) = c.toNat by omega]
  rw [hm] at hr
  have hlb : n.toNat * lbytes g ≤ maxRow := by
    have a1 : n.toNat * lbytes g ≤ c.toNat * bytes := Nat.mul_le_mul (by omega) (by omega)
    have a2 : ((c.toNat * bytes : Nat) : Int) = c * bytes := by rw [Int.natCast_mul, Int.toNat_of_nonneg (by omega)]
    simp only [maxRow]
    omega
  obtain ⟨I2, s2⟩ := I.newRow (g := g) (xs := List.replicate n.toNat (zero g)) ((List.replicate (c.toNat - n.toNat) (zeroCells g)).flatten) c.toNat e key (encL_replicate (Enc.zero M.w M.S g) n.toNat)
    (by simpa using hlb) (by simp [maxRow]; omega) (by simpa using q9) (by simp; omega) (by simp only [maxLen]; omega) (by
      rw [← flatten_add]
      simp [zeroCells_len]
      rw [show n.toNat + (c.toNat - n.toNat) = c.toNat by omega])
  simp only [List.length_replicate] at I2 s2
  refine ⟨_, _, hr, M.S, fun x => if x = key then .slice (some ⟨M.w.heap.size, 0, none⟩) n.toNat c.toNat else M.β x, ?_, ?_, ?_⟩
  · exact I2
  · exact s2.mono (fun b hb => killed_one.2 hb)
  · simp only [RelV, applyB]
    exact ⟨⟨true, _, lk_st_same _ _ _, trivial⟩, by simp⟩

theorem buildSlice_sound (TOK : TysOK P τ) (I : InvM R M) {t : TypeId} {g : GTy} {nf b el : Nat} (hi : τ t = some ⟨.sl g, nf, b, el⟩) {n : Nat} {l : List (Nat × Arg)} {us : List Value} (hu : ArgsR M (l.map (·.2)) us) {x : List (den g)} {ws : List (Nat × Bool × Box)}
    (hin : ∀ y ∈ l, y.1 < n) (h : parts (.arr n g) (fun k => [.idx k]) l (zero (.arr n g)) = some (x, ws)) (key : Nat) (nd : Option Prop) (h1 : n * ncell g ≤ 2 ^ 24) (h2 : n * b ≤ maxRow) (ps : Array (Nat × Value)) (hps : ps.toList = (l.map (·.1)).zip us) :
    ∃ v w', (Instr.buildSlice t n ps).run P M.w = .ok v w' ∧ After R M ⟨.tip key, ws ++ [(key, true, .row el g x false)], nd⟩ v w' := by
  have T := TOK t _ hi
  have hd := T.desc
  simp only at hd
  obtain ⟨e, j, ti, q1, q2, q3, q4, q5, q6, q7, q8, q9⟩ := hd
  obtain ⟨ti', p1, p2, p3⟩ := (TOK e j q3).info
  rw [q5] at p1
  simp only [Option.some.injEq] at p1
  subst p1
  subst q2
  rw [q4] at p2 p3
  obtain ⟨hk, S', f, ds, he, hf⟩ := parts_sound (g := .arr n g) (place := fun i => some (i * ncell g, ncell g)) (ok := fun _ => True) (fun i h _ hp => by
      simp only [pathTy, Option.some.injEq] at hp
      subst hp
      simp [offs]) I hu (fun y hy => ⟨trivial, by simp only [inB]; exact ⟨hin y hy, trivial⟩⟩) (Enc.zero M.w M.S (.arr n g)) h
  have hz : (toVal g (zeroCells g)).cells = (zeroCells g).toArray := by
    apply Array.toList_inj.1
    rw [toVal_cells (Enc.zero M.w M.S g)]
  have hm : madeCells (toVal g (zeroCells g)).cells (n * ti.size) = (zeroCells (.arr n g)).toArray := by
    apply Array.toList_inj.1
    rw [hz, p2, ← zeroCells_len g, madeCells_eq]
    rfl
  have hrun : (Instr.buildSlice t n ps).run P M.w = .ok (.slice (some ⟨M.w.heap.size, 0, none⟩) n n) (M.w.alloc (.cells ds.toArray e)) := by
    rw [← hps, ← hm] at hf
    by_cases h0 : n * ti.size = 0
    · have hm0 : madeCells (toVal g (zeroCells g)).cells (n * ti.size) = #[] := by rw [h0]; simp [madeCells, Array.range_zero']
      rw [hm0] at hf
      have hn0 : n = 0 := by
        rcases Nat.mul_eq_zero.1 h0 with h | h
        · exact h
        · omega
      subst hn0
      simp only [← p2] at hf
      simp [Instr.buildSlice, run_underlying q1, sizeOf, typeInfo, q5, hf, newRow, Array.range_zero']
    · exact run_buildSlice M.w t e n ps ds.toArray ti _ q1 q5 p3 (by rw [p2]; omega) h0 (by rw [p2] at hf ⊢; exact hf)
  obtain ⟨hlen, henc⟩ := he
  have hlen' : x.length = n := hlen
  have hnb : n ≤ maxRow := Nat.le_trans (by rw [← q6] at h2 ⊢; exact Nat.le_mul_of_pos_right n (by omega)) h2
  obtain ⟨I2, s2⟩ := f.inv.newRow (g := g) (xs := x) (cs := ds) [] n e key (by rw [f.w]; exact henc) (by
      rw [hlen']
      exact Nat.le_trans (Nat.mul_le_mul_left _ (by omega)) h2) (by rw [hlen']; exact hnb) q9 (by omega) (by simp only [maxLen]; simp only [maxRow] at hnb; omega) (by
      have := encL_len (fun _ _ hh => hh.len) henc
      simp only [List.append_nil]
      rw [this]
      exact congrArg (· * ncell g) hlen')
  simp only [f.w, List.append_nil, hlen'] at I2 s2
  refine ⟨_, _, hrun, S', fun c => if c = key then .slice (some ⟨M.w.heap.size, 0, none⟩) n n else M.β c, ?_, ?_, ?_⟩
  · simp only [applyB_append, applyB]
    exact I2
  · simp only [applyB_append, applyB]
    refine (f.step.trans s2).mono (fun b hb => ?_)
    rcases hb with hb | hb
    · exact hb.elim
    · exact killed_append.2 (.inr (killed_one.2 hb))
  · simp only [RelV, applyB_append, applyB]
    exact ⟨⟨true, _, lk_st_same _ _ _, trivial⟩, by simp⟩
theorem buildSlice_val (TOK : TysOK P τ) (I : InvM R M) {t : TypeId} {g : GTy} {nf b el : Nat} (hi : τ t = some ⟨.sl g, nf, b, el⟩) {n : Nat} {l : List (Nat × Arg)} {us : List Value} (hu : ArgsR M (l.map (·.2)) us) {x : List (den g)} {ws : List (Nat × Bool × Box)}
    (hin : ∀ y ∈ l, y.1 < n) (h : parts (.arr n g) (fun k => [.idx k]) l (zero (.arr n g)) = some (x, ws)) (nd : Option Prop) (h1 : n * ncell g ≤ 2 ^ 24) (h2 : n * b ≤ maxRow) (ps : Array (Nat × Value)) (hps : ps.toList = (l.map (·.1)).zip us) :
    ∃ v w', (Instr.buildSlice t n ps).run P M.w = .ok v w' ∧ After R M ⟨.val (.sl g) x, ws, nd⟩ v w' := by
  have T := TOK t _ hi
  have hd := T.desc
  simp only at hd
  obtain ⟨e, j, ti, q1, q2, q3, q4, q5, q6, q7, q8, q9⟩ := hd
  obtain ⟨ti', p1, p2, p3⟩ := (TOK e j q3).info
  rw [q5] at p1
  simp only [Option.some.injEq] at p1
  subst p1
  subst q2
  rw [q4] at p2 p3
  obtain ⟨hk, S', f, ds, he, hf⟩ := parts_sound (g := .arr n g) (place := fun i => some (i * ncell g, ncell g)) (ok := fun _ => True) (fun i h _ hp => by
      simp only [pathTy, Option.some.injEq] at hp
      subst hp
      simp [offs]) I hu (fun y hy => ⟨trivial, by simp only [inB]; exact ⟨hin y hy, trivial⟩⟩) (Enc.zero M.w M.S (.arr n g)) h
  have hz : (toVal g (zeroCells g)).cells = (zeroCells g).toArray := by
    apply Array.toList_inj.1
    rw [toVal_cells (Enc.zero M.w M.S g)]
  have hm : madeCells (toVal g (zeroCells g)).cells (n * ti.size) = (zeroCells (.arr n g)).toArray := by
    apply Array.toList_inj.1
    rw [hz, p2, ← zeroCells_len g, madeCells_eq]
    rfl
  have hrun : (Instr.buildSlice t n ps).run P M.w = .ok (.slice (some ⟨M.w.heap.size, 0, none⟩) n n) (M.w.alloc (.cells ds.toArray e)) := by
    rw [← hps, ← hm] at hf
    by_cases h0 : n * ti.size = 0
    · have hm0 : madeCells (toVal g (zeroCells g)).cells (n * ti.size) = #[] := by rw [h0]; simp [madeCells, Array.range_zero']
      rw [hm0] at hf
      have hn0 : n = 0 := by
        rcases Nat.mul_eq_zero.1 h0 with h | h
        · exact h
        · omega
      subst hn0
      simp only [← p2] at hf
      simp [Instr.buildSlice, run_underlying q1, sizeOf, typeInfo, q5, hf, newRow, Array.range_zero']
    · exact run_buildSlice M.w t e n ps ds.toArray ti _ q1 q5 p3 (by rw [p2]; omega) h0 (by rw [p2] at hf ⊢; exact hf)
  obtain ⟨hlen, henc⟩ := he
  have hlen' : x.length = n := hlen
  have hnb : n ≤ maxRow := Nat.le_trans (by rw [← q6] at h2 ⊢; exact Nat.le_mul_of_pos_right n (by omega)) h2
  have hds : ds.length = n * ncell g := by
    have := encL_len (fun _ _ hh => hh.len) henc
    rw [this]
    exact congrArg (· * ncell g) hlen'
  have hnew : (M.w.alloc (.cells ds.toArray e)).heap[M.w.heap.size]? = some (.cells ds.toArray e) := heap_alloc_new M.w _
  obtain ⟨I2, s2⟩ := f.inv.grows (w' := M.w.alloc (.cells ds.toArray e)) (Grows.alloc M.w _) (fun c o => c = M.w.heap.size) (fun c o hc => by
    show M.w.heap.size ≤ c ∧ c < (M.w.alloc (.cells ds.toArray e)).heap.size
    have := (Array.getElem?_eq_some_iff.1 hnew).1
    omega)
  refine ⟨_, _, hrun, _, M.β, I2, (f.step.trans s2).mono (fun b hb => hb.elim False.elim False.elim), ?_⟩
  simp only [RelV]
  refine ⟨[.slice (some ⟨M.w.heap.size, 0, none⟩) n n], ⟨some ⟨M.w.heap.size, 0, none⟩, n, by rw [hlen], by rw [hlen]; exact Nat.le_refl _, ?_, by rw [hlen]; exact hnb, .inr ⟨M.w.heap.size, 0, ds, rfl, encL_mono (fun y c hy => hy.keeps s2.keeps) henc, fun j v hv => ⟨?_, .inr rfl⟩⟩⟩, rfl⟩
  · rw [hlen]
    exact Nat.le_trans (Nat.mul_le_mul_left _ (by omega)) h2
  · simp only [World.cell?, hnew, Nat.zero_add]
    simpa using hv
end
end Go.Ev
/- Literals, 'append', 'max' and 'min'. -/
set_option linter.unusedVariables false
set_option linter.unusedSimpArgs false
namespace Go.Ev
section
variable {P : Program} {τ : Tys} {R : Ref} {M : Mem}

theorem places_of : ∀ (fs : List Field), (∀ f ∈ fs, ∃ ti, P.info? f.type = some ti) → ∃ places, fs.mapM (fun f => (P.info? f.type).map fun i => (f.offset, i.size)) = some places ∧
    ∀ (k : Nat) (f : Field) (ti : TypeInfo), fs[k]? = some f → P.info? f.type = some ti → places[k]? = some (f.offset, ti.size)
  | [], _ => ⟨[], by simp, by simp⟩
  | f :: fs, h => by
    obtain ⟨places, h1, h2⟩ := places_of fs (fun g hg => h g (by simp [hg]))
    obtain ⟨ti, h3⟩ := h f (by simp)
    refine ⟨(f.offset, ti.size) :: places, by simp [List.mapM_cons, h3, h1], fun k g ti' hk hg => ?_⟩
    cases k with
    | zero =>
      simp only [List.getElem?_cons_zero, Option.some.injEq] at hk ⊢
      subst hk
      rw [h3] at hg
      simp only [Option.some.injEq] at hg
      rw [hg]
    | succ k =>
      simp only [List.getElem?_cons_succ] at hk ⊢
      exact h2 k g ti' hk hg

theorem build_sound (TOK : TysOK P τ) (I : InvM R M) {t : TypeId} {i : TInfo} (hi : τ t = some i) {l : List (Nat × Arg)} {us : List Value} (hu : ArgsR M (l.map (·.2)) us) {x : den i.g} {ws : List (Nat × Bool × Box)}
    (hin : partsIn i (l.map (·.1)) = true) (h : parts i.g (partPath i) l (zero i.g) = some (x, ws)) (nd : Option Prop) (ps : Array (Nat × Value)) (hps : ps.toList = (l.map (·.1)).zip us) :
    ∃ v, (Instr.build t ps).run P M.w = .ok v M.w ∧ After R M ⟨.val i.g x, ws, nd⟩ v M.w := by
  have T := TOK t _ hi
  have hd := T.desc
  obtain ⟨ti, p1, p2, p3⟩ := T.info
  obtain ⟨g, nf, by_, el⟩ := i
  have hz : (toVal g (zeroCells g)).cells = (zeroCells g).toArray := by
    apply Array.toList_inj.1
    rw [toVal_cells (Enc.zero M.w M.S g)]
  simp only at hd p2 p3
  cases g with
  | arr n a =>
    obtain ⟨e, j, q1, q2, q3⟩ := hd
    obtain ⟨tj, r1, r2, r3⟩ := (TOK e j q2).info
    rw [q3] at r2
    simp only [partsIn, List.all_eq_true, List.mem_map, Nat.blt_eq] at hin
    obtain ⟨hk, S', f, ds, he, hf⟩ := parts_sound (g := .arr n a) (path := partPath ⟨.arr n a, nf, by_, el⟩) (place := fun i => some (i * tj.size, tj.size)) (ok := fun _ => True) (fun i h _ hp => by
        simp only [partPath, pathTy, Option.some.injEq] at hp
        subst hp
        simp [partPath, offs, r2]) I hu (fun y hy => ⟨trivial, by simp only [partPath, inB]; exact ⟨hin _ ⟨y, hy, rfl⟩, trivial⟩⟩) (Enc.zero M.w M.S (.arr n a)) h
    refine ⟨.agg ds.toArray, run_build M.w t ps ds.toArray ?_, After.froze hk f ?_⟩
    · unfold Program.built
      rw [p1, q1]
      simp only [p3, r1]
      rw [hps, hz]
      exact hf
    · simp only [RelV]
      exact ⟨ds, he, rfl⟩
  | prod a b =>
    obtain ⟨fs, q1, q2, q3, q4, q5⟩ := hd
    simp only [partsIn, List.all_eq_true, List.mem_map, Nat.blt_eq] at hin
    have hinfo : ∀ f ∈ fs.toList, ∃ ti, P.info? f.type = some ti := by
      intro f hf
      obtain ⟨k, hk⟩ := List.mem_iff_getElem?.1 hf
      obtain ⟨_, _, _, j, r1, _, _⟩ := q5 k f (by simpa using hk)
      obtain ⟨tj, s1, _⟩ := (TOK _ _ r1).info
      exact ⟨tj, s1⟩
    obtain ⟨places, k1, k2⟩ := places_of fs.toList hinfo
    have hplace : ∀ (i : Nat) h, i < nf → pathTy (.prod a b) (fieldPath nf i) = some h → places.toArray[i]? = some (offs (.prod a b) (fieldPath nf i), ncell h) ∧ inB (.prod a b) (fieldPath nf i) := by
      intro i h hlt hp
      have hlt' : i < fs.size := by omega
      obtain ⟨r1, r2, r3, j, r4, r5, r6⟩ := q5 i fs[i] (by simp [hlt'])
      obtain ⟨tj, s1, s2, _⟩ := (TOK _ _ r4).info
      rw [hp] at r5
      simp only [Option.some.injEq] at r5
      have := k2 i fs[i] tj (by simp [hlt']) s1
      rw [r2, s2, ← r5] at this
      exact ⟨by simpa using this, r3⟩
    have hpt : ∀ y ∈ l, inB (.prod a b) (fieldPath nf y.1) := by
      intro y hy
      have hlt := hin _ ⟨y, hy, rfl⟩
      have hlt' : y.1 < fs.size := by omega
      obtain ⟨r1, r2, r3, j, r4, r5, r6⟩ := q5 y.1 fs[y.1] (by simp [hlt'])
      exact r3
    obtain ⟨hk, S', f, ds, he, hf⟩ := parts_sound (g := .prod a b) (path := partPath ⟨.prod a b, nf, by_, el⟩) (place := (places.toArray[·]?)) (ok := fun i => i < nf) (fun i h hlt hp => by
        exact (hplace i h hlt hp).1) I hu (fun y hy => ⟨hin _ ⟨y, hy, rfl⟩, hpt y hy⟩) (Enc.zero M.w M.S (.prod a b)) h
    refine ⟨.agg ds.toArray, run_build M.w t ps ds.toArray ?_, After.froze hk f ?_⟩
    · unfold Program.built
      rw [p1, q1]
      simp only [p3, k1]
      rw [hps, hz]
      exact hf
    · simp only [RelV]
      exact ⟨ds, he, rfl⟩
  | bool => simp [partsIn] at hin
  | int _ => simp [partsIn] at hin
  | str => simp [partsIn] at hin
  | unit => simp [partsIn] at hin
  | sl _ => simp [partsIn] at hin
  | err => simp [partsIn] at hin

theorem rowOf_sound (I : InvM R M) {g : GTy} {va : AV} {u : Value} (ha : RelV M va u) {ys : List (den g)} (h : rowOf g (argOf M.bs va) = some ys) :
    ∃ ad c ds, u = .slice ad ys.length c ∧ encL (Enc M.w M.S g) ys ds ∧ ys.length ≤ maxRow ∧ (ys = [] ∨ ∃ a, ad = some a ∧ ∀ (j : Nat) v, ds[j]? = some v → M.w.cell? (a.add j) = some v) := by
  have hadd : ∀ (blk off j : Nat), (⟨blk, off, none⟩ : Addr).add j = ⟨blk, off + j, none⟩ := by
    intro blk off j
    unfold Addr.add
    split
    · rename_i hj; subst hj; rfl
    · rfl
  unfold rowOf at h
  split at h
  · rename_i b t h' xs fz hargeq
    obtain ⟨rfl, hbox⟩ := argOf_eq hargeq
    split at h
    · rename_i e _
      subst e
      simp only [Option.some.injEq] at h
      subst h
      obtain ⟨⟨d, hb⟩, rfl⟩ := relTip ha hbox
      obtain ⟨_, _, _, _, hmax, _⟩ := I.boxes b d _ hb
      rcases rowCells I hb with ⟨hn, rfl⟩ | ⟨blk, cap, cs, hβ, hcap, h6, h7⟩
      · exact ⟨none, 0, [], by rw [hn]; rfl, rfl, by simp [maxRow], .inl rfl⟩
      · exact ⟨_, cap, cs, hβ, h6, hmax, .inr ⟨_, rfl, fun j v hv => by rw [hadd, Nat.zero_add]; exact h7 j v hv⟩⟩
    · cases h
  · rename_i h' xs b hargeq
    obtain ⟨rfl, hbox⟩ := argOf_eq hargeq
    split at h
    · rename_i e _
      subst e
      simp only [Option.some.injEq] at h
      subst h
      obtain ⟨ad, cap, rfl, h2, h3, h4, h5⟩ := relSl ha
      rcases h5 with rfl | ⟨blk, off, cs, rfl, h6, h7⟩
      · exact ⟨ad, cap, [], rfl, rfl, h4, .inl rfl⟩
      · exact ⟨_, cap, cs, rfl, h6, h4, .inr ⟨_, rfl, fun j v hv => by rw [hadd]; exact (h7 j v hv).1⟩⟩
    · cases h
  · rename_i b hargeq
    obtain ⟨rfl, hbox⟩ := argOf_eq hargeq
    simp only [Option.some.injEq] at h
    subst h
    simp only [RelV] at ha
    subst ha
    exact ⟨none, 0, [], rfl, rfl, by simp [maxRow], .inl rfl⟩
  · cases h

/-- Fewer boxes. -/
theorem InvM.sub (I : InvM R M) {bs : Bxs} (h : ∀ b x, lk b bs = some x → lk b M.bs = some x) : InvM R { M with bs := bs } :=
  ⟨I.os, I.tape, I.output, I.size, I.frame, I.old, I.here, fun b d B hb => I.boxes b d B (h b _ hb), fun b c d B d' B' hne hb hc => I.sep b c d B d' B' hne (h b _ hb) (h c _ hc)⟩

theorem lk_drop {α : Type} (key : Nat) : ∀ (l : List (Nat × α)) (b : Nat), lk b (l.filter fun x => !(Nat.beq x.1 key)) = if b = key then none else lk b l
  | [], b => by simp [lk]
  | (j, v) :: l, b => by
    have ih := lk_drop key l b
    by_cases hj : j = key
    · subst hj
      have : Nat.beq j j = true := Nat.beq_refl j
      simp only [List.filter_cons, this, Bool.not_true, Bool.false_eq_true, if_false, ih]
      by_cases hb : b = j
      · simp [hb]
      · have : Nat.beq j b = false := by
          cases hh : Nat.beq j b with
          | false => rfl
          | true => exact absurd (Nat.eq_of_beq_eq_true hh).symm hb
        simp [hb, lk, this]
    · have hk : Nat.beq j key = false := by
        cases hh : Nat.beq j key with
        | false => rfl
        | true => exact absurd (Nat.eq_of_beq_eq_true hh) hj
      simp only [List.filter_cons, hk, Bool.not_false, if_true, lk]
      cases hjb : Nat.beq j b with
      | true =>
        have := Nat.eq_of_beq_eq_true hjb
        subst this
        simp [hj]
      | false => exact ih

theorem appendEff_sound (TOK : TysOK P τ) (I : InvM R M) {t ty : TypeId} {g : GTy} {nf b el : Nat} (hi : τ t = some ⟨.sl g, nf, b, el⟩) {va vx : AV} {u ux : Value} (ha : RelV M va u) (hx : RelV M vx ux) {key : Nat} {e : Eff}
    (h : appendEff key ⟨.sl g, nf, b, el⟩ g (argOf M.bs va) (argOf M.bs vx) = some e) (hn : e.ok) :
    ∃ v w', (Builtin.append_ #[t, t] ty #[u, ux]).run P M.w = .ok v w' ∧ After R M e v w' := by
  have T := TOK t _ hi
  have hd := T.desc
  simp only at hd
  obtain ⟨el', j, ti, q1, q2, q3, q4, q5, q6, q7, q8, q9⟩ := hd
  subst q2
  obtain ⟨ti', p1, p2, p3⟩ := (TOK el' j q3).info
  rw [q5] at p1
  simp only [Option.some.injEq] at p1
  subst p1
  rw [q4] at p2 p3
  have hzs : (toVal g (zeroCells g)).cells.size = ncell g := by
    have := toVal_cells (Enc.zero M.w M.S g)
    rw [← Array.length_toList, this, zeroCells_len]
  have hone : ∀ n : Nat, n * b ≤ maxRow → n ≤ maxRow := fun n hn => Nat.le_trans (Nat.le_mul_of_pos_right n (by omega)) hn
  unfold appendEff at h
  simp only at h
  split at h
  · cases h
  rename_i ys hys
  obtain ⟨ad, c, ds, rfl, h1, h2, h3⟩ := rowOf_sound I hx hys
  split at h
  · rename_i b' t' h' xs fz hargeq
    obtain ⟨rfl, hbox⟩ := argOf_eq hargeq
    split at h
    · rename_i e1 e2 c1 c2
      clear c1 c2
      simp only at e1
      subst e1
      subst e2
      simp only [Option.some.injEq] at h
      subst h
      obtain ⟨⟨d, hb⟩, rfl⟩ := relTip ha hbox
      obtain ⟨cs, r1, r2, r3, r4, r5, r6⟩ := I.boxes b' d _ hb
      have hneed := hn _ rfl
      obtain ⟨v', w', k1, k2, k3⟩ := I.append (P := P) q1 q5 p3 p2 hzs q9 q7 r1 r2 b' (.inr ⟨d, fz, hb, rfl⟩) fz (fun d' fz' hb' => by
          rw [hb] at hb'
          simp only [Option.some.injEq, Prod.mk.injEq, Box.row.injEq] at hb'
          exact hb'.2.2.2.2) (ty := ty) (c := c) h1 h3 (by rw [q6]; exact hneed) (hone _ hneed)
      refine ⟨v', w', k1, M.S, _, k2, k3.mono (fun x hx => killed_one.2 hx), ?_⟩
      simp only [RelV, applyB]
      exact ⟨⟨true, _, lk_st_same _ _ _, trivial⟩, by simp⟩
    · cases h
  · rename_i bx hargeq
    obtain ⟨rfl, hbox⟩ := argOf_eq hargeq
    simp only [Option.some.injEq] at h
    subst h
    simp only [RelV] at ha
    subst ha
    have hneed := hn _ rfl
    have I0 : InvM R { M with bs := M.bs.filter fun x => !(Nat.beq x.1 key) } := I.sub (fun b x hb => by
      rw [lk_drop] at hb
      split at hb
      · cases hb
      · exact hb)
    obtain ⟨v', w', k1, k2, k3⟩ := I0.append (P := P) (g := g) (xs := []) (cs := []) q1 q5 p3 p2 hzs q9 q7 (World.ownsRow_nil _ _ _ _) rfl key (.inl ⟨rfl, fun d B hb => by
        rw [lk_drop] at hb
        simp at hb⟩) false (fun d' fz' hb' => by
        rw [lk_drop] at hb'
        simp at hb') (ty := ty) (c := c) h1 h3 (by simpa [q6] using hneed) (by simpa using hone _ hneed)
    have hlook : ∀ b x, lk b (st' key (true, Box.row el' g ys false) M.bs) = some x → lk b (st' key (true, Box.row el' g ([] ++ ys) false) (M.bs.filter fun x => !(Nat.beq x.1 key))) = some x := by
      intro b x hb
      rw [lk_st] at hb ⊢
      split
      · rename_i hbk
        rw [if_pos hbk] at hb
        exact hb
      · rename_i hbk
        rw [if_neg hbk] at hb
        rw [lk_drop, if_neg hbk]
        exact hb
    refine ⟨v', w', k1, M.S, _, k2.sub hlook, ⟨k3.keeps, fun b' d B hb hK => ?_⟩, ?_⟩
    · have hne : b' ≠ key := fun hh => hK (killed_one.2 hh)
      refine ⟨d, B, ?_, by simp [hne], Box.le_refl B⟩
      simp only [applyB, lk_st, if_neg hne]
      exact hb
    · simp only [RelV, applyB]
      exact ⟨⟨true, _, lk_st_same _ _ _, trivial⟩, by simp⟩
  · cases h

theorem maxmin_sound (isMax : Bool) {k : IntKind} : ∀ {l : List AV} {us : List Value} {acc m : Int}, k.has acc → RelL M l us → maxmin isMax k (l.map (argOf M.bs)) acc = some m →
    (us.foldlM (if isMax then Builtin.max2 else Builtin.min2) (.int k acc)).run P M.w = .ok (.int k m) M.w ∧ k.has m
  | [], us, acc, m, ha, hr, h => by
    cases us with
    | nil =>
      simp only [List.map_nil, maxmin, Option.some.injEq] at h
      subst h
      exact ⟨by simp, ha⟩
    | cons _ _ => simp [RelL] at hr
  | v :: l, us, acc, m, ha, hr, h => by
    cases us with
    | nil => simp [RelL] at hr
    | cons u us =>
      simp only [RelL] at hr
      simp only [List.map_cons, argOf] at h
      unfold maxmin at h
      split at h
      · rename_i heq; simp at heq
      · rename_i acc' k' n bx l' heq
        simp only [List.cons.injEq, Prod.mk.injEq] at heq
        obtain ⟨⟨rfl, _⟩, rfl⟩ := heq
        split at h
        · rename_i hk _
          subst hk
          obtain ⟨rfl, hn⟩ := relInt hr.1
          cases isMax with
          | true =>
            simp only [if_true] at h ⊢
            have ih := maxmin_sound true (by split <;> assumption) hr.2 h
            simp only [if_true] at ih
            refine ⟨?_, ih.2⟩
            rw [← ih.1]
            simp [List.foldlM_cons, Builtin.max2]
          | false =>
            simp only [Bool.false_eq_true, if_false] at h ⊢
            have ih := maxmin_sound false (by split <;> assumption) hr.2 h
            simp only [Bool.false_eq_true, if_false] at ih
            refine ⟨?_, ih.2⟩
            rw [← ih.1]
            simp [List.foldlM_cons, Builtin.min2]
        · cases h
      · cases h
end
end Go.Ev
/- Values in range. -/
set_option linter.unusedVariables false
set_option linter.unusedSimpArgs false
namespace Go.Ev

def wt : (g : GTy) → den g → Prop
  | .bool, _ => True
  | .err, _ => True
  | .int k, n => k.has n
  | .str, s => List.length (α := UInt8) s ≤ maxStr
  | .unit, _ => True
  | .prod a b, x => wt a x.1 ∧ wt b x.2
  | .arr n a, xs => List.length (α := den a) xs = n ∧ ∀ x : den a, x ∈ (show List (den a) from xs) → wt a x
  | .sl a, xs => List.length (α := den a) xs ≤ maxRow ∧ List.length (α := den a) xs * lbytes a ≤ maxRow ∧ ∀ x : den a, x ∈ (show List (den a) from xs) → wt a x

/-- Texts and slices that are not long. -/
def small : (g : GTy) → den g → Prop
  | .bool, _ => True
  | .err, _ => True
  | .int _, _ => True
  | .str, s => List.length (α := UInt8) s ≤ 1048576
  | .unit, _ => True
  | .prod a b, x => small a x.1 ∧ small b x.2
  | .arr n a, xs => ∀ x : den a, x ∈ (show List (den a) from xs) → small a x
  | .sl a, xs => List.length (α := den a) xs ≤ 1048576 ∧ ∀ x : den a, x ∈ (show List (den a) from xs) → small a x

theorem encL_all {α : Type} {f : α → List Value → Prop} {p : α → Prop} (h : ∀ x c, f x c → p x) : ∀ {xs : List α} {cs : List Value}, encL f xs cs → ∀ x, x ∈ xs → p x
  | [], _, _, x, hx => by cases hx
  | y :: ys, _, ⟨c, d, _, a, b⟩, x, hx => by
    rcases List.mem_cons.1 hx with rfl | hx
    · exact h _ _ a
    · exact encL_all h b x hx

theorem Enc.wt {w : World} {S : Stab} : ∀ {g : GTy} {x : den g} {cs : List Value}, Enc w S g x cs → Ev.wt g x
  | .bool, _, _, _ => trivial
  | .err, _, _, _ => trivial
  | .int _, _, _, e => e.2
  | .str, _, _, e => e.2
  | .unit, _, _, _ => trivial
  | .prod _ _, _, _, ⟨c, d, e, a, b⟩ => ⟨Enc.wt a, Enc.wt b⟩
  | .arr _ a, xs, _, ⟨e, h⟩ => ⟨e, fun x hx => encL_all (f := Enc w S a) (p := Ev.wt a) (fun _ _ k => Enc.wt k) h x hx⟩
  | .sl a, xs, _, ⟨ad, cap, e, h1, h2, h3, h4⟩ => ⟨h3, h2, by
      rcases h4 with h4 | ⟨blk, off, ds, e1, e2, e3⟩
      · intro x hx
        rw [show (show List (den a) from xs) = [] from h4] at hx
        cases hx
      · exact fun x hx => encL_all (f := Enc w S a) (p := Ev.wt a) (fun _ _ k => Enc.wt k) e2 x hx⟩

def wtD : (gs : List GTy) → dens gs → Prop
  | [], _ => True
  | [g], x => wt g x
  | g :: h :: gs, x => wt g x.1 ∧ wtD (h :: gs) x.2

def smallD : (gs : List GTy) → dens gs → Prop
  | [], _ => True
  | [g], x => small g x
  | g :: h :: gs, x => small g x.1 ∧ smallD (h :: gs) x.2

theorem EncD.wt {w : World} {S : Stab} : ∀ {gs : List GTy} {x : dens gs} {us : List Value}, EncD w S gs x us → wtD gs x
  | [], _, _, _ => trivial
  | [_], _, _, ⟨cs, h1, _⟩ => h1.wt
  | _ :: _ :: _, _, _, ⟨cs, us', h1, _, h3⟩ => ⟨h1.wt, EncD.wt h3⟩
end Go.Ev
/- Plain facts on integers of a kind. -/
set_option linter.unusedVariables false
set_option linter.unusedSimpArgs false
namespace Go.Ev

theorem has_u8 (n : Int) : IntKind.u8.has n ↔ 0 ≤ n ∧ n ≤ 255 := by simp [IntKind.has, IntKind.min, IntKind.max, IntKind.signed, IntKind.bits]
theorem has_u32 (n : Int) : IntKind.u32.has n ↔ 0 ≤ n ∧ n ≤ 4294967295 := by simp [IntKind.has, IntKind.min, IntKind.max, IntKind.signed, IntKind.bits]
theorem has_u64 (n : Int) : IntKind.u64.has n ↔ 0 ≤ n ∧ n ≤ 18446744073709551615 := by simp [IntKind.has, IntKind.min, IntKind.max, IntKind.signed, IntKind.bits]
theorem has_i64 (n : Int) : IntKind.i64.has n ↔ -9223372036854775808 ≤ n ∧ n ≤ 9223372036854775807 := by simp [IntKind.has, IntKind.min, IntKind.max, IntKind.signed, IntKind.bits]
theorem has_i32 (n : Int) : IntKind.i32.has n ↔ -2147483648 ≤ n ∧ n ≤ 2147483647 := by simp [IntKind.has, IntKind.min, IntKind.max, IntKind.signed, IntKind.bits]

theorem wrap_u8 (n : Int) : IntKind.u8.wrap n = n % 256 := by simp [IntKind.wrap, IntKind.signed, IntKind.bits]
theorem wrap_u64 (n : Int) : IntKind.u64.wrap n = n % 18446744073709551616 := by simp [IntKind.wrap, IntKind.signed, IntKind.bits]
theorem wrap_id {k : IntKind} {n : Int} (h : k.has n) : k.wrap n = n := by
  cases k <;> simp [IntKind.has, IntKind.min, IntKind.max, IntKind.signed, IntKind.bits] at h <;> simp [IntKind.wrap, IntKind.signed, IntKind.bits] <;> (try split) <;> omega
theorem i64_id {n : Int} (h : -9223372036854775808 ≤ n) (h' : n ≤ 9223372036854775807) : IntKind.i64.wrap n = n := wrap_id ((has_i64 n).2 ⟨h, h'⟩)
theorem u64_id {n : Int} (h : 0 ≤ n) (h' : n ≤ 18446744073709551615) : IntKind.u64.wrap n = n := wrap_id ((has_u64 n).2 ⟨h, h'⟩)
theorem u32_id {n : Int} (h : 0 ≤ n) (h' : n ≤ 4294967295) : IntKind.u32.wrap n = n := wrap_id ((has_u32 n).2 ⟨h, h'⟩)
theorem u8_id {n : Int} (h : 0 ≤ n) (h' : n ≤ 255) : IntKind.u8.wrap n = n := wrap_id ((has_u8 n).2 ⟨h, h'⟩)

theorem ofInt_toNat {w : Nat} {n : Int} (h0 : 0 ≤ n) (h1 : n < 2 ^ w) : (BitVec.ofInt w n).toNat = n.toNat := by
  rw [BitVec.toNat_ofInt]
  have : n % (2 ^ w : Nat) = n := Int.emod_eq_of_lt h0 (by exact_mod_cast h1)
  rw [this]

theorem and_nat {k : IntKind} {a b : Int} (ha : 0 ≤ a) (ha' : a < 2 ^ k.bits) (hb : 0 ≤ b) (hb' : b < 2 ^ k.bits) (h : k.has (a.toNat &&& b.toNat : Nat)) : bitsOp .and k a b = ((a.toNat &&& b.toNat : Nat) : Int) := by
  unfold bitsOp
  simp only [BitVec.toNat_and, ofInt_toNat ha ha', ofInt_toNat hb hb']
  exact wrap_id h
theorem or_nat {k : IntKind} {a b : Int} (ha : 0 ≤ a) (ha' : a < 2 ^ k.bits) (hb : 0 ≤ b) (hb' : b < 2 ^ k.bits) (h : k.has (a.toNat ||| b.toNat : Nat)) : bitsOp .or k a b = ((a.toNat ||| b.toNat : Nat) : Int) := by
  unfold bitsOp
  simp only [BitVec.toNat_or, ofInt_toNat ha ha', ofInt_toNat hb hb']
  exact wrap_id h
end Go.Ev
/- A text's iterator, told of boxes. -/
set_option linter.unusedVariables false
set_option linter.unusedSimpArgs false
namespace Go.Ev
theorem i32_id {n : Int} (h : -2147483648 ≤ n) (h' : n ≤ 2147483647) : IntKind.i32.wrap n = n := wrap_id ((has_i32 n).2 ⟨h, h'⟩)
theorem decode_pos (s : ByteArray) (i : Nat) : 1 ≤ (Utf8.decode s i).2 ∧ (Utf8.decode s i).1 < 2097152 := by
  unfold Utf8.decode Utf8.runeError
  simp only
  repeat' split
  all_goals (first | exact ⟨by decide, by decide⟩ | exact ⟨Nat.le_of_ble_eq_true rfl, by simp only []; omega⟩)
theorem decL_pos (y : List UInt8) (i : Nat) : 1 ≤ (decL y i).2 := (decode_pos _ _).1
theorem decL_lt (y : List UInt8) (i : Nat) : (decL y i).1 < 2097152 := (decode_pos _ _).2
section
variable {P : Program} {R : Ref} {M : Mem}
theorem After.newIter (I : InvM R M) (key : Nat) {y : List UInt8} (h : y.length ≤ maxStr) (n : Option Prop) :
    After R M ⟨.ptr key .unit [], [(key, true, .iter y 0)], n⟩ (.pointer (some ⟨M.w.heap.size, 0, none⟩)) (M.w.iter ⟨⟨y⟩⟩ 0) := by
  obtain ⟨I2, s2⟩ := I.newIter key h
  refine ⟨M.S, fun c => if c = key then .pointer (some ⟨M.w.heap.size, 0, none⟩) else M.β c, I2, s2.mono (fun b hb => killed_one.2 hb), ?_⟩
  simp only [RelV, applyB]
  exact ⟨M.w.heap.size, true, .iter y 0, lk_st_same _ _ _, ⟨rfl, rfl⟩, by simp [blkOf], by simp [offs]⟩
theorem next_sound (I : InvM R M) {ρ : Operand → Value} {x : Operand} {b : Nat} {g : GTy} {p : List PStep} {y : List UInt8} {pos : Nat} (h : RelV M (.ptr b g p) (ρ x)) (hbox : (lk b M.bs).map (·.2) = some (.iter y pos)) (nd : Option Prop) {o : Oper} (ho : o.op = .next x true) :
    Yields P ρ o M.w (After R M ⟨.nxt (Nat.blt pos (List.length (α := UInt8) y)) (pos : Int) ((decL y pos).1 : Int), [(b, false, .iter y (decN y pos))], nd⟩) := by
  simp only [RelV] at h
  obtain ⟨blk, d, B, h1, h2, h3, hu⟩ := h
  rw [h1] at hbox
  simp only [Option.map_some, Option.some.injEq] at hbox
  subst hbox
  obtain ⟨rfl, rfl⟩ := h2
  obtain ⟨blk', hv, q2, q3, q4, q5⟩ := I.boxes b d _ h1
  have hbb : blk' = blk := by rw [hv] at h3; simpa [blkOf] using h3
  subst hbb
  have hlt : blk' < M.w.heap.size := (Array.getElem?_eq_some_iff.1 q2).1
  have hu' : ρ x = .pointer (some ⟨blk', 0, none⟩) := hu
  have only : ∀ blk, M.β b = .pointer (some ⟨blk, 0, none⟩) → blk = blk' := fun blk hb => by rw [hv] at hb; simp at hb; exact hb.symm
  by_cases hpos : pos < y.length
  · have hs : pos < (ByteArray.mk ⟨y⟩).size := by show pos < y.length; exact hpos
    have hb : Nat.blt pos y.length = true := by rw [Nat.blt_eq]; exact hpos
    have hN : decN y pos = pos + (decL y pos).2 := by unfold decN; rw [hb]; rfl
    obtain ⟨J, st⟩ := I.nextIter h1 (pos + (decL y pos).2) (w' := { M.w with heap := M.w.heap.setIfInBounds blk' (.stringIter ⟨⟨y⟩⟩ (pos + (decL y pos).2)) }) rfl rfl rfl (by simp) (fun blk hblk => by
      rw [only blk hblk]
      exact ⟨by show (M.w.heap.setIfInBounds blk' _)[blk']? = _; simp [hlt], fun k hk => by simp [Array.getElem?_setIfInBounds, Ne.symm hk]⟩)
    refine .value (v := .tuple #[.bool true, .int .i64 (pos : Int), .int .i32 ((decL y pos).1 : Int)]) (w' := { M.w with heap := M.w.heap.setIfInBounds blk' (.stringIter ⟨⟨y⟩⟩ (pos + (decL y pos).2)) }) ?_ ?_
    · unfold execOp
      rw [ho]
      simp only [hu', Instr.next, getObj, setObj, Sem.run_bind, Sem.run, q2, Result.andThen, hs, if_true]
      simp [goInt, Sem.run, q2, decL]
    · rw [hb, hN]
      refine ⟨M.S, M.β, J, st.mono (fun c hc => hc.elim), ?_⟩
      simp only [RelV]
      have hr := decL_lt y pos
      have hm : y.length ≤ 4611686018427387904 := q3
      exact ⟨_, rfl, rfl, fun _ => ⟨rfl, rfl, (has_i64 _).2 ⟨by omega, by omega⟩, (has_i32 _).2 ⟨by omega, by omega⟩⟩⟩
  · have hs : ¬ pos < (ByteArray.mk ⟨y⟩).size := by show ¬ pos < y.length; exact hpos
    have hb : Nat.blt pos y.length = false := by cases hh : Nat.blt pos y.length with | false => rfl | true => exact absurd (by rw [Nat.blt_eq] at hh; exact hh) hpos
    have hN : decN y pos = pos := by unfold decN; rw [hb]; rfl
    obtain ⟨J, st⟩ := I.nextIter h1 pos (w' := M.w) rfl rfl rfl (Nat.le_refl _) (fun blk hblk => by
      rw [only blk hblk]
      exact ⟨q2, fun _ _ => rfl⟩)
    refine .value (v := .tuple #[.bool false]) (w' := M.w) ?_ ?_
    · unfold execOp
      rw [ho]
      simp [hu', Instr.next, getObj, Sem.run, q2, hs]
    · rw [hb, hN]
      refine ⟨M.S, M.β, J, st.mono (fun c hc => hc.elim), ?_⟩
      simp only [RelV]
      exact ⟨_, rfl, rfl, fun h => by cases h⟩
end
end Go.Ev
/- Windows over byte arrays: sliced, told as texts, copied into. -/
set_option linter.unusedVariables false
set_option linter.unusedSimpArgs false
namespace Go.Ev
def byCells (s : List UInt8) : List Value := s.map fun b => Value.int .u8 (b.toNat : Int)
theorem enc_by {w : World} {S : Stab} : ∀ s : List UInt8, encL (Enc w S (.int .u8)) (strToBytes s) (byCells s)
  | [] => rfl
  | b :: s => by
    have := b.toNat_lt
    exact ⟨[.int .u8 (b.toNat : Int)], byCells s, rfl, ⟨rfl, by simp only [IntKind.has, IntKind.min, IntKind.max, IntKind.signed, IntKind.bits]; simp; omega⟩, enc_by s⟩
section
variable {P : Program} {τ : Tys} {R : Ref} {M : Mem}
theorem winBox {b lo : Nat} {n : Nat} {x : den (.arr n (.int .u8))} {u : Value} (ha : RelV M (.win b lo) u) (hb : (lk b M.bs).map (·.2) = some (.var (.arr n (.int .u8)) x)) :
    ∃ d blk, lk b M.bs = some (d, .var (.arr n (.int .u8)) x) ∧ lo < n ∧ blkOf (M.β b) = some blk ∧ u = .slice (some ⟨blk, lo, none⟩) (n - lo) (n - lo) := by
  simp only [RelV] at ha
  obtain ⟨m, blk, d, B, h1, h2, h3, h4, h5⟩ := ha
  rw [h1] at hb
  simp only [Option.map_some, Option.some.injEq] at hb
  subst hb
  have e := h2.1
  simp only [GTy.arr.injEq] at e
  obtain ⟨rfl, _⟩ := e
  exact ⟨d, blk, h1, h3, h4, h5⟩
theorem winEff_sound (TOK : TysOK P τ) (I : InvM R M) {t : TypeId} {i : TInfo} (hi : τ t = some i) {va : AV} {u : Value} (ha : RelV M va u) {bs : Option Int × Option Int × Option Int} {lo hi' mx : Option Value} (hb : IntOpt bs.1 lo ∧ IntOpt bs.2.1 hi' ∧ IntOpt bs.2.2 mx) {e : Eff}
    (h : winEff i.g (argOf M.bs va) (some bs) = some e) (hn : e.ok) : ∃ v, (Instr.sliceAt t u lo hi' mx).run P M.w = .ok v M.w ∧ After R M e v M.w := by
  have hd := (TOK t i hi).desc
  obtain ⟨blo, bhi, bmx⟩ := bs
  obtain ⟨hb1, hb2, hb3⟩ := hb
  obtain ⟨g, nf, by_, el⟩ := i
  unfold winEff at h
  simp only at h hd
  split at h
  · rename_i _ _ _ m b g' n x lo0 hargeq hbs
    simp only [Option.some.injEq, Prod.mk.injEq] at hbs
    obtain ⟨rfl, rfl, rfl⟩ := hbs
    split at h
    · rename_i hmn _
      subst hmn
      simp only [Option.some.injEq] at h
      subst h
      obtain ⟨hlo0, hlo1⟩ := hn _ rfl
      have ha' := ArgR.of ha
      rw [hargeq] at ha'
      obtain ⟨blk, d, k1, _, k2, k3, rfl⟩ := boxVar ha'
      obtain ⟨rfl, hbox⟩ := argOf_eq hargeq
      simp only at hd
      obtain ⟨ee, j, r1, r2, r3⟩ := hd
      obtain ⟨ti', hti', hsz, _⟩ := (TOK _ _ r2).info
      rw [r3] at hsz
      have hloN : loOf blo = (blo.getD 0).toNat := by cases blo <;> rfl
      have hsb := sliceBounds_run (P := P) (isSlice := false) (n := m) (c := m) hb1 hb2 hb3 (Nat.le_refl _) (by rw [hloN]; simp only [hiOf]; omega) (by simp only [hiOf]; omega) (fun i hi => by subst hi; exact hlo0) (fun j hj => by cases hj) (fun m hm => by cases hm) M.w
      refine ⟨.slice (some ⟨blk, (blo.getD 0).toNat, none⟩) (m - (blo.getD 0).toNat) (m - (blo.getD 0).toNat), ?_, After.pure I ?_⟩
      · simp only [Instr.sliceAt, Sem.run_bind, run_underlying r1, Result.andThen_ok, Instr.sureAddr, Sem.run_pure, hsb, run_sizeOf' hti']
        simp only [offs, hloN, hiOf]
        rw [if_neg (by omega), hsz]
        simp [Addr.add_lit, ncell]
      · simp only [RelV]
        exact ⟨m, blk, d, _, k1, ⟨rfl, inB_nil _⟩, by omega, k3, rfl⟩
    · cases h
  · cases h
theorem varBytes (I : InvM R M) {b blk : Nat} {d : Bool} {n : Nat} {x : den (.arr n (.int .u8))} (hb : lk b M.bs = some (d, .var (.arr n (.int .u8)) x)) (hβ : blkOf (M.β b) = some blk) :
    ∃ cs e, M.w.heap[blk]? = some (.cells cs e (0, 0)) ∧ List.length (α := Int) x = n ∧ encL (Enc M.w M.S (.int .u8)) x cs.toList ∧ cs.toList = (show List Int from x).map (Value.int .u8) := by
  obtain ⟨blk', cs, e, hv', h2, h3, h4, h5⟩ := I.boxes b d _ hb
  have hbb : blk' = blk := by rw [hv'] at hβ; simpa [blkOf] using hβ
  subst hbb
  exact ⟨cs, e, h2, h3.1, h3.2, bytes_cells h3.2⟩
theorem winConv_sound (TOK : TysOK P τ) (I : InvM R M) {s d : TypeId} {j i : TInfo} (hj : τ s = some j) (hi : τ d = some i) {va : AV} {u : Value} (ha : RelV M va u) {e : Eff} (h : winConv j.g i.g (argOf M.bs va) = some e) :
    ∃ v, (convert s d u).run P M.w = .ok v M.w ∧ e.wr = [] ∧ RelV M e.av v := by
  have hd := (TOK d i hi).desc
  have hs := (TOK s j hj).desc
  obtain ⟨g, nf, by_, el⟩ := i
  obtain ⟨g', nf', by', el'⟩ := j
  unfold winConv at h
  simp only at h hd hs
  split at h
  · rename_i _ _ _ b lo n x hargeq
    split at h
    · rename_i hble
      simp only [v0, Option.some.injEq] at h
      subst h
      obtain ⟨rfl, hbox⟩ := argOf_eq hargeq
      obtain ⟨dd, blk, k1, k2, k3, rfl⟩ := winBox ha hbox
      obtain ⟨ee, jj, ti, q1, _, q2, q3, _⟩ := hs
      have he := (TOK _ _ q2).desc
      rw [q3] at he
      obtain ⟨cs, e0, hc, hl, henc, hcs⟩ := varBytes I k1 k3
      have hle : n ≤ 65536 := by simpa using hble
      have hdl : (List.drop (α := Int) lo x).length = n - lo := by rw [List.length_drop, hl]
      refine ⟨.string ⟨⟨bytesToStr (List.drop (α := Int) lo x)⟩⟩, ?_, rfl, mkStr ?_⟩
      · rw [run_convert_bytes_string _ s d ee _ _ _ q1 he hd]
        have := run_bytesToString (P := P) M.w ⟨blk, lo, none⟩ (n - lo) (n - lo) (List.drop (α := Int) lo x) (by
          have hlen2 : ((List.drop (α := Int) lo x).map (Value.int .u8)).length = n - lo := by rw [List.length_map, hdl]
          rw [← hlen2]
          refine loadCells_at (fun j v hv => ?_)
          have h1 : cs[lo + j]? = some v := by
            rw [← Array.getElem?_toList, hcs]
            rw [List.map_drop, List.getElem?_drop] at hv
            exact hv
          simp [World.cell?, hc, h1])
        rw [this, show ByteArray.empty = ⟨⟨[]⟩⟩ from rfl, foldl_push]
        rfl
      · have : (bytesToStr (List.drop (α := Int) lo x)).length = n - lo := by unfold bytesToStr; rw [List.length_map, hdl]
        simp only [maxStr]
        omega
    · cases h
  · cases h
theorem store_all {w : World} {blk : Nat} {cs : Array Value} {e : TypeId} {vs : List Value} (hc : w.heap[blk]? = some (.cells cs e (0, 0))) (hl : vs.length = cs.size) (h1 : ∀ v ∈ vs, v.oneCell' = true) : (storeCells ⟨blk, 0, none⟩ vs).run P w = .ok () (w.setRow blk vs.toArray) := by
  have hst := run_storeCells_at P blk 0 e vs 0 cs w hc (by omega) h1
  simp only [Nat.add_zero, Nat.zero_add, List.take_zero, List.nil_append] at hst
  rw [List.drop_eq_nil_of_le (by rw [hl]; simp), List.append_nil] at hst
  exact hst
theorem copyEff_sound (TOK : TysOK P τ) (I : InvM R M) {t u ty : TypeId} {i : TInfo} (hi : τ t = some i) {va vx : AV} {a x : Value} (ha : RelV M va a) (hx : RelV M vx x) {e : Eff} (h : copyEff i.g (argOf M.bs va) (argOf M.bs vx) = some e) (hn : e.ok) :
    ∃ v w', (Builtin.copy_ #[t, u] ty #[a, x]).run P M.w = .ok v w' ∧ After R M e v w' := by
  have hd := (TOK t i hi).desc
  obtain ⟨g, nf, by_, el⟩ := i
  unfold copyEff at h
  simp only at h hd
  split at h
  · rename_i _ _ _ b lo n xs s bx hargeq hxeq
    simp only [Option.some.injEq] at h
    subst h
    have hfit := hn _ rfl
    obtain ⟨rfl, hbox⟩ := argOf_eq hargeq
    obtain ⟨rfl, _⟩ := argOf_eq hxeq
    obtain ⟨rfl, hls⟩ := relStr hx
    obtain ⟨dd, blk, k1, k2, k3, rfl⟩ := winBox ha hbox
    simp only at hd
    obtain ⟨ee, jj, ti, q1, _, q2, q3, q4, _⟩ := hd
    obtain ⟨ti', hti', hsz, _⟩ := (TOK _ _ q2).info
    rw [q3] at hsz
    have hz : P.info? ee = some ti' := hti'
    obtain ⟨cs, e0, hc, hl, henc, hcs⟩ := varBytes I k1 k3
    have hsize : cs.size = n := by
      have := congrArg List.length hcs
      rw [List.length_map] at this
      rw [show cs.size = cs.toList.length by simp, this]
      exact hl
    have hbl : (byCells s).length = List.length (α := UInt8) s := by simp [byCells]
    have hst := run_storeCells_at P blk lo e0 (byCells s) 0 cs M.w hc (by rw [hbl]; omega) (fun v hv => by
      obtain ⟨y, _, rfl⟩ := List.mem_map.1 hv
      rfl)
    simp only [Nat.add_zero] at hst
    rw [hbl] at hst
    have hnc : ncell (.int .u8) = 1 := rfl
    have hcopy : (Builtin.copy_ #[t, u] ty #[.slice (some ⟨blk, lo, none⟩) (n - lo) (n - lo), .string ⟨⟨s⟩⟩]).run P M.w = .ok (.int .i64 (List.length (α := UInt8) s : Int)) (M.w.setRow blk (cs.toList.take lo ++ byCells s ++ cs.toList.drop (lo + List.length (α := UInt8) s)).toArray) := by
      have hsz2 : (⟨⟨s⟩⟩ : ByteArray).size = List.length (α := UInt8) s := rfl
      have hmin : Nat.min (List.length (α := UInt8) s) (n - lo) = List.length (α := UInt8) s := Nat.min_eq_left (by omega)
      have htk : List.take (List.length (α := UInt8) s) (List.map (fun b : UInt8 => Value.int IntKind.u8 (b.toNat : Int)) s) = byCells s := List.take_of_length_le (by rw [List.length_map]; exact Nat.le_refl _)
      simp [Builtin.copy_, run_underlying q1, Builtin.lenOf, Builtin.firstCells, sizeOf, typeInfo, hz, hsz2, hmin, hsz, hnc]
      rw [htk, hst]
      simp [Result.andThen, goInt]
    -- the same as a store of the whole array
    have henc2 : encL (Enc M.w M.S (.int .u8)) (List.take (α := Int) lo xs ++ strToBytes s ++ List.drop (α := Int) (lo + List.length (α := UInt8) s) xs) (cs.toList.take lo ++ byCells s ++ cs.toList.drop (lo + List.length (α := UInt8) s)) := by
      have hsp := fun k => encL_split (f := Enc M.w M.S (.int .u8)) (n := 1) (fun x c hxc => by rw [hxc.1]; rfl) k henc
      have h1 := (hsp lo).1
      have h2 := (hsp (lo + List.length (α := UInt8) s)).2
      rw [Nat.mul_one] at h1 h2
      exact encL_append (encL_append h1 (enc_by s)) h2
    have hlen2 : (List.take (α := Int) lo xs ++ strToBytes s ++ List.drop (α := Int) (lo + List.length (α := UInt8) s) xs).length = n := by
      have : List.length (α := Int) xs = n := hl
      simp only [List.length_append, List.length_take, List.length_drop, strToBytes, List.length_map]
      omega
    have hE : Enc M.w M.S (.arr n (.int .u8)) (List.take (α := Int) lo xs ++ strToBytes s ++ List.drop (α := Int) (lo + List.length (α := UInt8) s) xs) (cs.toList.take lo ++ byCells s ++ cs.toList.drop (lo + List.length (α := UInt8) s)) := ⟨hlen2, henc2⟩
    have hupd : upd (.arr n (.int .u8)) xs [] ⟨.arr n (.int .u8), (List.take (α := Int) lo xs ++ strToBytes s ++ List.drop (α := Int) (lo + List.length (α := UInt8) s) xs)⟩ = some (List.take (α := Int) lo xs ++ strToBytes s ++ List.drop (α := Int) (lo + List.length (α := UInt8) s) xs) := by
      unfold upd
      split
      · rfl
      · rename_i hne _
        exact absurd rfl hne
    obtain ⟨w', r1, r2, r3⟩ := I.store (P := P) k1 hupd (inB_nil _) hE k3
    have hlen3 := hE.len
    simp only [ncell, Nat.mul_one] at hlen3
    have hst2 := store_all (P := P) hc (by omega) (fun v hv => hE.one v hv)
    have hw : w' = M.w.setRow blk (cs.toList.take lo ++ byCells s ++ cs.toList.drop (lo + List.length (α := UInt8) s)).toArray := by
      have := r1.symm.trans hst2
      simp only [Result.ok.injEq, true_and] at this
      exact this
    subst hw
    refine ⟨_, _, hcopy, M.S, M.β, by simpa [applyB] using r2, ?_, mkInt ?_⟩
    · have := r3.mono (K' := killed [(b, false, .var (.arr n (.int .u8)) (List.take (α := Int) lo xs ++ strToBytes s ++ List.drop (α := Int) (lo + List.length (α := UInt8) s) xs))]) (fun c hc => hc.elim)
      simpa [applyB] using this
    · simp only [IntKind.has, IntKind.min, IntKind.max, IntKind.signed, IntKind.bits, maxStr] at hls ⊢
      simp
      omega
  · cases h
end
end Go.Ev
/- Each operation does what the evaluator says: all of them. -/
set_option linter.unusedVariables false
set_option linter.unusedSimpArgs false
namespace Go.Ev

/-- What an operation reads is what is known of it. -/
def OpRel (M : Mem) (av : Operand → AV) (ρ : Operand → Value) (o : Oper) : Prop :=
  match o.op with
  | .pick c a b => RelV M (av c) (ρ c) ∧ (ρ c = .bool true → RelV M (av a) (ρ a)) ∧ (ρ c = .bool false → RelV M (av b) (ρ b))
  | op => ∀ x ∈ op.operands.toList, RelV M (av x) (ρ x)

theorem relL_map {M : Mem} {av : Operand → AV} {ρ : Operand → Value} : ∀ {l : List Operand}, (∀ x ∈ l, RelV M (av x) (ρ x)) → RelL M (l.map av) (l.map ρ)
  | [], _ => by simp [RelL]
  | x :: l, h => by
    simp only [List.map_cons, RelL]
    exact ⟨h x (by simp), relL_map (fun y hy => h y (by simp [hy]))⟩

theorem map_arg {M : Mem} {av : Operand → AV} (l : List Operand) : l.map (fun x => argOf M.bs (av x)) = (l.map av).map (argOf M.bs) := by simp

theorem maybe_run {P : Program} {w w' : World} {v : Value} {s : Sem Value} (h : s.run P w = .ok v w') : (do pure (Next.value (← s)) : Sem Next).run P w = .ok (.value v) w' := by
  simp [h]

section
variable {P : Program} {τ : Tys} {Γ : Ctrs} {R : Ref} {M : Mem}

theorem call_sound (GOK : CtrsOK P Γ) (I : InvM R M) {ρ : Operand → Value} (hρ : ∀ f, ρ (.func f) = .func (.func f) #[] #[]) {o : Oper} {f : Nat} {aas : Array Operand} {ts : Array TypeId} (ho : o.op = .call { callee := .value (.func f), args := aas, argTypes := ts })
    {args : List Arg} (hr : ArgsR M args (aas.toList.map ρ)) {c : Ctr} (hc : Γ f = some c) {x : dens c.args} {ws : List (Nat × Bool × Box)} (ht : takes c.args args = some (x, ws)) (hn : ∀ p, c.pre = some p → p x) (nd : Option Prop) :
    Yields P ρ o M.w (After R M ⟨resAV c.res (c.fn x), ws, nd⟩) := by
  obtain ⟨⟨fn, h1, h2, h3⟩, h4⟩ := GOK f c hc
  obtain ⟨hk, S', fz, henc⟩ := takes_sound I hr ht
  have hrun : (execOp ρ o).run P M.w = .ok (.enter f (aas.map ρ)) M.w := by
    simp only [execOp, ho, resolve, hρ, Deferred.ofValue, Sem.run_bind]
    have h2' : ¬ fn.body = none := by intro hh; rw [hh] at h2; simp at h2
    have h3' : ¬ fn.name = "runtime.NumGoroutine" := by simpa using h3
    simp [invoke, callFunc, h1, h2', h3']
  unfold Yields
  rw [hrun]
  simp only
  have hin : ∀ b o, S' b o → b < M.w.heap.size := fun b o hs => by
    have := (fz.inv.here b o hs).2
    exact this
  have := h4 M.w S' (aas.toList.map ρ) x hin (R.tab.keeps fz.inv.old) henc hn
  rw [show (aas.toList.map ρ).toArray = aas.map ρ from by apply Array.toList_inj.1; simp] at this
  refine this.mono (fun e w' he => ?_)
  obtain ⟨v, rfl, hg, N, hN, hres⟩ := he
  refine ⟨v, rfl, ?_⟩
  obtain ⟨I2, s2⟩ := fz.inv.grows (w' := w') hg N hN
  refine ⟨_, _, I2, (fz.step.trans s2).mono (fun b hb => ?_), resAV_rel hres⟩
  rcases hb with hb | hb <;> exact hb.elim

theorem opEff_sound (TOK : TysOK P τ) (GOK : CtrsOK P Γ) (I : InvM R M) {ρ : Operand → Value} (hρ : ∀ f, ρ (.func f) = .func (.func f) #[] #[]) {av : Operand → AV} {o : Oper} (hr : OpRel M av ρ o) {key : Nat} {e : Eff}
    (he : opEff τ Γ key o (o.op.operands.toList.map fun x => argOf M.bs (av x)) = some e) (hn : e.ok) : Yields P ρ o M.w (After R M e) := by
  obtain ⟨dst, op, type, pos, after, guard⟩ := o
  have pure : ∀ {e : Eff} {v : Value}, e.wr = [] → RelV M e.av v → After R M e v M.w := by
    intro e v h1 h2
    obtain ⟨a, b, c⟩ := e
    simp only at h1 h2
    subst h1
    exact After.pure I h2
  cases op with
  | move x =>
    simp only [Op.operands, List.map_cons, List.map_nil, opEff, v0, Option.some.injEq] at he
    subst he
    exact .value (v := ρ x) (w' := M.w) (by simp [execOp]) (pure rfl (hr x (by simp [Op.operands])))
  | assign x =>
    simp only [Op.operands, List.map_cons, List.map_nil, opEff, v0, Option.some.injEq] at he
    subst he
    exact .value (v := ρ x) (w' := M.w) (by simp [execOp]) (pure rfl (hr x (by simp [Op.operands])))
  | pick c a b =>
    simp only [Op.operands, List.map_cons, List.map_nil, opEff] at he
    obtain ⟨h1, h2, h3⟩ := hr
    obtain ⟨x, hx, hw, hv⟩ := pickEff_sound h1 h2 h3 he
    exact .value (v := if x then ρ a else ρ b) (w' := M.w) (by cases x <;> simp [execOp, hx, asBool]) (pure hw hv)
  | alloc t =>
    simp only [Op.operands, List.map_nil, opEff] at he
    split at he
    · rename_i i hi
      simp only [Option.some.injEq] at he
      subst he
      exact .value (by simp only [execOp]; exact maybe_run (alloc_run TOK hi M.w)) (After.newVar (ws := []) (Froze.refl I) (fun b hk => by obtain ⟨B, hB⟩ := hk; simp at hB) (Enc.zero M.w M.S i.g) key t none)
    · cases he
  | box t x =>
    simp only [Op.operands, List.map_cons, List.map_nil, opEff] at he
    split at he
    · rename_i i hi
      split at he
      · rename_i y w1 e1
        simp only [Option.some.injEq] at he
        subst he
        obtain ⟨hk, S', f, cs, h3, h4⟩ := take_sound I (ArgR.of (hr x (by simp [Op.operands]))) e1
        exact .value (by simp only [execOp]; rw [h4]; exact maybe_run (box_run t h3 M.w)) (After.newVar f hk h3 key t none)
      · cases he
    · cases he
  | build t ps =>
    simp only [opEff] at he
    have hrel : ∀ x ∈ ps.toList.map (·.2), RelV M (av x) (ρ x) := fun x hx => hr x (by simpa [Op.operands] using hx)
    split at he
    · rename_i i hi
      split at he
      · rename_i x w1 h1 h2
        simp only [Option.some.injEq] at he
        subst he
        have hl : (((ps.toList.map (·.1)).zip ((Op.build t ps).operands.toList.map fun x => argOf M.bs (av x))).map (·.2)) = ((ps.toList.map (·.2)).map av).map (argOf M.bs) := by
          rw [List.map_snd_zip (by simp [Op.operands])]
          simp [Op.operands]
        have hl1 : (((ps.toList.map (·.1)).zip ((Op.build t ps).operands.toList.map fun x => argOf M.bs (av x))).map (·.1)) = ps.toList.map (·.1) := by
          rw [List.map_fst_zip (by simp [Op.operands])]
        obtain ⟨v, q1, q2⟩ := build_sound TOK I hi (us := (ps.toList.map (·.2)).map ρ) (by rw [hl]; exact ArgsR.of (relL_map hrel)) (by rw [hl1]; exact h1) h2 none (ps.map fun (i, x) => (i, ρ x)) (by
          rw [hl1]
          simp only [Array.toList_map, List.map_map]
          rw [List.zip_map']
          rfl)
        exact .value (by simp only [execOp]; exact maybe_run q1) q2
      · cases he
    · cases he
  | buildSlice t n ps =>
    simp only [opEff] at he
    have hrel : ∀ x ∈ ps.toList.map (·.2), RelV M (av x) (ρ x) := fun x hx => hr x (by simpa [Op.operands] using hx)
    split at he
    · rename_i g nf b el hi
      split at he
      · rename_i x w1 h1 h2
        obtain ⟨h3, he⟩ : (n * ncell g ≤ 2 ^ 24 ∧ n * b ≤ maxRow) ∧ _ := by
          rcases needIf_spec he with ⟨hh, _⟩ | hh
          · cases hh
          · exact hh
        have hl : (((ps.toList.map (·.1)).zip ((Op.buildSlice t n ps).operands.toList.map fun x => argOf M.bs (av x))).map (·.2)) = ((ps.toList.map (·.2)).map av).map (argOf M.bs) := by
          rw [List.map_snd_zip (by simp [Op.operands])]
          simp [Op.operands]
        have hl1 : (((ps.toList.map (·.1)).zip ((Op.buildSlice t n ps).operands.toList.map fun x => argOf M.bs (av x))).map (·.1)) = ps.toList.map (·.1) := by
          rw [List.map_fst_zip (by simp [Op.operands])]
        have hin : ∀ y ∈ ((ps.toList.map (·.1)).zip ((Op.buildSlice t n ps).operands.toList.map fun x => argOf M.bs (av x))), y.1 < n := by
          intro y hy
          have : y.1 ∈ ps.toList.map (·.1) := by rw [← hl1]; exact List.mem_map.2 ⟨y, hy, rfl⟩
          rw [List.all_eq_true] at h1
          exact Nat.blt_eq ▸ h1 _ this
        split at he
        · simp only [Option.some.injEq] at he
          subst he
          obtain ⟨v, w', q1, q2⟩ := buildSlice_sound TOK I hi (us := (ps.toList.map (·.2)).map ρ) (by rw [hl]; exact ArgsR.of (relL_map hrel)) hin h2 key none h3.1 h3.2 (ps.map fun (i, x) => (i, ρ x)) (by
            rw [hl1]
            simp only [Array.toList_map, List.map_map]
            rw [List.zip_map']
            rfl)
          exact .value (by simp only [execOp]; exact maybe_run q1) q2
        · simp only [Option.some.injEq] at he
          subst he
          obtain ⟨v, w', q1, q2⟩ := buildSlice_val TOK I hi (us := (ps.toList.map (·.2)).map ρ) (by rw [hl]; exact ArgsR.of (relL_map hrel)) hin h2 none h3.1 h3.2 (ps.map fun (i, x) => (i, ρ x)) (by
            rw [hl1]
            simp only [Array.toList_map, List.map_map]
            rw [List.zip_map']
            rfl)
          exact .value (by simp only [execOp]; exact maybe_run q1) q2
      · cases he
    · cases he
  | load t x =>
    simp only [Op.operands, List.map_cons, List.map_nil, opEff] at he
    split at he
    · rename_i i hi
      obtain ⟨v, q1, q2, q3, _⟩ := loadEff_sound TOK I hi (ArgR.of (hr x (by simp [Op.operands]))) he
      exact .value (by simp only [execOp]; exact maybe_run q1) (pure q2 q3)
    · cases he
  | store t a x =>
    simp only [Op.operands, List.map_cons, List.map_nil, opEff] at he
    split at he
    · rename_i i hi
      obtain ⟨w', q1, q2⟩ := storeEff_sound TOK I hi (hr a (by simp [Op.operands])) (ArgR.of (hr x (by simp [Op.operands]))) he
      exact .skip (by simp [execOp, q1]) q2
    · cases he
  | nilCheck x =>
    simp only [Op.operands, List.map_cons, List.map_nil, opEff] at he
    have h := hr x (by simp [Op.operands])
    have hv : ∀ v, ρ x = v → (execOp ρ ⟨dst, .nilCheck x, type, pos, after, guard⟩).run P M.w = .ok (.value v) M.w → e = ⟨av x, [], none⟩ → Yields P ρ ⟨dst, .nilCheck x, type, pos, after, guard⟩ M.w (After R M e) := by
      intro v hx hrun heq
      subst heq
      exact .value hrun (pure rfl (by rw [← hx]; exact h))
    simp only [argOf] at he
    split at he <;> simp only [v0, Option.some.injEq, reduceCtorEq] at he
    · rename_i b g p hav
      rw [hav] at h
      simp only [RelV] at h
      obtain ⟨blk, d, B, _, _, _, hu⟩ := h
      exact hv _ rfl (by simp [execOp, hu]) he.symm
    · rename_i g y hav
      rw [hav] at h
      simp only [RelV] at h
      obtain ⟨blk, off, cs, _, _, hu⟩ := h
      exact hv _ rfl (by simp [execOp, hu]) he.symm
    · rename_i f caps hav
      rw [hav] at h
      simp only [RelV] at h
      obtain ⟨vs, hu, _⟩ := h
      exact hv _ rfl (by simp [execOp, hu]) he.symm
  | binOp op t x y ty =>
    simp only [Op.operands, List.map_cons, List.map_nil, opEff] at he
    obtain ⟨v, q1, q2, q3⟩ := binEff_sound (P := P) TOK (hr x (by simp [Op.operands])) (hr y (by simp [Op.operands])) he hn x y rfl
    exact .value (by simp only [execOp]; exact maybe_run q1) (pure q2 q3)
  | unOp op t x =>
    simp only [Op.operands, List.map_cons, List.map_nil, opEff] at he
    obtain ⟨v, q1, q2, q3⟩ := unEff_sound (P := P) (hr x (by simp [Op.operands])) he
    exact .value (by simp only [execOp]; exact maybe_run q1) (pure q2 q3)
  | convert s d x =>
    simp only [Op.operands, List.map_cons, List.map_nil, opEff] at he
    split at he
    · rename_i j i hj hi
      split at he
      · rename_i e' hw
        cases he
        obtain ⟨v, q1, q2, q3⟩ := winConv_sound TOK I hj hi (hr x (by simp [Op.operands])) hw
        exact .value (by simp only [execOp]; exact maybe_run q1) (pure q2 q3)
      obtain ⟨v, q1, q2, q3⟩ := convEff_sound TOK I hj hi (hr x (by simp [Op.operands])) he
      exact .value (by simp only [execOp]; exact maybe_run q1) (pure q2 q3)
    · cases he
  | slice t x lo hi mx =>
    have hops : (Op.slice t x lo hi mx).operands.toList = x :: (lo.toList ++ hi.toList ++ mx.toList) := by
      cases lo <;> cases hi <;> cases mx <;> simp [Op.operands]
    rw [hops] at he
    simp only [List.map_cons, opEff] at he
    have hr' : ∀ y ∈ x :: (lo.toList ++ hi.toList ++ mx.toList), RelV M (av y) (ρ y) := fun y hy => hr y (by rw [show (Op.slice t x lo hi mx).operands.toList = _ from hops]; exact hy)
    split at he
    · rename_i i hti
      have hb : ∃ bs, bounds lo.isSome hi.isSome mx.isSome ((lo.toList ++ hi.toList ++ mx.toList).map fun x => argOf M.bs (av x)) = some bs := by
        cases hb : bounds lo.isSome hi.isSome mx.isSome ((lo.toList ++ hi.toList ++ mx.toList).map fun x => argOf M.bs (av x)) with
        | none => rw [hb] at he; simp [sliceEff, winEff] at he
        | some bs => exact ⟨bs, rfl⟩
      obtain ⟨bs, hb⟩ := hb
      rw [hb] at he
      have hb' := bounds_spec (M := M) (ρ := ρ) (l := (lo.toList ++ hi.toList ++ mx.toList).map av) (by rw [← map_arg]; exact hb) (relL_map (fun y hy => hr' y (List.mem_cons_of_mem _ hy)))
      split at he
      · rename_i e' hw
        cases he
        obtain ⟨v, q1, q2⟩ := winEff_sound TOK I hti (hr' x (by simp)) hb' hw hn
        exact .value (by simp only [execOp]; exact maybe_run q1) q2
      obtain ⟨v, q1, q2⟩ := sliceEff_sound TOK I hti (hr' x (by simp)) hb' he hn
      exact .value (by simp only [execOp]; exact maybe_run q1) q2
    · cases he
  | fieldAddr t x k =>
    simp only [Op.operands, List.map_cons, List.map_nil, opEff] at he
    split at he
    · rename_i i hi
      obtain ⟨v, q1, q2, q3⟩ := fieldAddrEff_sound TOK I hi (hr x (by simp [Op.operands])) he
      exact .value (by simp only [execOp]; exact maybe_run q1) (pure q2 q3)
    · cases he
  | field t x k =>
    simp only [Op.operands, List.map_cons, List.map_nil, opEff] at he
    split at he
    · rename_i i hi
      obtain ⟨v, q1, q2, q3⟩ := fieldEff_sound TOK hi (hr x (by simp [Op.operands])) he
      exact .value (by simp only [execOp]; exact maybe_run q1) (pure q2 q3)
    · cases he
  | indexAddr t x i =>
    simp only [Op.operands, List.map_cons, List.map_nil, opEff] at he
    split at he
    · rename_i j hi
      obtain ⟨v, q1, q2, q3⟩ := indexAddrEff_sound TOK I hi (hr x (by simp [Op.operands])) (hr i (by simp [Op.operands])) he hn
      exact .value (by simp only [execOp]; exact maybe_run q1) (pure q2 q3)
    · cases he
  | index t x i =>
    simp only [Op.operands, List.map_cons, List.map_nil, opEff] at he
    split at he
    · rename_i j hi
      obtain ⟨v, q1, q2, q3⟩ := indexEff_sound TOK hi (hr x (by simp [Op.operands])) (hr i (by simp [Op.operands])) he hn
      exact .value (by simp only [execOp]; exact maybe_run q1) (pure q2 q3)
    · cases he
  | extract x i =>
    simp only [Op.operands, List.map_cons, List.map_nil, opEff] at he
    have h := hr x (by simp [Op.operands])
    simp only [argOf] at he
    split at he
    · rename_i l hav
      rw [hav] at h
      simp only [RelV] at h
      obtain ⟨vs, hu, hl⟩ := h
      split at he
      · rename_i v hv
        simp only [v0, Option.some.injEq] at he
        subst he
        obtain ⟨u, h1, h2⟩ := hl.get i hv
        refine .value (v := u) (w' := M.w) ?_ (pure rfl h2)
        have h1' : vs[i]? = some u := by simpa using h1
        simp [execOp, hu, Instr.extract, h1']
      · cases he
    · rename_i c p r hav
      rw [hav] at h
      simp only [RelV] at h
      obtain ⟨vs, hu, h0, h1⟩ := h
      split at he
      · simp only [v0, Option.some.injEq] at he
        subst he
        exact .value (v := .bool c) (w' := M.w) (by simp [execOp, hu, Instr.extract, h0]) (pure rfl (by simp only [RelV]; exact ⟨[.bool c], rfl, rfl⟩))
      · simp only [Option.some.injEq] at he
        subst he
        obtain ⟨h2, h3, h4, h5⟩ := h1 (hn _ rfl)
        exact .value (v := .int .i64 p) (w' := M.w) (by simp [execOp, hu, Instr.extract, h2]) (pure rfl (by simp only [RelV]; exact ⟨[.int .i64 p], ⟨rfl, h4⟩, rfl⟩))
      · simp only [Option.some.injEq] at he
        subst he
        obtain ⟨h2, h3, h4, h5⟩ := h1 (hn _ rfl)
        exact .value (v := .int .i32 r) (w' := M.w) (by simp [execOp, hu, Instr.extract, h3]) (pure rfl (by simp only [RelV]; exact ⟨[.int .i32 r], ⟨rfl, h5⟩, rfl⟩))
      · cases he
    · cases he
  | makeInterface t x =>
    simp only [Op.operands, List.map_cons, List.map_nil, opEff, argOf] at he
    have h := hr x (by simp [Op.operands])
    split at he
    · rename_i nf by_ el y hi hav
      rw [hav] at h
      simp only [RelV] at h
      obtain ⟨cs, ⟨rfl, hlen⟩, hu⟩ := h
      simp only [v0, Option.some.injEq] at he
      subst he
      have hT : P.underlying t = some .string := (TOK t _ hi).desc
      have hu' : ρ x = .string ⟨⟨y⟩⟩ := hu
      exact .value (v := .iface t (.string ⟨⟨y⟩⟩)) (w' := M.w) (by simp [execOp, hu', Instr.makeInterface, run_underlying hT]) (pure rfl rfl)
    · rename_i k nf by_ el k' n hi hav
      rw [hav] at h
      split at he
      · rename_i hk _
        subst hk
        simp only [RelV] at h
        obtain ⟨cs, ⟨rfl, hlen⟩, hu⟩ := h
        simp only [v0, Option.some.injEq] at he
        subst he
        have hT : P.underlying t = some (.int k) := (TOK t _ hi).desc
        have hu' : ρ x = .int k n := hu
        exact .value (v := .iface t (.int k n)) (w' := M.w) (by simp [execOp, hu', Instr.makeInterface, run_underlying hT]) (pure rfl rfl)
      · cases he
    · cases he
  | range t x =>
    simp only [Op.operands, List.map_cons, List.map_nil, opEff] at he
    have h := hr x (by simp [Op.operands])
    simp only [argOf] at he
    split at he
    · rename_i nf by_ el y hi hav
      rw [hav] at h
      simp only [RelV] at h
      obtain ⟨cs, ⟨rfl, hlen⟩, hu⟩ := h
      simp only [Option.some.injEq] at he
      subst he
      have hT : P.underlying t = some .string := (TOK t _ hi).desc
      have hu' : ρ x = .string ⟨⟨y⟩⟩ := hu
      exact .value (v := .pointer (some ⟨M.w.heap.size, 0, none⟩)) (w' := M.w.iter ⟨⟨y⟩⟩ 0) (by simp [execOp, hu', run_range_string _ _ _ hT]) (After.newIter I key hlen none)
    · cases he
  | next x s =>
    cases s with
    | false => simp [opEff] at he
    | true =>
      simp only [Op.operands, List.map_cons, List.map_nil, opEff] at he
      have h := hr x (by simp [Op.operands])
      split at he
      · rename_i b g p y pos hargeq
        obtain ⟨hav, hbox⟩ := argOf_eq hargeq
        rw [hav] at h
        simp only [Option.some.injEq] at he
        subst he
        exact next_sound I h hbox none rfl
      · cases he
  | makeSlice t a b =>
    simp only [Op.operands, List.map_cons, List.map_nil, opEff] at he
    split at he
    · rename_i g nf bytes el n c hi h1 h2
      simp only [Option.some.injEq] at he
      subst he
      obtain ⟨k, e1, _⟩ := asIntAV_spec (M := M) h1 (hr a (by simp [Op.operands]))
      obtain ⟨k', e2, _⟩ := asIntAV_spec (M := M) h2 (hr b (by simp [Op.operands]))
      obtain ⟨p1, p2, p3⟩ := hn _ rfl
      obtain ⟨v, w', q1, q2⟩ := makeSlice_sound (k := k) (k' := k') TOK I hi key (some _) p1 p2 p3
      exact .value (by simp only [execOp]; rw [e1, e2]; exact maybe_run q1) q2
    · cases he
  | call c =>
    obtain ⟨callee, aas, ts⟩ := c
    cases callee with
    | invoke x m => simp [opEff] at he
    | value f =>
      cases f with
      | tmp t => simp [opEff] at he
      | const v => simp [opEff] at he
      | global g => simp [opEff] at he
      | func f =>
        have hops : (Op.call { callee := .value (.func f), args := aas, argTypes := ts }).operands.toList = .func f :: aas.toList := by simp [Op.operands, Call.operands]
        rw [hops] at he
        simp only [List.map_cons, opEff] at he
        have hr' : ∀ y ∈ aas.toList, RelV M (av y) (ρ y) := fun y hy => hr y (by rw [show (Op.call { callee := .value (.func f), args := aas, argTypes := ts }).operands.toList = _ from hops]; exact List.mem_cons_of_mem _ hy)
        split at he
        · rename_i c hc
          split at he
          · rename_i x w1 ht
            simp only [Option.some.injEq] at he
            subst he
            refine call_sound GOK I hρ rfl (args := aas.toList.map fun x => argOf M.bs (av x)) ?_ hc ht (fun p hp => ?_) _
            · rw [map_arg]; exact ArgsR.of (relL_map hr')
            · exact hn _ (by simp [hp])
          · cases he
        · cases he
    | builtin bi =>
      have hops : (Op.call { callee := .builtin bi, args := aas, argTypes := ts }).operands.toList = aas.toList := by simp [Op.operands, Call.operands]
      rw [hops] at he
      have hr' : ∀ y ∈ aas.toList, RelV M (av y) (ρ y) := fun y hy => hr y (by rw [show (Op.call { callee := .builtin bi, args := aas, argTypes := ts }).operands.toList = _ from hops]; exact hy)
      have hrl := relL_map hr'
      have hmap : (aas.map ρ).toList = aas.toList.map ρ := by simp
      cases hl : aas.toList with
      | nil =>
        rw [hl] at he
        cases bi <;> simp [opEff] at he
      | cons x l =>
        rw [hl] at he hr' hrl
        have hx := hr' x (by simp)
        simp only [List.map_cons, RelL] at hrl he
        cases bi with
        | len =>
          cases l with
          | cons _ _ => simp [opEff] at he
          | nil =>
            simp only [List.map_nil, opEff] at he
            split at he
            · rename_i t hts
              split at he
              · rename_i i hi
                obtain ⟨v, q1, q2, q3⟩ := lenEff_sound TOK I hi hx he type
                refine .value (v := v) (w' := M.w) ?_ (pure q2 q3)
                have h1 : aas = #[x] := by apply Array.toList_inj.1; simpa using hl
                have h2 : ts = #[t] := by apply Array.toList_inj.1; simpa using hts
                subst h1
                subst h2
                simp [execOp, resolve, invoke, builtin, q1]
              · cases he
            · cases he
        | append =>
          match l, hl, he, hr' with
          | [], hl, he, hr' => simp [opEff] at he
          | _ :: _ :: _, hl, he, hr' => simp [opEff] at he
          | [y], hl, he, hr' =>
            simp only [List.map_nil, List.map_cons, opEff] at he
            split at he
            · rename_i t u hts
              split at he
              · rename_i htu g nf b el _ hi
                subst htu
                obtain ⟨v, w', q1, q2⟩ := appendEff_sound (ty := type) TOK I hi hx (hr' y (by simp)) he hn
                refine .value (v := v) (w' := w') ?_ q2
                have h1 : aas = #[x, y] := by apply Array.toList_inj.1; simpa using hl
                have h2 : ts = #[t, t] := by apply Array.toList_inj.1; simpa using hts
                subst h1
                subst h2
                simp [execOp, resolve, invoke, builtin, q1]
              · cases he
            · cases he
        | copy =>
          match l, hl, he, hr' with
          | [], hl, he, hr' => simp [opEff] at he
          | _ :: _ :: _, hl, he, hr' => simp [opEff] at he
          | [y], hl, he, hr' =>
            simp only [List.map_nil, List.map_cons, opEff] at he
            split at he
            · rename_i t u hts
              split at he
              · rename_i i hi
                obtain ⟨v, w', q1, q2⟩ := copyEff_sound (u := u) (ty := type) TOK I hi hx (hr' y (by simp)) he hn
                refine .value (v := v) (w' := w') ?_ q2
                have h1 : aas = #[x, y] := by apply Array.toList_inj.1; simpa using hl
                have h2 : ts = #[t, u] := by apply Array.toList_inj.1; simpa using hts
                subst h1
                subst h2
                simp [execOp, resolve, invoke, builtin, q1]
              · cases he
            · cases he
        | max =>
          simp only [opEff, argOf] at he
          split at he
          all_goals (try (simp at *; done))
          · rename_i k n _ l' _ hargs
            simp only [List.cons.injEq, Prod.mk.injEq] at hargs
            obtain ⟨⟨hav, _⟩, rfl⟩ := hargs
            split at he
            · rename_i m hm
              simp only [v0, Option.some.injEq] at he
              subst he
              rw [hav] at hx
              obtain ⟨hu, hk⟩ := relInt hx
              have hm' : maxmin true k ((l.map av).map (argOf M.bs)) n = some m := by rw [← map_arg]; exact hm
              obtain ⟨q1, q2⟩ := maxmin_sound (P := P) true hk hrl.2 hm'
              refine .value (v := .int k m) (w' := M.w) ?_ (pure rfl (mkInt q2))
              have h1 : aas.toList.map ρ = .int k n :: l.map ρ := by rw [hl, List.map_cons, hu]
              simp only [if_true] at q1
              simp [execOp, resolve, invoke, builtin, Builtin.max_, h1, q1]
            · cases he
        | min =>
          simp only [opEff, argOf] at he
          split at he
          all_goals (try (simp at *; done))
          · rename_i k n _ l' _ hargs
            simp only [List.cons.injEq, Prod.mk.injEq] at hargs
            obtain ⟨⟨hav, _⟩, rfl⟩ := hargs
            split at he
            · rename_i m hm
              simp only [v0, Option.some.injEq] at he
              subst he
              rw [hav] at hx
              obtain ⟨hu, hk⟩ := relInt hx
              have hm' : maxmin false k ((l.map av).map (argOf M.bs)) n = some m := by rw [← map_arg]; exact hm
              obtain ⟨q1, q2⟩ := maxmin_sound (P := P) false hk hrl.2 hm'
              refine .value (v := .int k m) (w' := M.w) ?_ (pure rfl (mkInt q2))
              have h1 : aas.toList.map ρ = .int k n :: l.map ρ := by rw [hl, List.map_cons, hu]
              simp only [Bool.false_eq_true, if_false] at q1
              simp [execOp, resolve, invoke, builtin, Builtin.min_, h1, q1]
            · cases he
        | _ => simp [opEff] at he
  | makeFunc fn first caps =>
    cases fn with
    | func f =>
      simp only [opEff] at he
      split at he
      · rename_i hf
        have h0 : first = #[] := by apply Array.toList_inj.1; simpa using hf
        subst h0
        simp only [v0, Option.some.injEq] at he
        subst he
        have hops : (Op.makeFunc (.func f) #[] caps).operands.toList = caps.toList := by simp [Op.operands]
        have hrl : RelL M (caps.toList.map av) (caps.toList.map ρ) := relL_map (fun y hy => hr y (by rw [show (Op.makeFunc (.func f) #[] caps).operands.toList = _ from hops]; exact hy))
        refine .value (v := .func (.func f) #[] (caps.map ρ)) (w' := M.w) (by simp [execOp, Instr.makeFunc]) (pure rfl ?_)
        simp only [RelV]
        refine ⟨_, rfl, ?_⟩
        rw [hops, map_arg, List.map_map]
        simpa [argOf, Function.comp_def] using hrl
      · cases he
    | _ => simp [opEff] at he
  | _ => simp [opEff] at he
end
end Go.Ev
/- States, held against the machine's; one operation; a region without guards. -/
set_option linter.unusedVariables false
set_option linter.unusedSimpArgs false
namespace Go.Ev

mutual
theorem RelV.has_box {M : Mem} : ∀ {v : AV} {u : Value}, RelV M v u → ∀ b, v.has b = true → lk b M.bs ≠ none
  | .undef, _, _, b, hb => by simp [AV.has] at hb
  | .cst _, _, _, b, hb => by simp [AV.has] at hb
  | .val _ _, _, _, b, hb => by simp [AV.has] at hb
  | .ref _ _, _, _, b, hb => by simp [AV.has] at hb
  | .ptr c g p, _, h, b, hb => by
    simp only [AV.has] at hb
    have := Nat.eq_of_beq_eq_true hb
    subst this
    simp only [RelV] at h
    obtain ⟨blk, d, B, h1, _⟩ := h
    rw [h1]; simp
  | .tip c, _, h, b, hb => by
    simp only [AV.has] at hb
    have := Nat.eq_of_beq_eq_true hb
    subst this
    simp only [RelV] at h
    obtain ⟨⟨d, B, h1, _⟩, _⟩ := h
    rw [h1]; simp
  | .win c lo, _, h, b, hb => by
    simp only [AV.has] at hb
    have := Nat.eq_of_beq_eq_true hb
    subst this
    simp only [RelV] at h
    obtain ⟨n, blk, d, B, h1, _⟩ := h
    rw [h1]; simp
  | .tup l, _, h, b, hb => by
    simp only [AV.has] at hb
    simp only [RelV] at h
    obtain ⟨vs, _, h⟩ := h
    exact RelL.has_box h b hb
  | .clo f l, _, h, b, hb => by
    simp only [AV.has] at hb
    simp only [RelV] at h
    obtain ⟨vs, _, h⟩ := h
    exact RelL.has_box h b hb
theorem RelL.has_box {M : Mem} : ∀ {l : List AV} {us : List Value}, RelL M l us → ∀ b, AV.hasL b l = true → lk b M.bs ≠ none
  | [], _, _, b, hb => by simp [AV.hasL] at hb
  | v :: l, [], h, _, _ => by simp [RelL] at h
  | v :: l, u :: us, h, b, hb => by
    simp only [RelL] at h
    simp only [AV.hasL, Bool.or_eq_true] at hb
    rcases hb with hb | hb
    · exact RelV.has_box h.1 b hb
    · exact RelL.has_box h.2 b hb
end

theorem look_put (s : St) (d t : Nat) (v : AV) : (s.put d v).look t = if t = d then v else s.look t := by
  unfold St.put St.look
  simp only [lk_st]
  split <;> simp

theorem wr1_boxes (s : St) (x : Nat × Bool × Box) : (s.wr1 x).boxes = st' x.1 (true, x.2.2) s.boxes := by
  unfold St.wr1
  split <;> rfl

theorem wrs_boxes : ∀ (ws : List (Nat × Bool × Box)) (s : St), (s.wrs ws).boxes = applyB ws s.boxes
  | [], _ => rfl
  | x :: l, s => by
    simp only [St.wrs, applyB]
    rw [wrs_boxes l, wr1_boxes]

theorem lk_kill (b t : Nat) : ∀ l : List (Nat × AV), lk t (kill b l) = (lk t l).map fun v => match v.has b with | true => AV.undef | false => v
  | [] => by simp [kill, lk]
  | (j, v) :: l => by
    have ih := lk_kill b t l
    simp only [kill, List.map_cons, lk] at ih ⊢
    cases Nat.beq j t with
    | true => cases hh : v.has b <;> simp [hh]
    | false => exact ih

theorem wr1_look (s : St) (x : Nat × Bool × Box) (t : Nat) :
    ((s.wr1 x).look t = .undef ∨ ((s.wr1 x).look t = s.look t ∧ (x.2.1 = true → lk x.1 s.boxes ≠ none → (s.look t).has x.1 = false))) := by
  unfold St.wr1
  split
  · rename_i B hx hB
    unfold St.look
    simp only [lk_kill]
    cases hl : lk t s.tmps with
    | none => exact .inl rfl
    | some v =>
      simp only [Option.map_some, Option.getD_some]
      cases hh : v.has x.1 with
      | true => exact .inl (by simp)
      | false => exact .inr ⟨by simp, fun _ _ => rfl⟩
  · rename_i hne
    refine .inr ⟨rfl, fun hx hb => ?_⟩
    cases hB : s.box x.1 with
    | none =>
      simp only [St.box, Option.map_eq_none_iff] at hB
      exact absurd hB hb
    | some B => exact absurd hB (hne B hx)

theorem wrs_look : ∀ (ws : List (Nat × Bool × Box)) (s : St) (t : Nat),
    (s.wrs ws).look t = .undef ∨ ((s.wrs ws).look t = s.look t ∧ ∀ b, killed ws b → lk b s.boxes ≠ none → (s.look t).has b = false)
  | [], s, t => .inr ⟨rfl, fun b hb => by obtain ⟨B, hB⟩ := hb; simp at hB⟩
  | x :: l, s, t => by
    simp only [St.wrs]
    rcases wrs_look l (s.wr1 x) t with h | ⟨h, hk⟩
    · exact .inl h
    · rcases wr1_look s x t with h1 | ⟨h1, hk1⟩
      · exact .inl (h.trans h1)
      · refine .inr ⟨h.trans h1, fun b hb hbs => ?_⟩
        obtain ⟨B, hB⟩ := hb
        rcases List.mem_cons.1 hB with hB | hB
        · rw [← hB] at hk1
          exact hk1 rfl hbs
        · rw [← h1]
          refine hk b ⟨B, hB⟩ ?_
          rw [wr1_boxes, lk_st]
          split
          · simp
          · exact hbs

theorem applyB_clean : ∀ (ws : List (Nat × Bool × Box)) (bs : Bxs) (b : Nat) (B : Box), lk b (applyB ws bs) = some (false, B) → lk b bs = some (false, B)
  | [], _, _, _, h => h
  | x :: l, bs, b, B, h => by
    simp only [applyB] at h
    have := applyB_clean l _ b B h
    rw [lk_st] at this
    split at this
    · simp at this
    · exact this

/-- A state, held against a machine's. -/
def IsSt (R : Ref) (s : St) (a : Act) (w : World) : Prop :=
  ∃ M : Mem, M.w = w ∧ M.bs = s.boxes ∧ InvM R M ∧ ∀ t, RelV M (s.look t) (a.tmps.getD t undef)

/-- What is written outside of W: nothing. -/
structure Apart (W : Nat → Prop) (s : St) (a : Act) (s' : St) (a' : Act) : Prop where
  size : a'.tmps.size = a.tmps.size
  defers : a'.defers = a.defers
  tmps : ∀ t, ¬ W t → a'.tmps.getD t undef = a.tmps.getD t undef
  look : ∀ t, ¬ W t → s'.look t = .undef ∨ s'.look t = s.look t
  boxes : ∀ b B, lk b s'.boxes = some (false, B) → lk b s.boxes = some (false, B)

theorem Apart.refl (W : Nat → Prop) (s : St) (a : Act) : Apart W s a s a := ⟨rfl, rfl, fun _ _ => rfl, fun _ _ => .inr rfl, fun _ _ h => h⟩
theorem Apart.trans {W : Nat → Prop} {s s' s'' : St} {a a' a'' : Act} (h : Apart W s a s' a') (k : Apart W s' a' s'' a'') : Apart W s a s'' a'' :=
  ⟨k.size.trans h.size, k.defers.trans h.defers, fun t ht => (k.tmps t ht).trans (h.tmps t ht), fun t ht => by
    rcases k.look t ht with h1 | h1
    · exact .inl h1
    · rcases h.look t ht with h2 | h2
      · exact .inl (h1.trans h2)
      · exact .inr (h1.trans h2), fun b B hb => h.boxes b B (k.boxes b B hb)⟩
theorem Apart.mono {W W' : Nat → Prop} {s s' : St} {a a' : Act} (h : Apart W s a s' a') (hw : ∀ t, W t → W' t) : Apart W' s a s' a' :=
  ⟨h.size, h.defers, fun t ht => h.tmps t (fun x => ht (hw t x)), fun t ht => h.look t (fun x => ht (hw t x)), h.boxes⟩

theorem put_getD (a : Act) (d : Option Nat) (v : Value) (t : Nat) (hd : ∀ k, d = some k → k < a.tmps.size) : (a.put d v).tmps.getD t undef = if d = some t then v else a.tmps.getD t undef := by
  cases d with
  | none => simp [Act.put]
  | some k =>
    have hk := hd k rfl
    simp only [Act.put]
    by_cases h : k = t
    · subst h
      simp [Array.getD_eq_getD_getElem?, Array.getElem?_setIfInBounds, hk]
    · simp [Array.getD_eq_getD_getElem?, Array.getElem?_setIfInBounds_ne h, h]

theorem put_size (a : Act) (d : Option Nat) (v : Value) : (a.put d v).tmps.size = a.tmps.size := by cases d <;> simp [Act.put]
theorem put_defers' (a : Act) (d : Option Nat) (v : Value) : (a.put d v).defers = a.defers := by cases d <;> simp [Act.put]

section
variable {P : Program} {C : Ctx} {R : Ref}

theorem look_after (s : St) (o : Oper) (e : Eff) (t : Nat) : (s.after o e).look t = if o.dst = some t then e.av else (s.wrs e.wr).look t := by
  unfold St.after St.putO
  cases o.dst with
  | none => simp
  | some d =>
    simp only [look_put]
    by_cases h : d = t
    · simp [h]
    · have h' : ¬ t = d := fun hh => h hh.symm
      simp [h, h']

theorem boxes_after (s : St) (o : Oper) (e : Eff) : (s.after o e).boxes = applyB e.wr s.boxes := by
  rw [← wrs_boxes]
  unfold St.after St.putO
  cases o.dst <;> rfl

/-- What an operation has done, told of states. -/
theorem IsSt.after {s : St} {a : Act} {w w' : World} {o : Oper} {e : Eff} {v : Value} {M : Mem} (hM : M.w = w) (hb : M.bs = s.boxes) (hr : ∀ t, RelV M (s.look t) (a.tmps.getD t undef)) (hd : ∀ k, o.dst = some k → k < a.tmps.size)
    (h : After R M e v w') : IsSt R (s.after o e) (a.put o.dst v) w' ∧ Apart (fun t => o.dst = some t) s a (s.after o e) (a.put o.dst v) := by
  obtain ⟨S', β', I, st, hv⟩ := h
  refine ⟨⟨_, rfl, by rw [boxes_after, ← hb], I, fun t => ?_⟩, put_size _ _ _, put_defers' _ _ _, fun t ht => ?_, fun t ht => ?_, fun b B hB => ?_⟩
  · rw [look_after, put_getD a o.dst v t hd]
    split
    · exact hv
    · rcases wrs_look e.wr s t with h1 | ⟨h1, h2⟩
      · rw [h1]; simp [RelV]
      · rw [h1]
        refine (hr t).step st (fun b hk => ?_)
        by_cases hbn : lk b s.boxes = none
        · cases hh : (s.look t).has b with
          | false => rfl
          | true => exact absurd (by rw [hb]; exact hbn) ((hr t).has_box b hh)
        · exact h2 b hk hbn
  · rw [put_getD a o.dst v t hd, if_neg ht]
  · rw [look_after, if_neg ht]
    rcases wrs_look e.wr s t with h1 | ⟨h1, _⟩
    · exact .inl h1
    · exact .inr h1
  · rw [boxes_after] at hB
    exact applyB_clean _ _ _ _ hB

theorem eval_func (a : Act) (f : Nat) : a.eval (.func f) = .func (.func f) #[] #[] := rfl

theorem constAV_rel {M : Mem} (v : Value) : RelV M (constAV v) v := by
  unfold constAV
  split
  · exact mkBool
  · rename_i k n
    split
    · rename_i hk
      exact mkInt (has_of_range hk)
    · simp [RelV]
  · rename_i s
    split
    · rename_i hs
      have : List.length (α := UInt8) s.data.toList ≤ maxStr := by simpa [Nat.ble_eq] using hs
      exact mkStr this
    · simp [RelV]
  · simp [RelV]

theorem global_rel {s : St} {a : Act} {M : Mem} (hT : Tab M.S M.w) (g : Nat) : RelV M (s.eval (.global g)) (a.eval (.global g)) := by
  simp only [St.eval]
  split
  · rename_i k zs hl
    obtain ⟨h1, h2⟩ := tab_has _ (lk_tab hl)
    have h3 := hT.1 _ h1
    simp only [RelV]
    refine ⟨g, 0, zs.map (Value.int k), ⟨rfl, encL_ints h2⟩, fun j v hj => ?_, rfl⟩
    rw [Nat.zero_add]
    exact ⟨(h3 j).2.trans hj, (h3 j).1⟩
  · simp [RelV]

theorem eval_rel {s : St} {a : Act} {M : Mem} (hT : Tab M.S M.w) (hr : ∀ t, RelV M (s.look t) (a.tmps.getD t undef)) (x : Operand) : RelV M (s.eval x) (a.eval x) := by
  cases x with
  | tmp t => exact hr t
  | const v => exact constAV_rel v
  | global g => exact global_rel hT g
  | func f => simp [St.eval, RelV, Act.eval, RelL]

theorem args_eq (s : St) (o : Oper) {bs : Bxs} (hb : bs = s.boxes) : s.args o = o.op.operands.toList.map fun x => argOf bs (s.eval x) := by
  subst hb
  rfl

theorem opRel_of {s : St} {a : Act} {M : Mem} (hT : Tab M.S M.w) (hr : ∀ t, RelV M (s.look t) (a.tmps.getD t undef)) (o : Oper) : OpRel M s.eval a.eval o := by
  unfold OpRel
  split
  · exact ⟨eval_rel hT hr _, fun _ => eval_rel hT hr _, fun _ => eval_rel hT hr _⟩
  · exact fun x _ => eval_rel hT hr x

theorem Yields.wp {o : Oper} {a : Act} {w : World} {K : Value → World → Prop} {next : Act → World → Prop} {Q : Exit → Act → World → Prop} (h : Yields P a.eval o w K) (hk : ∀ v w', K v w' → next (a.put o.dst v) w') : o.wp P a w next Q := by
  unfold Yields at h
  unfold Oper.wp
  generalize (execOp a.eval o).run P w = r at *
  cases r with
  | halt x w' => exact h.elim
  | ok n w' =>
    cases n <;> simp only [Oper.upon] at h ⊢
    case value v => exact hk v w' h
    case skip => exact hk _ w' h
    case enter f args => exact h.mono (fun e w'' he => by
      obtain ⟨v, rfl, hv⟩ := he
      exact hk v w'' hv)

/-- One operation. -/
theorem op_wp (TOK : TysOK P C.τ) (GOK : CtrsOK P C.Γ) {s : St} {a : Act} {w : World} (hs : IsSt R s a w) {o : Oper} {e : Eff} (he : opEff C.τ C.Γ (o.dst.getD 0) o (s.args o) = some e) (hn : e.ok) (hd : ∀ k, o.dst = some k → k < a.tmps.size)
    {next : Act → World → Prop} {Q : Exit → Act → World → Prop} (hnext : ∀ a' w', IsSt R (s.after o e) a' w' → Apart (fun t => o.dst = some t) s a (s.after o e) a' → next a' w') : o.wp P a w next Q := by
  obtain ⟨M, hM, hb, I, hr⟩ := hs
  rw [args_eq s o hb] at he
  have := opEff_sound TOK GOK I (eval_func a) (opRel_of (R.tab.keeps I.old) hr o) he hn
  rw [hM] at this
  refine this.wp (fun v w' hv => ?_)
  obtain ⟨h1, h2⟩ := IsSt.after hM hb hr hd hv
  exact hnext _ _ h1 h2

theorem holds_bind {α β : Type} {Q : β → Prop} {k : α → Tree β} : ∀ {t : Tree α}, (t.bind k).holds Q ↔ t.holds fun a => (k a).holds Q
  | .leaf a => Iff.rfl
  | .br c t e => by
    simp only [Tree.bind, Tree.holds]
    rw [holds_bind (t := t), holds_bind (t := e)]
  | .need p t => by
    simp only [Tree.bind, Tree.holds]
    rw [holds_bind (t := t)]
  | .stuck => Iff.rfl

theorem holds_mono {α : Type} {Q Q' : α → Prop} (h : ∀ a, Q a → Q' a) : ∀ {t : Tree α}, t.holds Q → t.holds Q'
  | .leaf a, k => h a k
  | .br c t e, k => ⟨fun hc => holds_mono h (k.1 hc), fun hc => holds_mono h (k.2 hc)⟩
  | .need p t, k => ⟨k.1, holds_mono h k.2⟩
  | .stuck, k => k.elim

theorem holds_needO {α : Type} {Q : α → Prop} {p : Option Prop} {t : Tree α} : (Tree.needO p t).holds Q ↔ (∀ q, p = some q → q) ∧ t.holds Q := by
  cases p with
  | none => exact ⟨fun h => ⟨fun _ hq => (by cases hq), h⟩, fun h => h.2⟩
  | some q => exact ⟨fun h => ⟨fun q' hq => (by cases hq; exact h.1), h.2⟩, fun h => ⟨h.1 q rfl, h.2⟩⟩

/-- A region without guards. -/
theorem runOps_wp (TOK : TysOK P C.τ) (GOK : CtrsOK P C.Γ) {ops : Array Oper} {Q : Exit → Act → World → Prop} : ∀ (l : List Oper) (k : Nat) (s : St) (a : Act) (w : World) (F : St → Prop), (∀ i o, l[i]? = some o → ops[k + i]? = some o) →
    (∀ o ∈ l, o.guard = none ∧ ∀ d, o.dst = some d → d < a.tmps.size) → IsSt R s a w → (runOps C l s).holds F →
    (∀ s' a' w', F s' → IsSt R s' a' w' → Apart (fun t => ∃ o ∈ l, o.dst = some t) s a s' a' → Q .normal a' w') → wpOps P ops Q (List.range' k l.length) a w
  | [], k, s, a, w, F, _, _, hs, hF, hQ => by
    simp only [List.length_nil, List.range'_zero, wpOps]
    exact hQ s a w hF hs (Apart.refl _ _ _)
  | o :: l, k, s, a, w, F, hops, hl, hs, hF, hQ => by
    have ho : ops[k]? = some o := by simpa using hops 0 o (by simp)
    simp only [List.length_cons, List.range'_succ, wpOps, ho]
    obtain ⟨hg, hd⟩ := hl o (by simp)
    rw [if_pos (by simp [Region.wanted, hg])]
    refine .inl ?_
    simp only [runOps] at hF
    split at hF
    · exact hF.elim
    · rename_i e he
      obtain ⟨hn, hF⟩ := holds_needO.1 hF
      refine op_wp TOK GOK hs he hn hd (fun a' w' h1 h2 => ?_)
      refine runOps_wp TOK GOK l (k + 1) _ a' w' F (fun i o' hi => by have := hops (i + 1) o' (by simpa using hi); rwa [show k + 1 + i = k + (i + 1) by omega]) (fun o' ho' => ⟨(hl o' (by simp [ho'])).1, fun d hd' => by rw [h2.size]; exact (hl o' (by simp [ho'])).2 d hd'⟩) h1 hF
        (fun s' a'' w'' f1 f2 f3 => hQ s' a'' w'' f1 f2 ((h2.mono (fun t ht => ⟨o, by simp, ht⟩)).trans (f3.mono (fun t ⟨o', h3, h4⟩ => ⟨o', by simp [h3], h4⟩))))

theorem look_putO (s : St) (d : Option Nat) (v : AV) (t : Nat) : (s.putO d v).look t = if d = some t then v else s.look t := by
  cases d with
  | none => simp [St.putO]
  | some d =>
    simp only [St.putO, look_put, Option.some.injEq]
    by_cases h : t = d
    · rw [if_pos h, if_pos h.symm]
    · rw [if_neg h, if_neg (fun e => h e.symm)]
theorem boolAV_eq {v : AV} {x : Bool} (h : boolAV v = some x) : v = .val .bool x := by
  unfold boolAV at h
  split at h
  · simp only [Option.some.injEq] at h; rw [h]
  · cases h
theorem isSkip_eq {v : AV} (h : isSkip v = true) : v = .cst undef := by
  unfold isSkip at h
  split at h
  · rename_i a
    have : a = #[] := by simpa using h
    rw [this]; rfl
  · cases h
/-- A slot whose value is known anew. -/
theorem same_look {s s' : St} {a : Act} {w : World} (hb : s'.boxes = s.boxes) (hl : ∀ t, s'.look t = s.look t) (h : IsSt R s a w) : IsSt R s' a w := by
  obtain ⟨M, hM, hbs, I, hr⟩ := h
  exact ⟨M, hM, by rw [hb]; exact hbs, I, fun t => by rw [hl]; exact hr t⟩
theorem same_apart {W : Nat → Prop} {s s' : St} {a : Act} (hb : s'.boxes = s.boxes) (hl : ∀ t, s'.look t = s.look t) : Apart W s a s' a :=
  ⟨rfl, rfl, fun _ _ => rfl, fun t _ => .inr (hl t), fun b B h => by rw [← hb]; exact h⟩
theorem yielded_of {ops : Array Oper} {tmps : Array Value} {j d : Nat} (hj : (ops.toList[j]?).bind (·.dst) = some d) (x : Bool) (h : tmps.getD d undef = .bool x) : yielded ops tmps j = some x := by
  unfold yielded
  rw [← Array.getElem?_toList, hj]
  simp only [Option.bind_some]
  rw [Array.getD_eq_getD_getElem?] at h
  cases hh : tmps[d]? with
  | none => rw [hh] at h; simp [undef] at h
  | some v => rw [hh] at h; simp only [Option.getD_some] at h; rw [h]
theorem yielded_skip {ops : Array Oper} {tmps : Array Value} {j d : Nat} (hj : (ops.toList[j]?).bind (·.dst) = some d) (h : tmps.getD d undef = undef) : yielded ops tmps j = none := by
  unfold yielded
  rw [← Array.getElem?_toList, hj]
  simp only [Option.bind_some]
  rw [Array.getD_eq_getD_getElem?] at h
  cases hh : tmps[d]? with
  | none => rfl
  | some v => rw [hh] at h; simp only [Option.getD_some] at h; rw [h]; rfl

theorem skip_st {s : St} {a : Act} {w : World} {d : Option Nat} (hd : ∀ k, d = some k → k < a.tmps.size) (h : IsSt R s a w) : IsSt R (s.putO d (.cst undef)) (a.put d undef) w ∧ Apart (fun t => d = some t) s a (s.putO d (.cst undef)) (a.put d undef) := by
  obtain ⟨M, hM, hbs, I, hr⟩ := h
  have hb : (s.putO d (.cst undef)).boxes = s.boxes := by cases d <;> rfl
  refine ⟨⟨M, hM, by rw [hb]; exact hbs, I, fun t => ?_⟩, put_size _ _ _, put_defers' _ _ _, fun t ht => ?_, fun t ht => ?_, fun b B h => by rw [← hb]; exact h⟩
  · rw [look_putO, put_getD a d undef t hd]
    split
    · simp [RelV]
    · exact hr t
  · rw [put_getD a d undef t hd, if_neg ht]
  · rw [look_putO, if_neg ht]; exact .inr rfl

theorem holds_pickT {α : Type} {Q : α → Prop} {d x : Bool} {s t : Tree α} (h : (pickT d x s t).holds Q) : (x = true → s.holds Q) ∧ (x = false → t.holds Q) := by
  cases d with
  | false => exact h
  | true => cases x with
    | true => exact ⟨fun _ => h, nofun⟩
    | false => exact ⟨nofun, fun _ => h⟩

/-- A region with guards, way by way. -/
theorem runBr_wp (TOK : TysOK P C.τ) (GOK : CtrsOK P C.Γ) {ops : Array Oper} {Q : Exit → Act → World → Prop} : ∀ (l : List Oper) (k : Nat) (s : St) (a : Act) (w : World) (F : St → Prop), (∀ i o, l[i]? = some o → ops[k + i]? = some o) →
    (∀ o ∈ l, ∀ d, o.dst = some d → d < a.tmps.size) → IsSt R s a w → (runBr C ops.toList l s).holds F →
    (∀ s' a' w', F s' → IsSt R s' a' w' → Apart (fun t => ∃ o ∈ l, o.dst = some t) s a s' a' → Q .normal a' w') → wpOps P ops Q (List.range' k l.length) a w
  | [], k, s, a, w, F, _, _, hs, hF, hQ => by
    simp only [List.length_nil, List.range'_zero, wpOps]
    exact hQ s a w hF hs (Apart.refl _ _ _)
  | o :: l, k, s, a, w, F, hops, hl, hs, hF, hQ => by
    have ho : ops[k]? = some o := by simpa using hops 0 o (by simp)
    have hd := hl o (by simp)
    have hops' : ∀ i o', l[i]? = some o' → ops[k + 1 + i]? = some o' := fun i o' hi => by
      have := hops (i + 1) o' (by simpa using hi); rwa [show k + 1 + i = k + (i + 1) by omega]
    simp only [List.length_cons, List.range'_succ, wpOps, ho]
    -- it is carried out
    have run : ∀ s1 : St, s1.boxes = s.boxes → (∀ t, s1.look t = s.look t) → ∀ e, opEff C.τ C.Γ (o.dst.getD 0) o (s1.args o) = some e → (Tree.needO e.need (runBr C ops.toList l (s1.after o e))).holds F →
        o.wp P a w (wpOps P ops Q (List.range' (k + 1) l.length)) Q := by
      intro s1 hb1 hl1 e he hF1
      obtain ⟨hn, hF2⟩ := holds_needO.1 hF1
      refine op_wp TOK GOK (same_look hb1 hl1 hs) he hn hd (fun a' w' h1 h2 => ?_)
      refine runBr_wp TOK GOK l (k + 1) _ a' w' F hops' (fun o' ho' d hd' => by rw [h2.size]; exact hl o' (by simp [ho']) d hd') h1 hF2
        (fun s' a'' w'' f1 f2 f3 => hQ s' a'' w'' f1 f2 (((same_apart hb1 hl1).trans (h2.mono (fun t ht => ⟨o, by simp, ht⟩))).trans (f3.mono (fun t ⟨o', h3, h4⟩ => ⟨o', by simp [h3], h4⟩))))
    have skip : ∀ s1 : St, s1.boxes = s.boxes → (∀ t, s1.look t = s.look t) → (runBr C ops.toList l (s1.putO o.dst (.cst (.tuple #[])))).holds F → wpOps P ops Q (List.range' (k + 1) l.length) (a.put o.dst undef) w := by
      intro s1 hb1 hl1 hF1
      obtain ⟨h1, h2⟩ := skip_st hd (same_look hb1 hl1 hs)
      refine runBr_wp TOK GOK l (k + 1) _ _ w F hops' (fun o' ho' d hd' => by rw [h2.size]; exact hl o' (by simp [ho']) d hd') h1 hF1
        (fun s' a'' w'' f1 f2 f3 => hQ s' a'' w'' f1 f2 (((same_apart hb1 hl1).trans (h2.mono (fun t ht => ⟨o, by simp, ht⟩))).trans (f3.mono (fun t ⟨o', h3, h4⟩ => ⟨o', by simp [h3], h4⟩))))
    simp only [runBr] at hF
    split at hF
    · rename_i hg
      rw [if_pos (by simp [Region.wanted, hg])]
      split at hF
      · exact hF.elim
      · rename_i e he
        exact .inl (run s rfl (fun _ => rfl) e he hF)
    · rename_i j wnt hg
      split at hF
      · exact hF.elim
      · rename_i d hj
        have hrel : ∃ M : Mem, RelV M (s.look d) (a.tmps.getD d undef) := by
          obtain ⟨M, _, _, _, hr⟩ := hs
          exact ⟨M, hr d⟩
        obtain ⟨M, hrel⟩ := hrel
        split at hF
        · rename_i _ x hx
          have hv := boolAV_eq hx
          rw [hv] at hrel
          have hy := yielded_of hj x (relBool hrel)
          simp only [Region.wanted, hg, hy]
          cases hxw : x == wnt with
          | true =>
            have hx' : x = wnt := by simpa using hxw
            subst hx'
            have hF1 := (holds_pickT hF).1 hxw
            rw [if_pos (by simp)]
            split at hF1
            · exact hF1.elim
            · rename_i e he
              refine .inl (run (s.put d (.val .bool x)) rfl (fun t => ?_) e he hF1)
              rw [look_put]
              split
              · rename_i ht; subst ht; exact hv.symm
              · rfl
          | false =>
            have hx' : x = !wnt := by cases x <;> cases wnt <;> simp_all
            subst hx'
            have hF1 := (holds_pickT hF).2 hxw
            rw [if_neg (by simp)]
            refine skip (s.put d (.val .bool (!wnt))) rfl (fun t => ?_) hF1
            rw [look_put]
            split
            · rename_i ht; subst ht; exact hv.symm
            · rfl
        · rename_i hb hsk
          have hv := isSkip_eq hsk
          rw [hv] at hrel
          have hy := yielded_skip hj hrel
          simp only [Region.wanted, hg, hy]
          rw [if_neg (by simp)]
          exact skip s rfl (fun _ => rfl) hF
        · exact hF.elim
end
end Go.Ev
/- Regions that have guards, or a draw: what stands in the slots and the boxes, whichever operations have been carried out. -/
set_option linter.unusedVariables false
set_option linter.unusedSimpArgs false
namespace Go.Ev

def lay {α : Type} (b : Bool) (o : Option α) (d : α) : α :=
  match b, o with
  | true, some v => v
  | _, _ => d

/-- What lies on top of f, once those of L have been laid. -/
def ov {α : Type} (L : Nat → Bool) : List (Nat → Option α) → Nat → (Nat → α) → Nat → α
  | [], _, f => f
  | u :: us, k, f => ov L us (k + 1) fun t => lay (L k) (u t) (f t)

theorem ov_congr {α : Type} {L L' : Nat → Bool} {t : Nat} : ∀ {us : List (Nat → Option α)} {k : Nat} {f f' : Nat → α}, f t = f' t → (∀ i u, us[i]? = some u → u t ≠ none → L (k + i) = L' (k + i)) → ov L us k f t = ov L' us k f' t
  | [], _, _, _, hf, _ => hf
  | u :: us, k, f, f', hf, h => by
    simp only [ov]
    refine ov_congr ?_ (fun i u' hi hu => by have := h (i + 1) u' (by simpa using hi) hu; rwa [show k + 1 + i = k + (i + 1) by omega])
    cases hu : u t with
    | none => cases L k <;> cases L' k <;> simpa [lay] using hf
    | some v =>
      have := h 0 u (by simp) (by rw [hu]; simp)
      simp only [Nat.add_zero] at this
      rw [this]
      cases L' k <;> simp [lay, hf]

theorem ov_none {α : Type} {L : Nat → Bool} {t : Nat} : ∀ {us : List (Nat → Option α)} {k : Nat} {f : Nat → α}, (∀ i u, us[i]? = some u → u t ≠ none → L (k + i) = false) → ov L us k f t = f t
  | [], _, _, _ => rfl
  | u :: us, k, f, h => by
    simp only [ov]
    rw [ov_none (fun i u' hi hu => by have := h (i + 1) u' (by simpa using hi) hu; rwa [show k + 1 + i = k + (i + 1) by omega])]
    cases hu : u t with
    | none => cases L k <;> rfl
    | some v =>
      have := h 0 u (by simp) (by rw [hu]; simp)
      simp only [Nat.add_zero] at this
      rw [this]
      rfl

theorem ov_last {α : Type} {L : Nat → Bool} {t : Nat} {v : α} : ∀ {us : List (Nat → Option α)} {k : Nat} {f : Nat → α} (i : Nat) (u : Nat → Option α), us[i]? = some u → u t = some v → L (k + i) = true →
    (∀ j u, i < j → us[j]? = some u → u t ≠ none → L (k + j) = false) → ov L us k f t = v
  | [], _, _, i, u, hi, _, _, _ => by simp at hi
  | u0 :: us, k, f, 0, u, hi, hu, hL, h => by
    simp only [List.getElem?_cons_zero, Option.some.injEq] at hi
    subst hi
    simp only [ov]
    simp only [Nat.add_zero] at hL
    rw [ov_none (fun j u' hj hu' => by have := h (j + 1) u' (by omega) (by simpa using hj) hu'; rwa [show k + 1 + j = k + (j + 1) by omega])]
    rw [hL, hu]
    rfl
  | u0 :: us, k, f, i + 1, u, hi, hu, hL, h => by
    simp only [ov]
    exact ov_last i u (by simpa using hi) hu (by rwa [show k + 1 + i = k + (i + 1) by omega]) (fun j u' hj hi' hu' => by have := h (j + 1) u' (by omega) (by simpa using hi') hu'; rwa [show k + 1 + j = k + (j + 1) by omega])

/-- The last word on a box. -/
def wrAt (b : Nat) : List (Nat × Bool × Box) → Option Box
  | [] => none
  | x :: l => match wrAt b l with
    | some B => some B
    | none => match Nat.beq x.1 b with
      | true => some x.2.2
      | false => none

theorem lk_applyB (b : Nat) : ∀ (ws : List (Nat × Bool × Box)) (bs : Bxs), lk b (applyB ws bs) = match wrAt b ws with | some B => some (true, B) | none => lk b bs
  | [], _ => rfl
  | x :: l, bs => by
    simp only [applyB, wrAt]
    rw [lk_applyB b l]
    cases wrAt b l with
    | some B => rfl
    | none =>
      simp only [lk_st]
      cases hb : Nat.beq x.1 b with
      | true => simp [Nat.eq_of_beq_eq_true hb]
      | false =>
        have : ¬ b = x.1 := fun h => by rw [h] at hb; simp at hb
        simp [this]

theorem wrAt_mem {b : Nat} : ∀ {ws : List (Nat × Bool × Box)} {B : Box}, wrAt b ws = some B → b ∈ ws.map (·.1)
  | [], _, h => by simp [wrAt] at h
  | x :: l, B, h => by
    simp only [wrAt] at h
    cases hl : wrAt b l with
    | some B' => exact List.mem_cons_of_mem _ (wrAt_mem hl)
    | none =>
      rw [hl] at h
      cases hb : Nat.beq x.1 b with
      | true => simp [Nat.eq_of_beq_eq_true hb]
      | false => rw [hb] at h; simp at h

theorem fresh_tmps : ∀ (ws : List (Nat × Bool × Box)) (s : St), freshWr ws s.boxes = true → (s.wrs ws).tmps = s.tmps ∧ ∀ b, killed ws b → lk b s.boxes = none
  | [], s, _ => ⟨rfl, fun b hb => by obtain ⟨B, hB⟩ := hb; simp at hB⟩
  | x :: l, s, h => by
    simp only [freshWr, Bool.and_eq_true, Bool.or_eq_true, Bool.not_eq_true', Option.isNone_iff_eq_none] at h
    obtain ⟨h1, h2⟩ := h
    have hw : s.wr1 x = { s with boxes := st' x.1 (true, x.2.2) s.boxes } := by
      unfold St.wr1
      split
      · rename_i B hx hB
        rcases h1 with h1 | h1
        · rw [hx] at h1; cases h1
        · simp [St.box, h1] at hB
      · rfl
    simp only [St.wrs]
    obtain ⟨q1, q2⟩ := fresh_tmps l (s.wr1 x) (by rw [hw]; exact h2)
    refine ⟨by rw [q1, hw], fun b hb => ?_⟩
    obtain ⟨B, hB⟩ := hb
    rcases List.mem_cons.1 hB with hB | hB
    · rcases h1 with h1 | h1
      · rw [← hB] at h1; simp at h1
      · rw [← hB] at h1; exact h1
    · have := q2 b ⟨B, hB⟩
      rw [hw] at this
      simp only [lk_st] at this
      split at this
      · simp at this
      · exact this

theorem memN_iff {x : Nat} : ∀ {l : List Nat}, memN x l = true ↔ x ∈ l
  | [] => by simp [memN]
  | y :: l => by
    simp only [memN, Bool.or_eq_true, List.mem_cons, memN_iff (l := l)]
    rw [Nat.beq_eq]

theorem memP_iff {x : Nat × Bool} : ∀ {l : List (Nat × Bool)}, memP x l = true ↔ x ∈ l
  | [] => by simp [memP]
  | y :: l => by
    simp only [memP, Bool.or_eq_true, Bool.and_eq_true, List.mem_cons, memP_iff (l := l), Nat.beq_eq, beq_iff_eq]
    rw [Prod.ext_iff]

theorem subP_iff : ∀ {l m : List (Nat × Bool)}, subP l m = true → ∀ x ∈ l, x ∈ m
  | [], _, _ => by simp
  | y :: l, m, h => by
    simp only [subP, Bool.and_eq_true] at h
    intro x hx
    rcases List.mem_cons.1 hx with rfl | hx
    · exact memP_iff.1 h.1
    · exact subP_iff h.2 x hx

theorem disj_spec {a b : Foot} (h : disj a b = true) :
    (∀ d, a.wt = some d → d ∉ b.rt ∧ b.wt ≠ some d) ∧ (∀ d, b.wt = some d → d ∉ a.rt) ∧ (∀ x ∈ a.wb, x ∉ b.rb ∧ x ∉ b.wb) ∧ (∀ x ∈ b.wb, x ∉ a.rb) := by
  have nm : ∀ {x : Nat} {l : List Nat}, memN x l = false → x ∉ l := fun hf hm => by rw [memN_iff.2 hm] at hf; cases hf
  simp only [disj, Bool.and_eq_true, List.all_eq_true, Bool.not_eq_true'] at h
  obtain ⟨⟨⟨h1, h2⟩, h3⟩, h4⟩ := h
  refine ⟨fun d hd => ?_, fun d hd => ?_, fun x hx => ⟨nm (h3 x hx).1, nm (h3 x hx).2⟩, fun x hx => nm (h4 x hx)⟩
  · rw [hd] at h1
    simp only [Bool.and_eq_true, Bool.not_eq_true'] at h1
    refine ⟨nm h1.1, fun hb => ?_⟩
    rw [hb] at h1
    simp at h1
  · rw [hd] at h2
    simp only [Bool.not_eq_true'] at h2
    exact nm h2

theorem nodup_unique : ∀ {ops : List Oper}, nodupN (dsts ops) = true → ∀ {i j : Nat} {o o' : Oper} {t : Nat}, ops[i]? = some o → ops[j]? = some o' → o.dst = some t → o'.dst = some t → i = j
  | [], _, i, j, o, o', t, hi, _, _, _ => by simp at hi
  | x :: l, h, i, j, o, o', t, hi, hj, ho, ho' => by
    have hmem : ∀ {k : Nat} {y : Oper}, l[k]? = some y → y.dst = some t → t ∈ dsts l := fun hk hy => List.mem_filterMap.2 ⟨_, List.mem_of_getElem? hk, hy⟩
    have hl : nodupN (dsts l) = true := by
      unfold dsts at h ⊢
      simp only [List.filterMap_cons] at h
      split at h
      · exact h
      · simp only [nodupN, Bool.and_eq_true] at h; exact h.2
    have hx : x.dst = some t → t ∉ dsts l := by
      intro hx hm
      unfold dsts at h hm
      simp only [List.filterMap_cons, hx, nodupN, Bool.and_eq_true, Bool.not_eq_true'] at h
      rw [memN_iff.2 hm] at h
      simp at h
    cases i with
    | zero =>
      simp only [List.getElem?_cons_zero, Option.some.injEq] at hi
      subst hi
      cases j with
      | zero => rfl
      | succ j => exact absurd (hmem (by simpa using hj) ho') (hx ho)
    | succ i =>
      cases j with
      | zero =>
        simp only [List.getElem?_cons_zero, Option.some.injEq] at hj
        subst hj
        exact absurd (hmem (by simpa using hi) ho) (hx ho')
      | succ j => exact congrArg (· + 1) (nodup_unique hl (i := i) (j := j) (by simpa using hi) (by simpa using hj) ho ho')

theorem find_dst {ops : List Oper} (h : nodupN (dsts ops) = true) {i : Nat} {o : Oper} {t : Nat} (hi : ops[i]? = some o) (ho : o.dst = some t) : ops.find? (dstIs t) = some o := by
  have hdst : ∀ y : Oper, dstIs t y = true ↔ y.dst = some t := by
    intro y
    unfold dstIs
    cases hy : y.dst with
    | none => simp
    | some d => simp [Nat.beq_eq]
  cases hf : ops.find? (dstIs t) with
  | none =>
    rw [List.find?_eq_none] at hf
    exact absurd ((hdst o).2 ho) (hf o (List.mem_of_getElem? hi))
  | some y =>
    have h1 := List.find?_some hf
    have h2 := List.mem_of_find?_eq_some hf
    obtain ⟨j, hj⟩ := List.mem_iff_getElem?.1 h2
    have := nodup_unique h hj hi ((hdst y).1 h1) ho
    subst this
    exact hj.symm.trans hi
end Go.Ev
