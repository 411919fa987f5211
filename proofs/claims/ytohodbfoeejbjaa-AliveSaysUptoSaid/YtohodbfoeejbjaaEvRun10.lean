/- A function keeps the contract that the evaluator reckons. -/
import Derived.Test.YtohodbfoeejbjaaEvRun9
import Derived.Test.YtohodbfoeejbjaaEvWt
set_option linter.unusedVariables false
set_option linter.unusedSimpArgs false
namespace Go.Ev
section
variable {P : Program} {C : Ctx}

theorem lk_number {α : Type} (t : Nat) : ∀ (l : List α) (n : Nat), lk t (number n l) = if n ≤ t then l[t - n]? else none
  | [], n => by simp [number, lk]
  | v :: l, n => by
    simp only [number, lk]
    cases hb : Nat.beq n t with
    | true =>
      have := Nat.eq_of_beq_eq_true hb
      subst this
      simp
    | false =>
      have hne : n ≠ t := fun h => by rw [h] at hb; simp at hb
      rw [lk_number t l (n + 1)]
      by_cases h : n ≤ t
      · rw [if_pos (by omega), if_pos h, show t - n = (t - (n + 1)) + 1 by omega]
        simp
      · rw [if_neg (by omega), if_neg h]

theorem loadAddr {M : Mem} {R : Ref} {τ : Tys} (TOK : TysOK P τ) (I : InvM R M) {t : TypeId} {i : TInfo} (hi : τ t = some i) {va : AV} {u : Value} (hr : RelV M va u) {e : Eff} (h : loadEff i.g (argOf M.bs va) = some e) :
    ∃ v, (do loadVar t (← asAddr u) : Sem Value).run P M.w = .ok v M.w ∧ RelV M e.av v ∧ ∃ y, e.av = .val i.g y := by
  obtain ⟨v, h1, h2, h3, h4⟩ := loadEff_sound TOK I hi (ArgR.of hr) h
  refine ⟨v, ?_, h3, h4⟩
  have hu : ∃ blk off, u = .pointer (some ⟨blk, off, none⟩) := by
    unfold loadEff argOf at h
    cases va with
    | ptr b g p =>
      simp only [RelV] at hr
      obtain ⟨blk, d, B, _, _, _, hu⟩ := hr
      exact ⟨_, _, hu⟩
    | ref g y =>
      simp only [RelV] at hr
      obtain ⟨blk, off, cs, _, _, hu⟩ := hr
      exact ⟨_, _, hu⟩
    | undef => simp at h
    | cst _ => simp at h
    | val _ _ => simp at h
    | tip _ => simp at h
    | tup _ => simp at h
    | clo _ _ => simp at h
  obtain ⟨blk, off, rfl⟩ := hu
  simpa [Instr.loadAt, Instr.sureAddr, asAddr] using h1

def resF (tmps : Array Value) : ResultVar → Sem Value
  | .tmp t => pure (tmps.getD t undef)
  | .cell a t => do loadVar t (← asAddr (tmps.getD a undef))

theorem results_eq (fn : Func) (tmps : Array Value) : results fn tmps = (do let vs ← fn.results.mapM (resF tmps); pure (if h : vs.size = 1 then vs[0] else .tuple vs)) := rfl

theorem resArgs_sound {M : Mem} {R : Ref} (TOK : TysOK P C.τ) (I : InvM R M) {s : St} (hb : M.bs = s.boxes) {tmps : Array Value} (hr : ∀ t, RelV M (s.look t) (tmps.getD t undef)) : ∀ {l : List ResultVar} {as : List Arg}, resArgs C s l = some as →
    ∃ us, (l.mapM (resF tmps)).run P M.w = .ok us M.w ∧ ArgsR M as us
  | [], as, h => by
    simp only [resArgs, Option.some.injEq] at h
    subst h
    exact ⟨[], by simp, trivial⟩
  | r :: l, as, h => by
    simp only [resArgs] at h
    split at h
    · rename_i a as' h1 h2
      simp only [Option.some.injEq] at h
      subst h
      obtain ⟨us, q1, q2⟩ := resArgs_sound TOK I hb hr h2
      have one : ∃ u, (resF tmps r).run P M.w = .ok u M.w ∧ ArgR M a u := by
        cases r with
        | tmp t =>
          simp only [resArg, Option.some.injEq] at h1
          subst h1
          refine ⟨tmps.getD t undef, rfl, ?_⟩
          have : s.arg (.tmp t) = argOf M.bs (s.look t) := by rw [hb]; rfl
          rw [this]
          exact ArgR.of (hr t)
        | cell ad t =>
          simp only [resArg] at h1
          split at h1
          · rename_i i hi
            split at h1
            · rename_i e he
              simp only [Option.some.injEq] at h1
              subst h1
              have : s.arg (.tmp ad) = argOf M.bs (s.look ad) := by rw [hb]; rfl
              rw [this] at he
              obtain ⟨v, k1, k2, y, k3⟩ := loadAddr TOK I hi (hr ad) he
              exact ⟨v, k1, k2, fun b B hb' _ => by rw [k3] at hb'; simp [boxOf] at hb'⟩
            · cases h1
          · cases h1
      obtain ⟨u, k1, k2⟩ := one
      exact ⟨u :: us, by rw [List.mapM_cons]; simp only [Sem.run_bind, k1, Result.andThen_ok, q1]; rfl, k2, q2⟩
    · cases h

theorem results_run {fn : Func} {tmps : Array Value} {w : World} {us : List Value} (h : (fn.results.toList.mapM (resF tmps)).run P w = .ok us w) :
    (results fn tmps).run P w = .ok (match us with | [u] => u | _ => .tuple us.toArray) w := by
  rw [results_eq, Array.mapM_eq_mapM_toList]
  have : (List.toArray <$> fn.results.toList.mapM (resF tmps) : Sem (Array Value)).run P w = .ok us.toArray w := by
    simp [h]
  simp only [Sem.run_bind]
  rw [this]
  simp only [Result.andThen_ok]
  rcases us with _ | ⟨u, _ | ⟨v, us⟩⟩ <;> simp

/-- A function keeps its contract. -/
theorem ctr_of_ev (TOK : TysOK P C.τ) (GC : CtrsOK P C.Γ) (hmix : P.follows .mixedOrders = true) {f : Nat} {fn : Func} {body : Code} {c : Ctr} (hf : P.funcs[f]? = some fn) (hname : (fn.name == "runtime.NumGoroutine") = false) (hbody : fn.body = some body)
    (hlam : LamOK C body) (h : ∀ x : dens c.args, wtD c.args x → (∀ p, c.pre = some p → p x) → (evFn C fn (resL c.args x) c.res).holds (fun y => y = c.fn x)) : CtrOK P f c := by
  refine ⟨⟨fn, hf, by rw [hbody]; rfl, hname⟩, fun w S us x hS henc hpre => ?_⟩
  have hh := h x henc.wt hpre
  simp only [evFn, hbody] at hh
  split at hh
  · exact hh.elim
  rename_i hsz
  have hh' := holds_bind.1 hh
  let R : Ref := ⟨w, fun _ => False, S⟩
  let M : Mem := ⟨w, S, fun _ => undef, []⟩
  have I : InvM R M := ⟨rfl, rfl, rfl, Nat.le_refl _, fun _ _ _ => rfl, Keeps.refl _ _, fun b o hs => ⟨.inl hs, hS b o hs⟩, fun b d B hb => by simp [M, lk] at hb, fun b c d B d' B' _ hb => by simp [M, lk] at hb⟩
  have hrl := resL_rel (M := M) (gs := c.args) (x := x) (us := us) henc
  let a : Act := { tmps := us.toArray ++ Array.replicate (fn.ntmps - us.toArray.size) undef, defers := [] }
  have hst : IsSt R { tmps := number 0 (resL c.args x), boxes := [] } a w := by
    refine ⟨M, rfl, rfl, I, fun t => ?_⟩
    show RelV M ((lk t (number 0 (resL c.args x))).getD .undef) _
    rw [lk_number]
    simp only [Nat.zero_le, if_true, Nat.sub_zero]
    cases hv : (resL c.args x)[t]? with
    | none => simp [RelV]
    | some v =>
      obtain ⟨u, h1, h2⟩ := hrl.get t hv
      have hlt := (List.getElem?_eq_some_iff.1 h1).1
      have : a.tmps.getD t undef = u := by
        simp only [a, Array.getD_eq_getD_getElem?]
        rw [Array.getElem?_append_left (by simpa using hlt)]
        simp [h1]
      rw [this]
      simpa using h2
  have hall : ∀ t ∈ writes body, t < a.tmps.size := by
    intro t ht
    rw [List.all_eq_true] at hsz
    have := hsz t ht
    rw [Nat.blt_eq] at this
    simp [a]
    omega
  refine calls_of_wp hf hbody (wp_mono ((ev_ok TOK GC hmix body hlam).1 R _ a w _ hst hall hh') ?_)
  rintro e a' w' ⟨z, s', rfl, h1, ⟨M', rfl, hb', I', hr'⟩, hap⟩
  have fin : (evRes C fn c.res (.normal, s')).holds (fun y => y = c.fn x) →
      a'.defers = [] ∧ ∃ v, (results fn a'.tmps).run P M'.w = .ok v M'.w ∧ ∃ v', Ending.returned v = Ending.returned v' ∧ Grows w M'.w ∧ ∃ N : Stab, (∀ b o, N b o → w.heap.size ≤ b ∧ b < M'.w.heap.size) ∧ RelRes M'.w (fun b o => S b o ∨ N b o) c.res (c.fn x) v' := by
    intro hF
    simp only [evRes] at hF
    split at hF
    · exact hF.elim
    rename_i as has
    split at hF
    · exact hF.elim
    rename_i y ws htk
    simp only [Tree.holds] at hF
    subst hF
    obtain ⟨us', q1, q2⟩ := resArgs_sound TOK I' hb' hr' has
    obtain ⟨_, S', fz, henc'⟩ := takes_sound I' q2 htk
    refine ⟨hap.defers, _, results_run q1, _, rfl, ⟨I'.os, I'.tape, I'.output, I'.size, fun k hk => I'.frame k hk id⟩, fun b o => S' b o ∧ w.heap.size ≤ b, fun b o hN => ⟨hN.2, (fz.inv.here b o hN.1).2⟩, us', ?_, by rcases us' with _ | ⟨u, _ | ⟨v, us⟩⟩ <;> rfl⟩
    refine henc'.keeps (fun b o hs => ⟨?_, rfl⟩)
    rcases (fz.inv.here b o hs).1 with h3 | h3 | h3
    · exact .inl h3
    · exact .inr ⟨hs, h3⟩
    · exact h3.elim
  cases z with
  | exit id => exact h1.elim
  | normal => exact fin h1
  | ret => exact fin h1
end
end Go.Ev
