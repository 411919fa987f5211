/- Regions that have guards, or a draw: one operation more; any order. -/
import Derived.Test.YtohodbfoeejbjaaEvRun3
set_option linter.unusedVariables false
set_option linter.unusedSimpArgs false
namespace Go.Ev

def addL (L : Nat → Bool) (i : Nat) : Nat → Bool := fun j => L j || Nat.beq j i

theorem addL_self (L : Nat → Bool) (i : Nat) : addL L i i = true := by simp [addL]
theorem addL_ne (L : Nat → Bool) {i j : Nat} (h : j ≠ i) : addL L i j = L j := by
  unfold addL
  cases hb : Nat.beq j i with
  | true => exact absurd (Nat.eq_of_beq_eq_true hb) h
  | false => simp

section
variable {P : Program} {C : Ctx} {R : Ref} {A : Array Oper} {r : List (St × Eff)} {s0 sE : St} {a0 a : Act} {L : Nat → Bool} {M : Mem}

theorem wnt_put (K : GOK A) (G : Reg C A.toList r s0 sE) {i : Nat} {o : Oper} {x : St × Eff} (hi : A[i]? = some o) (hx : r[i]? = some x) (Y : May A r L i (foot A.toList o x.1 x.2)) (hd : ∀ k, o.dst = some k → k < a.tmps.size) (v : Value)
    {m : Nat} {om : Oper} (hm : A[m]? = some om) (hL : addL L i m = true) : wnt A om (a.put o.dst v) = wnt A om a := by
  cases hg : om.guard with
  | none => rw [wnt_none hg, wnt_none hg]
  | some jw =>
    obtain ⟨j, w⟩ := jw
    obtain ⟨hlt, oj, d, hj, hdj⟩ := K.guard m om j w hm hg
    have hne : o.dst ≠ some d := by
      intro h
      have hji := nodup_unique K.nodup (i := j) (j := i) (by simpa using hj) (by simpa using hi) hdj h
      subst hji
      have hmi : m ≠ j := by omega
      rw [addL_ne L hmi] at hL
      obtain ⟨y, hy⟩ := G.get hm
      rcases Y.behind m om y hlt hm hy with h1 | h1
      · have := ((disj_spec h1).1 d (by simpa [foot] using h)).1
        have hj' : A.toList[j]? = some oj := by simpa using hj
        exact this (by simp [foot, guardSlot, hg, hj', hdj])
      · rw [hL] at h1; cases h1
    have e : (a.put o.dst v).tmps.getD d undef = a.tmps.getD d undef := by rw [put_getD a o.dst v d hd, if_neg hne]
    have h1 := wnt_some (a := a.put o.dst v) hg hj hdj
    have h2 := wnt_some (a := a) hg hj hdj
    rw [e] at h1
    exact Bool.eq_iff_iff.2 (h1.trans h2.symm)

theorem At.put (K : GOK A) (G : Reg C A.toList r s0 sE) (H : At A r s0 R a0 L a M) {i : Nat} {o : Oper} {x : St × Eff} (hi : A[i]? = some o) (hx : r[i]? = some x) (Y : May A r L i (foot A.toList o x.1 x.2)) (hd : ∀ k, o.dst = some k → k < a.tmps.size) {v : Value} {M' : Mem}
    (I : InvM R M') (hb : ∀ b, lk b M'.bs = lk b (applyB x.2.wr M.bs)) (st : Step M M' (killed x.2.wr)) (h1 : wnt A o a = true → RelV M' x.2.av v) (h2 : wnt A o a = false → v = undef) : At A r s0 R a0 (addL L i) (a.put o.dst v) M' := by
  have hwr := (G.fresh i o x (by simpa using hi) hx).1
  refine ⟨I, fun b => ?_, fun m om t hm ht hL hw => ?_, fun t ht => ?_, (put_size _ _ _).trans H.size, (put_defers' _ _ _).trans H.defers, fun t ht => ?_⟩
  · rw [hb, lk_applyB]
    cases hw : wrAt b x.2.wr with
    | none =>
      simp only
      rw [H.box]
      refine ov_congr rfl (fun j u hj hu => ?_)
      simp only [Nat.zero_add]
      refine (addL_ne L ?_).symm
      rintro rfl
      simp only [uBs, List.getElem?_map, hx, Option.map_some, Option.some.injEq] at hj
      subst hj
      exact hu (by simp [uB, hw])
    | some B =>
      simp only
      refine (ov_last i (uB x) (by simp [uBs, hx]) (by simp [uB, hw]) (by rw [Nat.zero_add]; exact addL_self L i) (fun j u hj hju hu => ?_)).symm
      rw [Nat.zero_add, addL_ne L (by omega)]
      simp only [uBs, List.getElem?_map, Option.map_eq_some_iff] at hju
      obtain ⟨y, hy, rfl⟩ := hju
      have hmem := uB_some hu
      have hj' : ∃ o', A[j]? = some o' := by
        have := (List.getElem?_eq_some_iff.1 hy).1
        rw [G.len] at this
        have hh : j < A.size := by simpa using this
        exact ⟨A[j], Array.getElem?_eq_getElem hh⟩
      obtain ⟨o', ho'⟩ := hj'
      rcases Y.behind j o' y hj ho' hy with h | h
      · exact absurd (show b ∈ (foot A.toList o' y.1 y.2).wb by simpa [foot] using hmem) ((disj_spec h).2.2.1 b (by simpa [foot] using wrAt_mem hw)).2
      · exact h
  · rw [wnt_put K G hi hx Y hd v hm hL] at hw
    rw [put_getD a o.dst v t hd]
    by_cases hmi : m = i
    · subst hmi
      have : om = o := Option.some.inj (hm.symm.trans hi)
      subst this
      rw [if_pos ht]
      exact h2 hw
    · rw [if_neg (fun h => hmi (nodup_unique K.nodup (by simpa using hm) (by simpa using hi) ht h))]
      rw [addL_ne L hmi] at hL
      exact H.skipped m om t hm ht hL hw
  · rw [put_getD a o.dst v t hd]
    by_cases hdt : o.dst = some t
    · rw [if_pos hdt, slot_of K (addL L i) hi hx hdt (addL_self L i)]
      refine h1 ?_
      rw [← wnt_put K G hi hx Y hd v hi (addL_self L i)]
      exact ht i o hi hdt (addL_self L i)
    · rw [if_neg hdt]
      have e : ov (addL L i) (uSs A.toList r) 0 s0.look t = ov L (uSs A.toList r) 0 s0.look t := by
        refine ov_congr rfl (fun j u hj hu => ?_)
        simp only [Nat.zero_add]
        refine addL_ne L ?_
        rintro rfl
        obtain ⟨o', y, q1, q2, rfl⟩ := uSs_inv hj
        have : o' = o := Option.some.inj ((show A[j]? = some o' by simpa using q1).symm.trans hi)
        subst this
        exact hdt (uS_some hu)
      rw [e]
      refine (H.slot t (fun m om hm hmt hL => ?_)).step st (fun b hk => ?_)
      · have hmi : m ≠ i := by
          rintro rfl
          have : om = o := Option.some.inj (hm.symm.trans hi)
          subst this
          exact hdt hmt
        have hL' : addL L i m = true := by rw [addL_ne L hmi]; exact hL
        rw [← wnt_put K G hi hx Y hd v hm hL']
        exact ht m om hm hmt hL'
      · have hnone := (fresh_tmps x.2.wr x.1 hwr).2 b hk
        have hmem : b ∈ (foot A.toList o x.1 x.2).wb := by
          obtain ⟨B, hB⟩ := hk
          simp only [foot, List.mem_map]
          exact ⟨_, hB, rfl⟩
        have hMb : lk b M.bs = none := by rw [H.box, read_box G hi hx Y (.inr hmem), hnone]
        cases hh : (ov L (uSs A.toList r) 0 s0.look t).has b with
        | false => rfl
        | true => exact absurd hMb ((H.slot t (fun m om hm hmt hL => by
            have hmi : m ≠ i := by
              rintro rfl
              have : om = o := Option.some.inj (hm.symm.trans hi)
              subst this
              exact hdt hmt
            have hL' : addL L i m = true := by rw [addL_ne L hmi]; exact hL
            rw [← wnt_put K G hi hx Y hd v hm hL']
            exact ht m om hm hmt hL')).has_box b hh)
  · rw [put_getD a o.dst v t hd, if_neg (ht o (by
      have : o ∈ A := Array.mem_of_getElem? hi
      exact Array.mem_toList_iff.2 this))]
    exact H.out t ht

theorem seen_wnt (K : GOK A) {ch : List (Nat × Bool)} (hch : holdsCh a ch) {t : Nat} (hs : seen A.toList A.toList.length ch t = true) {m : Nat} {om : Oper} (hm : A[m]? = some om) (ht : om.dst = some t) : wnt A om a = true := by
  have hpos : 0 < A.toList.length := by
    have := (Array.getElem?_eq_some_iff.1 hm).1
    simp
    omega
  unfold seen at hs
  rw [find_dst K.nodup (by simpa using hm) ht] at hs
  simp only at hs
  obtain ⟨n, hn⟩ : ∃ n, A.toList.length = n + 1 := ⟨A.toList.length - 1, by omega⟩
  refine holds_wnt K (n := n) hm (fun z hz => hch z (subP_iff hs z ?_))
  rw [hn]
  exact hz

theorem eval_of {s : St} {y : Operand} (h : ∀ t, y = .tmp t → RelV M (s.look t) (a.tmps.getD t undef)) : RelV M (s.eval y) (a.eval y) := by
  cases y with
  | tmp t => exact h t rfl
  | const v => exact constAV_rel v
  | global g => simp [St.eval, RelV]
  | func f => simp [St.eval, RelV, Act.eval, RelL]

theorem gcond_of {s : St} : ∀ {ch : List (Nat × Bool)}, (∀ z ∈ ch, ∀ b : Bool, s.look z.1 = .val .bool b → b = z.2) → gcond s ch = true
  | [], _ => rfl
  | (d, w) :: l, h => by
    unfold gcond
    split
    · rename_i x hx
      have := h (d, w) (by simp) x hx
      simp only at this
      subst this
      have ih := gcond_of (ch := l) (fun z hz => h z (List.mem_cons_of_mem _ hz))
      simp [ih]
    · exact gcond_of (ch := l) (fun z hz => h z (List.mem_cons_of_mem _ hz))

/-- One operation more. -/
theorem At.step (TOK : TysOK P C.τ) (GC : CtrsOK P C.Γ) (K : GOK A) (G : Reg C A.toList r s0 sE) (H : At A r s0 R a0 L a M) (Cl : Closed A r L) {i : Nat} {o : Oper} {x : St × Eff} (hi : A[i]? = some o) (hx : r[i]? = some x)
    (Y : May A r L i (foot A.toList o x.1 x.2)) (hd : ∀ k, o.dst = some k → k < a.tmps.size) (hn : ∀ p, gneed x.1 (chain A.toList A.toList.length o) x.2.need = some p → p)
    {next : Act → World → Prop} {Q : Exit → Act → World → Prop} (hnext : ∀ a' M', At A r s0 R a0 (addL L i) a' M' → next a' M'.w) : wpOp P A Q i next a M.w := by
  unfold wpOp
  rw [hi]
  simp only
  have hmemA : o ∈ A.toList := Array.mem_toList_iff.2 (Array.mem_of_getElem? hi)
  cases hw : wnt A o a with
  | false =>
    rw [if_neg (by simpa [wnt] using hw)]
    refine hnext (a.put o.dst undef) M ?_
    have hg : o.guard ≠ none := fun hg => by rw [wnt_none hg] at hw; cases hw
    have hwr : x.2.wr = [] := ((G.fresh i o x (by simpa using hi) hx).2).resolve_left hg
    refine H.put K G hi hx Y hd H.mem (fun b => by rw [hwr]; rfl) (by rw [hwr]; exact (Step.refl M _)) (fun h => by rw [hw] at h; cases h) (fun _ => rfl)
  | true =>
    rw [if_pos (by simpa [wnt] using hw)]
    refine .inl ?_
    have hch := chain_holds K G H Cl A.toList.length i o x hi hx Y.before hw
    have hholds : holdsCh a (chain A.toList A.toList.length o) := fun z hz => (hch z hz).1
    have hslot : ∀ {ch : List (Nat × Bool)} {t : Nat}, holdsCh a ch → t ∈ (foot A.toList o x.1 x.2).rt → seen A.toList A.toList.length ch t = true → RelV M (x.1.look t) (a.tmps.getD t undef) := by
      intro ch t hc ht hs
      rw [← read_slot G hi hx Y ht]
      exact H.slot t (fun m om hm hmt _ => seen_wnt K hc hs hm hmt)
    have hrt : ∀ y ∈ o.op.operands.toList, ∀ t, y = .tmp t → t ∈ (foot A.toList o x.1 x.2).rt := by
      rintro y hy t rfl
      simp only [foot, List.mem_append, tmpsOf, List.mem_flatMap]
      exact .inl ⟨_, hy, by simp [tmpOf]⟩
    have hrel : OpRel M x.1.eval a.eval o := by
      have hs := K.seen o hmemA
      unfold guardOK at hs
      simp only at hs
      split at hs
      · rename_i c u v hop
        simp only [Bool.and_eq_true, List.all_eq_true] at hs
        obtain ⟨hs1, hs2⟩ := hs
        have hops : o.op.operands.toList = [c, u, v] := by rw [hop]; rfl
        unfold OpRel
        rw [hop]
        simp only
        have hc : RelV M (x.1.eval c) (a.eval c) := eval_of (fun t ht => hslot hholds (hrt c (by rw [hops]; simp) t ht) (hs1 t (by rw [ht]; simp [tmpOf])))
        cases c with
        | tmp s =>
          simp only [Bool.and_eq_true, List.all_eq_true] at hs2
          refine ⟨hc, fun hb => eval_of (fun t ht => hslot (ch := (s, true) :: chain A.toList A.toList.length o) ?_ (hrt u (by rw [hops]; simp) t ht) (hs2.1 t (by rw [ht]; simp [tmpOf]))),
            fun hb => eval_of (fun t ht => hslot (ch := (s, false) :: chain A.toList A.toList.length o) ?_ (hrt v (by rw [hops]; simp) t ht) (hs2.2 t (by rw [ht]; simp [tmpOf])))⟩
          · intro z hz
            rcases List.mem_cons.1 hz with rfl | hz
            · exact hb
            · exact hholds z hz
          · intro z hz
            rcases List.mem_cons.1 hz with rfl | hz
            · exact hb
            · exact hholds z hz
        | const _ | global _ | func _ =>
          simp only [Bool.and_eq_true, List.all_eq_true] at hs2
          exact ⟨hc, fun _ => eval_of (fun t ht => hslot hholds (hrt u (by rw [hops]; simp) t ht) (hs2.1 t (by rw [ht]; simp [tmpOf]))),
            fun _ => eval_of (fun t ht => hslot hholds (hrt v (by rw [hops]; simp) t ht) (hs2.2 t (by rw [ht]; simp [tmpOf])))⟩
      · rename_i hne
        rw [List.all_eq_true] at hs
        unfold OpRel
        split
        · rename_i c u v hop
          exact absurd hop (hne c u v)
        · intro y hy
          refine eval_of (fun t ht => hslot hholds (hrt y hy t ht) (hs t ?_))
          simp only [tmpsOf, List.mem_flatMap]
          exact ⟨y, hy, by rw [ht]; simp [tmpOf]⟩
    have hargs : x.1.args o = o.op.operands.toList.map fun y => argOf M.bs (x.1.eval y) := by
      unfold St.args
      refine List.map_congr_left (fun y hy => ?_)
      unfold St.arg argOf
      simp only
      cases hbx : boxOf (x.1.eval y) with
      | none => rfl
      | some b =>
        simp only [St.box]
        rw [H.box, read_box G hi hx Y (.inl ?_)]
        simp only [foot, List.mem_filterMap, St.args, List.mem_map]
        exact ⟨_, ⟨y, hy, rfl⟩, hbx⟩
    have hok : x.2.ok := by
      intro p hp
      have hq := hn
      unfold gneed at hq
      rw [hp] at hq
      simp only at hq
      split at hq
      · exact hq p rfl
      · rename_i z l hcl
        refine hq _ rfl (gcond_of (fun z hz b hzb => ?_))
        obtain ⟨h1, m, om, h2, h3, h4, h5, h6⟩ := hch z hz
        obtain ⟨y, hy⟩ := G.get h3
        have hrv := H.slot z.1 (fun m' om' hm' hmt' _ => by
          have : m' = m := nodup_unique K.nodup (by simpa using hm') (by simpa using h3) hmt' h4
          subst this
          have : om' = om := Option.some.inj (hm'.symm.trans h3)
          subst this
          exact h6)
        rw [slot_of K L h3 hy h4 h5] at hrv
        have hlk := G.look i x z.1 hx
        rw [slot_of K _ h3 hy h4 (by simpa using h2)] at hlk
        rw [hlk] at hzb
        rw [hzb] at hrv
        have := relBool hrv
        rw [h1] at this
        simpa using this.symm
    have heff := G.eff i o x (by simpa using hi) hx
    rw [hargs] at heff
    have hy := opEff_sound TOK GC H.mem (eval_func a) hrel heff hok
    refine hy.wp (fun v w' hv => ?_)
    obtain ⟨S', β', I', st', hrv⟩ := hv
    exact hnext _ ⟨w', S', β', applyB x.2.wr M.bs⟩ (H.put K G hi hx Y hd I' (fun b => rfl) st' (fun _ => hrv) (fun h => by rw [hw] at h; cases h))
end
end Go.Ev
