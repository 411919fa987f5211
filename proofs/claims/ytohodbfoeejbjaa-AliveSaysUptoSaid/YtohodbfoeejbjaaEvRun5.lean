/- Regions that have guards, or a draw: from end to end. -/
import Derived.Test.YtohodbfoeejbjaaEvRun4
set_option linter.unusedVariables false
set_option linter.unusedSimpArgs false
namespace Go.Ev

theorem effsNeed_holds {all : List Oper} {F : St → Prop} : ∀ {l : List Oper} {r : List (St × Eff)} {t : Tree St}, (effsNeed all l r t).holds F →
    (∀ (i : Nat) (o : Oper) (x : St × Eff), l[i]? = some o → r[i]? = some x → ∀ p, gneed x.1 (chain all all.length o) x.2.need = some p → p) ∧ t.holds F
  | [], _, t, h => ⟨fun i o x hi => by simp at hi, h⟩
  | _ :: _, [], t, h => ⟨fun i o x _ hx => by simp at hx, h⟩
  | o :: l, x :: r, t, h => by
    simp only [effsNeed] at h
    obtain ⟨h1, h2⟩ := holds_needO.1 h
    obtain ⟨h3, h4⟩ := effsNeed_holds h2
    refine ⟨fun i o' x' hi hx => ?_, h4⟩
    cases i with
    | zero => simp at hi hx; subst hi; subst hx; exact h1
    | succ i => exact h3 i o' x' (by simpa using hi) (by simpa using hx)

theorem feet_get {all : List Oper} : ∀ {l : List Oper} {r : List (St × Eff)} {i : Nat} {o : Oper} {x : St × Eff}, l[i]? = some o → r[i]? = some x → (feet all l r)[i]? = some (foot all o x.1 x.2)
  | [], _, _, _, _, h, _ => by simp at h
  | _ :: _, [], _, _, _, _, h => by simp at h
  | o :: l, x :: r, 0, _, _, h, k => by simp at h k; subst h; subst k; rfl
  | o :: l, x :: r, i + 1, _, _, h, k => by simp only [feet, List.getElem?_cons_succ] at h k ⊢; exact feet_get h k

def Bound (o : Oper) (j : Nat) : Prop := ∃ e ∈ o.after, e.on = j ∧ Region.binds .any e = true

theorem orderOK_spec : ∀ {l : List Oper} {fs : List Foot} {before : List (Nat × Foot)} {k : Nat}, orderOK l fs before k = true → ∀ (i : Nat) (o : Oper) (f : Foot), l[i]? = some o → fs[i]? = some f →
    (∀ x ∈ before, Bound o x.1 ∨ disj x.2 f = true) ∧ (∀ (j : Nat) (g : Foot), j < i → fs[j]? = some g → Bound o (k + j) ∨ disj g f = true) ∧ (∀ e ∈ o.after, Region.binds .any e = true → e.on < k + i)
  | [], _, _, _, _, i, _, _, hi, _ => by simp at hi
  | _ :: _, [], _, _, _, i, _, _, _, hf => by simp at hf
  | o :: l, f :: fs, before, k, h, i, o', f', hi, hf => by
    simp only [orderOK, Bool.and_eq_true, List.all_eq_true, Bool.or_eq_true, List.any_eq_true, Bool.not_eq_true'] at h
    obtain ⟨⟨h1, h2⟩, h3⟩ := h
    have hb : ∀ {o : Oper} {j : Nat}, (∃ e ∈ o.after.toList, Nat.beq e.on j = true ∧ Region.binds .any e = true) → Bound o j := by
      rintro o j ⟨e, he, h4, h5⟩
      exact ⟨e, Array.mem_toList_iff.1 he, Nat.eq_of_beq_eq_true h4, h5⟩
    cases i with
    | zero =>
      simp at hi hf
      subst hi
      subst hf
      refine ⟨fun x hx => (h1 x hx).imp hb id, fun j g hj => by omega, fun e he hbe => ?_⟩
      rcases h2 e (Array.mem_toList_iff.2 he) with h4 | h4
      · rw [hbe] at h4; cases h4
      · simpa [Nat.blt_eq] using h4
    | succ i =>
      obtain ⟨q1, q2, q3⟩ := orderOK_spec h3 i o' f' (by simpa using hi) (by simpa using hf)
      refine ⟨fun x hx => q1 x (List.mem_cons_of_mem _ hx), fun j g hj hg => ?_, fun e he hbe => by have := q3 e he hbe; omega⟩
      cases j with
      | zero =>
        simp at hg
        subst hg
        exact q1 (k, f) (by simp)
      | succ j =>
        have := q2 j g (by omega) (by simpa using hg)
        rwa [show k + 1 + j = k + (j + 1) by omega] at this

theorem ov_false {b : Nat} {B : Box} {L : Nat → Bool} : ∀ {r : List (St × Eff)} {k : Nat} {f : Nat → Option (Bool × Box)}, ov L (uBs r) k f b = some (false, B) → f b = some (false, B)
  | [], _, _, h => h
  | x :: r, k, f, h => by
    simp only [uBs, List.map_cons, ov] at h
    have := ov_false (r := r) h
    unfold lay uB at this
    cases hw : wrAt b x.2.wr with
    | none =>
      rw [hw] at this
      simp only [Option.map_none] at this
      cases hL : L k <;> rw [hL] at this <;> exact this
    | some B' =>
      rw [hw] at this
      simp only [Option.map_some] at this
      cases hL : L k <;> rw [hL] at this
      · exact this
      · simp at this

theorem lk_filter {α : Type} (l : List Nat) (t : Nat) : ∀ m : List (Nat × α), lk t (m.filter fun x => !(memN x.1 l)) = if memN t l = true then none else lk t m
  | [] => by simp [lk]
  | (j, v) :: m => by
    have ih := lk_filter l t m
    simp only [List.filter_cons]
    cases hj : memN j l with
    | true =>
      simp only [Bool.not_true, Bool.false_eq_true, if_false, ih, lk]
      split
      · rfl
      · rename_i hne
        cases hb : Nat.beq j t with
        | true => rw [Nat.eq_of_beq_eq_true hb] at hj; exact absurd hj hne
        | false => rfl
    | false =>
      simp only [Bool.not_false, if_true, lk, ih]
      cases hb : Nat.beq j t with
      | true => rw [Nat.eq_of_beq_eq_true hb] at hj; simp [hj]
      | false => rfl

theorem look_drop (s : St) (l : List Nat) (t : Nat) : (s.drop l).look t = if memN t l = true then .undef else s.look t := by
  unfold St.drop
  split
  · simp [memN]
  · unfold St.look
    simp only
    rw [lk_filter]
    split <;> rfl

theorem boxes_drop (s : St) (l : List Nat) : (s.drop l).boxes = s.boxes := by
  unfold St.drop
  split <;> rfl

theorem countP_lt {p p' : Nat → Bool} : ∀ {l : List Nat}, (∀ j ∈ l, p' j = true → p j = true) → (∃ i ∈ l, p i = true ∧ p' i = false) → l.countP p' < l.countP p
  | [], _, ⟨i, hi, _⟩ => by simp at hi
  | x :: l, h, ⟨i, hi, h1, h2⟩ => by
    have hle : l.countP p' ≤ l.countP p := List.countP_mono_left (fun j hj => h j (by simp [hj]))
    simp only [List.countP_cons]
    rcases List.mem_cons.1 hi with rfl | hi
    · rw [h1, h2]
      simp
      omega
    · have := countP_lt (fun j hj => h j (by simp [hj])) ⟨i, hi, h1, h2⟩
      have hx : (if p' x = true then 1 else 0) ≤ (if p x = true then 1 else 0) := by
        cases hp : p' x with
        | false => simp
        | true => rw [h x (by simp) hp]; simp
      omega

section
variable {P : Program} {C : Ctx} {R : Ref} {A : Array Oper} {r : List (St × Eff)} {s0 sE : St} {a0 a : Act} {L : Nat → Bool} {M : Mem}

theorem Closed.add (G : Reg C A.toList r s0 sE) (Cl : Closed A r L) {i : Nat} {o : Oper} {x : St × Eff} (hi : A[i]? = some o) (hx : r[i]? = some x) (Y : May A r L i (foot A.toList o x.1 x.2)) : Closed A r (addL L i) := by
  intro m om y hm hy hL j oj z hj hoj hz
  have up : L j = true → addL L i j = true := fun h => by simp [addL, h]
  by_cases hmi : m = i
  · subst hmi
    have : om = o := Option.some.inj (hm.symm.trans hi)
    subst this
    have : y = x := Option.some.inj (hy.symm.trans hx)
    subst this
    exact (Y.before j oj z hj hoj hz).imp id up
  · rw [addL_ne L hmi] at hL
    exact (Cl m om y hm hy hL j oj z hj hoj hz).imp id up

theorem At.start {s : St} {w : World} (K : GOK A) (hL : ∀ j, L j = false) {M : Mem} (hb : M.bs = s.boxes) (I : InvM R M) (hr : ∀ t, RelV M (s.look t) (a.tmps.getD t undef)) : At A r s R a L a M := by
  refine ⟨I, fun b => ?_, fun m o t _ _ h => (by rw [hL] at h; cases h), fun t _ => ?_, rfl, rfl, fun _ _ => rfl⟩
  · rw [ov_none (fun i u _ _ => hL _), hb]
  · rw [ov_none (fun i u _ _ => hL _)]
    exact hr t

theorem At.done (K : GOK A) (G : Reg C A.toList r s0 sE) (H : At A r s0 R a0 L a M) (hL : ∀ j, j < A.size → L j = true) :
    IsSt R (sE.drop (guarded A.toList)) a M.w ∧ Apart (fun t => ∃ o ∈ A.toList, o.dst = some t) s0 a0 (sE.drop (guarded A.toList)) a := by
  have hlen : ∀ {α : Type} {us : List α} {i : Nat} {u : α}, us.length = A.toList.length → us[i]? = some u → L (0 + i) = true := by
    intro α us i u hl hu
    have := (List.getElem?_eq_some_iff.1 hu).1
    rw [hl] at this
    exact hL _ (by simpa using this)
  have lS : (uSs A.toList r).length = A.toList.length := by
    have : ∀ (l : List Oper) (r : List (St × Eff)), r.length = l.length → (uSs l r).length = l.length := by
      intro l
      induction l with
      | nil => intro r _; simp [uSs]
      | cons o l ih =>
        intro r hr
        cases r with
        | nil => simp at hr
        | cons x r => simp [uSs, ih r (by simpa using hr)]
    exact this _ _ G.len
  have lB : (uBs r).length = A.toList.length := by simp [uBs, G.len]
  have hbx : ∀ b, lk b sE.boxes = lk b M.bs := fun b => by
    rw [G.boxE, H.box]
    exact ov_congr rfl (fun i u hu _ => (hlen lB hu).symm)
  have hsl : ∀ t, sE.look t = ov L (uSs A.toList r) 0 s0.look t := fun t => by
    rw [G.lookE]
    exact ov_congr rfl (fun i u hu _ => (hlen lS hu).symm)
  have I2 : InvM R { M with bs := sE.boxes } := H.mem.sub (fun b x hx => by rw [← hbx]; exact hx)
  have st : Step M { M with bs := sE.boxes } (fun _ => False) := ⟨Keeps.refl _ _, fun b d B h _ => ⟨d, B, by rw [← h]; exact hbx b, rfl, Box.le_refl B⟩⟩
  refine ⟨⟨{ M with bs := sE.boxes }, rfl, (boxes_drop _ _).symm, I2, fun t => ?_⟩, H.size, H.defers, fun t ht => H.out t (fun o ho hd => ht ⟨o, ho, hd⟩), fun t ht => ?_, fun b B hB => ?_⟩
  · rw [look_drop]
    split
    · simp [RelV]
    · rename_i hng
      rw [hsl]
      refine (H.slot t (fun m o hm ht _ => ?_)).steps st
      refine wnt_none ?_
      cases hg : o.guard with
      | none => rfl
      | some jw =>
        refine absurd ?_ hng
        rw [memN_iff]
        unfold guarded
        rw [List.mem_filterMap]
        exact ⟨o, List.mem_filter.2 ⟨Array.mem_toList_iff.2 (Array.mem_of_getElem? hm), by simp [hg]⟩, ht⟩
  · rw [look_drop]
    split
    · exact .inl rfl
    · refine .inr ?_
      rw [hsl]
      refine ov_none (fun i u hu hut => ?_)
      obtain ⟨o, x, h1, h2, rfl⟩ := uSs_inv hu
      exact absurd ⟨o, List.mem_of_getElem? h1, uS_some hut⟩ ht
  · rw [boxes_drop, G.boxE] at hB
    exact ov_false hB

/-- In the order of the text. -/
theorem text_wp (TOK : TysOK P C.τ) (GC : CtrsOK P C.Γ) (K : GOK A) (G : Reg C A.toList r s0 sE) (hd : ∀ o ∈ A.toList, ∀ k, o.dst = some k → k < a0.tmps.size)
    (hn : ∀ (i : Nat) (o : Oper) (x : St × Eff), A.toList[i]? = some o → r[i]? = some x → ∀ p, gneed x.1 (chain A.toList A.toList.length o) x.2.need = some p → p) {Q : Exit → Act → World → Prop}
    (hQ : ∀ (L : Nat → Bool) a' M', (∀ j, j < A.size → L j = true) → At A r s0 R a0 L a' M' → Q .normal a' M'.w) : ∀ (m k : Nat) (a : Act) (M : Mem), k + m = A.size → At A r s0 R a0 (fun j => decide (j < k)) a M → wpOps P A Q (List.range' k m) a M.w
  | 0, k, a, M, hk, H => by
    simp only [List.range'_zero, wpOps]
    exact hQ _ a M (fun j hj => by simpa using (show j < k by omega)) H
  | m + 1, k, a, M, hk, H => by
    rw [List.range'_succ, wpOps_cons]
    have hlt : k < A.size := by omega
    have hi : A[k]? = some A[k] := Array.getElem?_eq_getElem hlt
    obtain ⟨x, hx⟩ := G.get hi
    have Cl : Closed A r (fun j => decide (j < k)) := by
      intro i o x hi hx hL j oj y hj _ _
      simp only [decide_eq_true_eq] at hL ⊢
      exact .inr (by omega)
    have Y : May A r (fun j => decide (j < k)) k (foot A.toList A[k] x.1 x.2) := ⟨fun j oj y hj _ _ => .inr (by simpa using hj), fun j oj y hj _ _ => .inr (by simp; omega), by simp⟩
    refine H.step TOK GC K G Cl hi hx Y (fun d hdd => by rw [H.size]; exact hd _ (by simp) d hdd) (hn k A[k] x (by simp) hx) (fun a' M' H' => ?_)
    refine text_wp TOK GC K G hd hn hQ m (k + 1) a' M' (by omega) ?_
    have : addL (fun j => decide (j < k)) k = fun j => decide (j < k + 1) := by
      funext j
      unfold addL
      cases hb : Nat.beq j k with
      | true => have := Nat.eq_of_beq_eq_true hb; simp [this]
      | false =>
        have : j ≠ k := fun h => by rw [h] at hb; simp at hb
        simp
        omega
    rw [← this]
    exact H'

/-- In any order. -/
theorem any_wp (TOK : TysOK P C.τ) (GC : CtrsOK P C.Γ) (K : GOK A) (G : Reg C A.toList r s0 sE) (hd : ∀ o ∈ A.toList, ∀ k, o.dst = some k → k < a0.tmps.size)
    (hn : ∀ (i : Nat) (o : Oper) (x : St × Eff), A.toList[i]? = some o → r[i]? = some x → ∀ p, gneed x.1 (chain A.toList A.toList.length o) x.2.need = some p → p) (hord : orderOK A.toList (feet A.toList A.toList r) [] 0 = true) {Q : Exit → Act → World → Prop}
    (hQ : ∀ (L : Nat → Bool) a' M', (∀ j, j < A.size → L j = true) → At A r s0 R a0 L a' M' → Q .normal a' M'.w) : ∀ (fuel : Nat) (listed : Array Bool) (a : Act) (M : Mem), listed.size = A.size →
      At A r s0 R a0 (fun j => listed.getD j false) a M → Closed A r (fun j => listed.getD j false) → (List.range A.size).countP (fun j => !listed.getD j false) ≤ fuel → wpAny P .any A Q fuel listed a M.w := by
  have hall : ∀ (listed : Array Bool), listed.size = A.size → Region.ready .any A listed = [] → ∀ j, j < A.size → listed.getD j false = true := by
    intro listed hs hr j
    induction j using Nat.strongRecOn with
    | _ j ih =>
      intro hj
      cases hl : listed.getD j false with
      | true => rfl
      | false =>
        exfalso
        have hi : A[j]? = some A[j] := Array.getElem?_eq_getElem hj
        obtain ⟨x, hx⟩ := G.get hi
        have : j ∈ Region.ready .any A listed := by
          rw [mem_ready]
          refine ⟨?_, A[j], hi, fun e he hb => ?_⟩
          · simp only [Array.getD_eq_getD_getElem?] at hl ⊢
            have hj' : j < listed.size := by omega
            simpa [hj'] using hl
          · have hi' : A.toList[j]? = some A[j] := by rw [Array.getElem?_toList]; exact hi
            have := ((orderOK_spec hord j A[j] _ hi' (feet_get hi' hx)).2.2) e he hb
            rw [Nat.zero_add] at this
            exact ih e.on this (by omega)
        rw [hr] at this
        cases this
  intro fuel
  induction fuel with
  | zero =>
    intro listed a M hs H Cl hc
    have hz : ∀ j, j < A.size → listed.getD j false = true := by
      intro j hj
      have h0 : (List.range A.size).countP (fun j => !listed.getD j false) = 0 := by omega
      rw [List.countP_eq_zero] at h0
      have := h0 j (List.mem_range.2 hj)
      simpa using this
    refine ⟨?_, hQ _ a M hz H⟩
    cases hr : Region.ready .any A listed with
    | nil => rfl
    | cons i l =>
      have hm : i ∈ Region.ready .any A listed := by rw [hr]; simp
      obtain ⟨h1, o, ho, _⟩ := mem_ready.1 hm
      have hlt := (Array.getElem?_eq_some_iff.1 ho).1
      have := hz i hlt
      have hj' : i < listed.size := by omega
      simp [hj'] at h1 this
      rw [this] at h1
      cases h1
  | succ fuel ih =>
    intro listed a M hs H Cl hc
    refine ⟨fun hr => hQ _ a M (hall listed hs hr) H, fun i hir => ?_⟩
    obtain ⟨h1, o, ho, hedge⟩ := mem_ready.1 hir
    have hlt : i < A.size := (Array.getElem?_eq_some_iff.1 ho).1
    have hlt' : i < listed.size := by omega
    have hself : listed.getD i false = false := by simp [hlt'] at h1 ⊢; exact h1
    obtain ⟨x, hx⟩ := G.get ho
    have Y : May A r (fun j => listed.getD j false) i (foot A.toList o x.1 x.2) := by
      refine ⟨fun j oj y hj hoj hy => ?_, fun j oj y hj hoj hy => ?_, hself⟩
      · have := (orderOK_spec hord i o _ (by simpa using ho) (feet_get (by simpa using ho) hx)).2.1 j _ hj (feet_get (by simpa using hoj) hy)
        rw [Nat.zero_add] at this
        rcases this with ⟨e, he, h2, h3⟩ | h2
        · have := hedge e he h3
          rw [h2] at this
          exact .inr this
        · exact .inl h2
      · cases hl : listed.getD j false with
        | false => exact .inr rfl
        | true =>
          rcases Cl j oj y hoj hy hl i o x hj ho hx with h2 | h2
          · exact .inl h2
          · exfalso
            simp only at h2
            rw [hself] at h2
            cases h2
    have hadd : (fun j => (listed.setIfInBounds i true).getD j false) = addL (fun j => listed.getD j false) i := by
      funext j
      unfold addL
      cases hb : Nat.beq j i with
      | true =>
        have := Nat.eq_of_beq_eq_true hb
        subst this
        simp [hlt']
      | false =>
        have : i ≠ j := fun h => by rw [h] at hb; simp at hb
        simp [Array.getElem?_setIfInBounds_ne this]
    refine H.step TOK GC K G Cl ho hx Y (fun d hdd => by rw [H.size]; exact hd _ (Array.mem_toList_iff.2 (Array.mem_of_getElem? ho)) d hdd) (hn i o x (by simpa using ho) hx) (fun a' M' H' => ?_)
    refine ih _ a' M' (by simpa using hs) (by rw [hadd]; exact H') (by rw [hadd]; exact Cl.add G ho hx Y) ?_
    have : (List.range A.size).countP (fun j => !(listed.setIfInBounds i true).getD j false) < (List.range A.size).countP (fun j => !listed.getD j false) := by
      refine countP_lt (fun j _ hj => ?_) ⟨i, List.mem_range.2 hlt, by simp [hself], by simp [hlt']⟩
      have hh := congrFun hadd j
      rw [hh] at hj
      unfold addL at hj
      simp only [Bool.not_or, Bool.and_eq_true] at hj
      exact hj.1
    omega

theorem drew_eq (w : World) : ({ w with drawn := w.drawn + 1 } : World) = w.drew := rfl

/-- A region that has guards, or a draw. -/
theorem runDraw_wp (TOK : TysOK P C.τ) (GC : CtrsOK P C.Γ) (hmix : P.follows .mixedOrders = true) {id : Nat} {ops : Array Oper} {draw : Bool} {s : St} {w : World} {F : St → Prop} (hs : IsSt R s a w) (hF : (runDraw C ops.toList draw s).holds F)
    (hd : ∀ o ∈ ops.toList, ∀ k, o.dst = some k → k < a.tmps.size) {Q : Exit → Act → World → Prop}
    (hQ : ∀ s' a' w', F s' → IsSt R s' a' w' → Apart (fun t => ∃ o ∈ ops.toList, o.dst = some t) s a s' a' → Q .normal a' w') : (Code.region id ops draw).wp P Q a w := by
  unfold runDraw at hF
  split at hF
  · exact hF.elim
  rename_i hg
  split at hF
  · exact hF.elim
  rename_i r sE he
  split at hF
  · rename_i hok
    simp only [Bool.and_eq_true, Bool.or_eq_true, Bool.not_eq_true'] at hok
    obtain ⟨hok, hord⟩ := hok
    obtain ⟨hn, hF⟩ := effsNeed_holds hF
    have K := GOK.of hg
    have G := Reg.of he hok
    have fin : ∀ (L : Nat → Bool) a' M', (∀ j, j < ops.size → L j = true) → At ops r s R a L a' M' → Q .normal a' M'.w := fun L a' M' hL H => by
      obtain ⟨h1, h2⟩ := H.done K G hL
      exact hQ _ a' M'.w hF h1 h2
    obtain ⟨M, rfl, hb, I, hr⟩ := hs
    cases draw with
    | false =>
      refine wp_region ?_
      rw [List.range_eq_range']
      exact text_wp TOK GC K G hd hn fin ops.size 0 a M (by omega) (At.start (w := M.w) K (fun j => by simp) hb I hr)
    | true =>
      have hord := hord.resolve_left (by simp)
      refine wp_region_any hmix ?_
      rw [drew_eq]
      obtain ⟨I2, st⟩ := I.grow (Grows.drew M.w)
      have hz : ∀ j, (Array.replicate ops.size false).getD j false = false := by
        intro j
        simp only [Array.getD_eq_getD_getElem?, Array.getElem?_replicate]
        split <;> rfl
      refine any_wp TOK GC K G hd hn hord fin ops.size (Array.replicate ops.size false) a { M with w := M.w.drew } (by simp) (At.start (w := M.w) K hz hb I2 (fun t => (hr t).steps st)) ?_ ?_
      · intro i o x _ _ hL
        simp only at hL
        rw [hz] at hL
        cases hL
      · exact Nat.le_trans List.countP_le_length (by simp)
  · exact hF.elim
end
end Go.Ev
