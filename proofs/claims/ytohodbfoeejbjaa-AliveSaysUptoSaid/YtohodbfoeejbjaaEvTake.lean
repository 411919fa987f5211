/- Values that are kept. -/
import Derived.Test.YtohodbfoeejbjaaEvMem2
set_option linter.unusedVariables false
namespace Go.Ev

def applyB : List (Nat × Bool × Box) → Bxs → Bxs
  | [], bs => bs
  | x :: l, bs => applyB l (st' x.1 (true, x.2.2) bs)

theorem applyB_append : ∀ (a b : List (Nat × Bool × Box)) (bs : Bxs), applyB (a ++ b) bs = applyB b (applyB a bs)
  | [], _, _ => rfl
  | x :: a, b, bs => applyB_append a b _

def killed (ws : List (Nat × Bool × Box)) (b : Nat) : Prop := ∃ B, (b, true, B) ∈ ws

def Box.fz : Box → Box
  | .var g x => .var g x
  | .row e g xs _ => .row e g xs true

def argOf (bs : Bxs) (v : AV) : Arg := (v, match boxOf v with | some b => (lk b bs).map (·.2) | none => none)

/-- Rows may have been frozen since; nothing else has turned. -/
structure Froze (R : Ref) (M M' : Mem) : Prop where
  w : M'.w = M.w
  β : M'.β = M.β
  inv : InvM R M'
  step : Step M M' (fun _ => False)
  same : ∀ b d B, lk b M.bs = some (d, B) → ∃ d' B', lk b M'.bs = some (d', B') ∧ B.fz = B'.fz

theorem Froze.refl {R : Ref} {M : Mem} (I : InvM R M) : Froze R M M := ⟨rfl, rfl, I, Step.refl _ _, fun b d B h => ⟨d, B, h, rfl⟩⟩
theorem Froze.trans {R : Ref} {M M' M'' : Mem} (h : Froze R M M') (k : Froze R M' M'') : Froze R M M'' :=
  ⟨k.w.trans h.w, k.β.trans h.β, k.inv, (h.step.trans k.step).mono (fun _ h => h.elim id id), fun b d B hb => by
    obtain ⟨d1, B1, h1, h2⟩ := h.same b d B hb
    obtain ⟨d2, B2, k1, k2⟩ := k.same b d1 B1 h1
    exact ⟨d2, B2, k1, h2.trans k2⟩⟩

/-- An argument, looked up in an elder memory. -/
structure ArgR (M : Mem) (a : Arg) (u : Value) : Prop where
  rel : RelV M a.1 u
  box : ∀ b B, boxOf a.1 = some b → a.2 = some B → ∃ d B', lk b M.bs = some (d, B') ∧ B.fz = B'.fz

theorem ArgR.of {M : Mem} {v : AV} {u : Value} (h : RelV M v u) : ArgR M (argOf M.bs v) u := ⟨h, fun b B hb hB => by
  simp only [argOf] at hb hB
  rw [hb] at hB
  cases hl : lk b M.bs with
  | none => simp [hl] at hB
  | some x =>
    simp [hl] at hB
    exact ⟨x.1, x.2, rfl, by rw [hB]⟩⟩

theorem ArgR.froze {R : Ref} {M M' : Mem} (h : Froze R M M') {a : Arg} {u : Value} (k : ArgR M a u) : ArgR M' a u :=
  ⟨k.rel.steps h.step, fun b B hb hB => by
    obtain ⟨d, B', h1, h2⟩ := k.box b B hb hB
    obtain ⟨d', B'', h3, h4⟩ := h.same b d B' h1
    exact ⟨d', B'', h3, h2.trans h4⟩⟩

theorem asVal_sound {M : Mem} {v : AV} {u : Value} {g : GTy} {x : den g} (h : RelV M v u) (ha : asVal g v = some x) : ∃ cs, Enc M.w M.S g x cs ∧ u = toVal g cs := by
  unfold asVal at ha
  split at ha
  · rename_i h' x'
    split at ha
    · rename_i e _
      subst e
      simp only [Option.some.injEq] at ha
      subst ha
      simpa [RelV] using h
    · cases ha
  · split at ha
    · rename_i a
      simp only [Option.some.injEq] at ha
      subst ha
      simp only [RelV] at h
      subst h
      exact ⟨[.slice none 0 0], ⟨none, 0, rfl, Nat.le_refl _, by simp, Nat.zero_le _, .inl rfl⟩, rfl⟩
    · cases ha
  · cases ha

theorem take_sound {R : Ref} {M : Mem} (I : InvM R M) {a : Arg} {u : Value} {g : GTy} {x : den g} {ws : List (Nat × Bool × Box)} (h : ArgR M a u) (ht : take g a = some (x, ws)) :
    (∀ b, ¬ killed ws b) ∧ ∃ S', Froze R M { M with S := S', bs := applyB ws M.bs } ∧ ∃ cs, Enc M.w S' g x cs ∧ u = toVal g cs := by
  unfold take at ht
  split at ht
  · rename_i b t hh xs f
    split at ht
    · rename_i e _
      subst e
      simp only [Option.some.injEq, Prod.mk.injEq] at ht
      obtain ⟨rfl, rfl⟩ := ht
      obtain ⟨d, B', h1, h2⟩ := h.box b _ rfl rfl
      have hB' : ∃ f', B' = .row t hh xs f' := by
        cases B' with
        | var _ _ => simp [Box.fz] at h2
        | row t' g' xs' f' =>
          simp only [Box.fz, Box.row.injEq] at h2
          obtain ⟨rfl, rfl, h3, _⟩ := h2
          cases eq_of_heq h3
          exact ⟨f', rfl⟩
      obtain ⟨f', rfl⟩ := hB'
      obtain ⟨S', J, s, en⟩ := I.freeze h1
      refine ⟨fun b' hk => by obtain ⟨B, hB⟩ := hk; simp at hB, S', ⟨rfl, rfl, J, s, fun c dc Bc hc => ?_⟩, [M.β b], en, ?_⟩
      · simp only [applyB, lk_st]
        by_cases hcb : c = b
        · subst hcb
          rw [h1] at hc
          simp only [Option.some.injEq, Prod.mk.injEq] at hc
          obtain ⟨rfl, rfl⟩ := hc
          exact ⟨true, .row t hh xs true, by simp, rfl⟩
        · exact ⟨dc, Bc, by simp only [hcb, if_false]; exact hc, rfl⟩
      · have := h.rel
        simp only [RelV] at this
        exact this.2
    · cases ht
  · rename_i v b' hne
    split at ht
    · rename_i x' hx
      simp only [Option.some.injEq, Prod.mk.injEq] at ht
      obtain ⟨rfl, rfl⟩ := ht
      obtain ⟨cs, h1, h2⟩ := asVal_sound h.rel hx
      exact ⟨fun b' hk => by obtain ⟨B, hB⟩ := hk; simp at hB, M.S, Froze.refl I, cs, h1, h2⟩
    · cases ht

theorem killed_append {a b : List (Nat × Bool × Box)} {c : Nat} : killed (a ++ b) c ↔ killed a c ∨ killed b c := by
  constructor
  · rintro ⟨B, hB⟩
    rw [List.mem_append] at hB
    exact hB.imp (fun h => ⟨B, h⟩) (fun h => ⟨B, h⟩)
  · rintro (⟨B, hB⟩ | ⟨B, hB⟩)
    · exact ⟨B, List.mem_append.2 (.inl hB)⟩
    · exact ⟨B, List.mem_append.2 (.inr hB)⟩

/-- Several values. -/
def EncD (w : World) (S : Stab) : (gs : List GTy) → dens gs → List Value → Prop
  | [], _, us => us = []
  | [g], x, us => ∃ cs, Enc w S g x cs ∧ us = [toVal g cs]
  | g :: h :: gs, x, us => ∃ cs us', Enc w S g x.1 cs ∧ us = toVal g cs :: us' ∧ EncD w S (h :: gs) x.2 us'

theorem EncD.keeps {S S' : Stab} {w w' : World} (h : Keeps S S' w w') : ∀ {gs : List GTy} {x : dens gs} {us : List Value}, EncD w S gs x us → EncD w' S' gs x us
  | [], _, _, e => e
  | [_], _, _, ⟨cs, h1, h2⟩ => ⟨cs, h1.keeps h, h2⟩
  | _ :: _ :: _, _, _, ⟨cs, us', h1, h2, h3⟩ => ⟨cs, us', h1.keeps h, h2, EncD.keeps h h3⟩

def ArgsR (M : Mem) : List Arg → List Value → Prop
  | [], [] => True
  | a :: l, u :: us => ArgR M a u ∧ ArgsR M l us
  | _, _ => False

theorem ArgsR.froze {R : Ref} {M M' : Mem} (h : Froze R M M') : ∀ {l : List Arg} {us : List Value}, ArgsR M l us → ArgsR M' l us
  | [], [], _ => trivial
  | _ :: _, _ :: _, k => ⟨k.1.froze h, ArgsR.froze h k.2⟩
  | [], _ :: _, k => k.elim
  | _ :: _, [], k => k.elim

theorem ArgsR.of {M : Mem} : ∀ {l : List AV} {us : List Value}, RelL M l us → ArgsR M (l.map (argOf M.bs)) us
  | [], [], _ => trivial
  | _ :: _, _ :: _, k => by simp only [RelL] at k; exact ⟨ArgR.of k.1, ArgsR.of k.2⟩
  | [], _ :: _, k => by simp [RelL] at k
  | _ :: _, [], k => by simp [RelL] at k

theorem takes_sound {R : Ref} : ∀ {gs : List GTy} {M : Mem} {as : List Arg} {us : List Value} {x : dens gs} {ws : List (Nat × Bool × Box)}, InvM R M → ArgsR M as us → takes gs as = some (x, ws) →
    (∀ b, ¬ killed ws b) ∧ ∃ S', Froze R M { M with S := S', bs := applyB ws M.bs } ∧ EncD M.w S' gs x us
  | [], M, [], us, x, ws, I, h, ht => by
    simp only [takes, Option.some.injEq, Prod.mk.injEq] at ht
    obtain ⟨_, rfl⟩ := ht
    refine ⟨fun b hk => by obtain ⟨B, hB⟩ := hk; simp at hB, M.S, Froze.refl I, ?_⟩
    cases us with
    | nil => rfl
    | cons _ _ => exact h.elim
  | [g], M, [a], us, x, ws, I, h, ht => by
    match us, h with
    | [u], h =>
      obtain ⟨h1, S', h2, cs, h3, h4⟩ := take_sound I h.1 (by simpa [takes] using ht)
      exact ⟨h1, S', h2, cs, h3, by rw [h4]⟩
  | g :: h :: gs, M, a :: as, us, x, ws, I, hr, ht => by
    match us, hr with
    | u :: us, hr =>
      simp only [takes] at ht
      split at ht
      · rename_i x1 w1 x2 w2 e1 e2
        simp only [Option.some.injEq, Prod.mk.injEq] at ht
        obtain ⟨rfl, rfl⟩ := ht
        obtain ⟨h1, S1, f1, cs, h3, h4⟩ := take_sound I hr.1 e1
        obtain ⟨k1, S2, f2, k3⟩ := takes_sound f1.inv (hr.2.froze f1) e2
        refine ⟨fun b hk => (killed_append.1 hk).elim (h1 b) (k1 b), S2, ?_, cs, us, ?_, by rw [h4], k3⟩
        · rw [applyB_append]
          exact f1.trans f2
        · exact h3.keeps f2.step.keeps
      · cases ht
  | [], _, _ :: _, _, _, _, _, _, ht => by simp [takes] at ht
  | [_], _, [], _, _, _, _, _, ht => by simp [takes] at ht
  | [_], _, _ :: _ :: _, _, _, _, _, _, ht => by simp [takes] at ht
  | _ :: _ :: _, _, [], _, _, _, _, _, ht => by simp [takes] at ht

/-! Building -/

theorem foldl_set : ∀ (vs : List Value) (off k : Nat) (cs : Array Value), off + k + vs.length ≤ cs.size →
    ((vs.zipIdx k).foldl (fun (cs : Array Value) (x : Value × Nat) => cs.setIfInBounds (off + x.2) x.1) cs).toList = cs.toList.take (off + k) ++ vs ++ cs.toList.drop (off + k + vs.length)
  | [], off, k, cs, _ => by simp
  | v :: vs, off, k, cs, h => by
    simp only [List.length_cons] at h
    rw [List.zipIdx_cons, List.foldl_cons, foldl_set vs off (k + 1) _ (by simp; omega)]
    have hlt : off + k < cs.toList.length := by simp; omega
    simp only [Array.toList_setIfInBounds]
    rw [show off + (k + 1) = off + k + 1 by omega, List.take_succ_eq_append_getElem (by simpa using hlt), List.getElem_set_self, List.take_set_of_le (Nat.le_refl _), List.drop_set_of_lt (by omega)]
    simp only [List.length_cons, List.append_assoc, List.singleton_append]
    congr 2
    rw [show off + k + 1 + vs.length = off + k + (vs.length + 1) by omega]

theorem fill_step {place : Nat → Option (Nat × Nat)} {i off size : Nat} {a c r : List Value} {vs : List Value} {v : Value} {rest : List (Nat × Value)} (hp : place i = some (off, size)) (hv : v.cells.toList = vs) (hs : vs.length = size) (ha : a.length = off) (hc : c.length = size) :
    Instr.fill place (a ++ c ++ r).toArray ((i, v) :: rest) = Instr.fill place (a ++ vs ++ r).toArray rest := by
  have hsz : v.cells.size = size := by rw [← hs, ← hv]; simp
  simp only [Instr.fill, hp]
  have h1 : (decide (v.cells.size ≠ size) || decide (off + v.cells.size > (a ++ c ++ r).toArray.size)) = false := by
    simp [hsz, ← ha, ← hc]
  rw [h1]
  simp only [Bool.false_eq_true, if_false]
  congr 1
  apply Array.ext'
  rw [← Array.foldl_toList, Array.toList_zipIdx, hv]
  have := foldl_set vs off 0 (a ++ c ++ r).toArray (by simp; omega)
  simp only [Nat.add_zero] at this
  rw [this]
  simp only [← ha]
  rw [List.append_assoc a c r, List.take_left' rfl, ← List.append_assoc, ← List.length_append, show (a ++ vs).length = (a ++ c).length from by simp; omega, List.drop_left' rfl]

theorem parts_sound {R : Ref} {g : GTy} {path : Nat → List PStep} {place : Nat → Option (Nat × Nat)} {ok : Nat → Prop} (hp : ∀ (i : Nat) h, ok i → pathTy g (path i) = some h → place i = some (offs g (path i), ncell h)) :
    ∀ {l : List (Nat × Arg)} {M : Mem} {us : List Value} {x z : den g} {cs : List Value} {ws : List (Nat × Bool × Box)}, InvM R M → ArgsR M (l.map (·.2)) us → (∀ y ∈ l, ok y.1 ∧ inB g (path y.1)) → Enc M.w M.S g x cs → parts g path l x = some (z, ws) →
    (∀ b, ¬ killed ws b) ∧ ∃ S', Froze R M { M with S := S', bs := applyB ws M.bs } ∧ ∃ ds, Enc M.w S' g z ds ∧ Instr.fill place cs.toArray ((l.map (·.1)).zip us) = some ds.toArray
  | [], M, us, x, z, cs, ws, I, h, hb, he, ht => by
    simp only [parts, Option.some.injEq, Prod.mk.injEq] at ht
    obtain ⟨rfl, rfl⟩ := ht
    exact ⟨fun b hk => by obtain ⟨B, hB⟩ := hk; simp at hB, M.S, Froze.refl I, cs, he, by simp [Instr.fill]⟩
  | (i, a) :: l, M, us, x, z, cs, ws, I, h, hb, he, ht => by
    match us, h with
    | u :: us, h =>
      simp only [parts] at ht
      split at ht
      · cases ht
      rename_i h' hh'
      split at ht
      · cases ht
      rename_i v w1 e1
      split at ht
      · cases ht
      rename_i y e2
      split at ht
      · cases ht
      rename_i z' w2 e3
      simp only [Option.some.injEq, Prod.mk.injEq] at ht
      obtain ⟨rfl, rfl⟩ := ht
      have hin := hb (i, a) (by simp)
      obtain ⟨h1, S1, f1, vs, h3, h4⟩ := take_sound I h.1 e1
      obtain ⟨p, c, r, k1, k2, k3, k4⟩ := Enc.upd (path i) (he.keeps f1.step.keeps) e2 hin.2 h3
      obtain ⟨q1, S2, f2, ds, q3, q4⟩ := parts_sound hp f1.inv (h.2.froze f1) (fun y hy => hb y (by simp [hy])) k4 e3
      refine ⟨fun b hk => (killed_append.1 hk).elim (h1 b) (q1 b), S2, ?_, ds, q3, ?_⟩
      · rw [applyB_append]; exact f1.trans f2
      · have hc := toVal_cells h3
        rw [← h4] at hc
        simp only [List.map_cons, List.zip_cons_cons]
        rw [k1, fill_step (hp i h' hin.1 hh') hc h3.len k2 k3]
        exact q4
end Go.Ev
