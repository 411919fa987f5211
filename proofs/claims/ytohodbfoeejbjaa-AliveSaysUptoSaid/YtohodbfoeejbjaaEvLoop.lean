/- Loops told by plain functions. -/
import Derived.Test.YtohodbfoeejbjaaEvRun10
set_option linter.unusedVariables false
set_option linter.unusedSimpArgs false
namespace Go.Ev

/-- What a slot holds at a loop's head. -/
inductive Sh where
  | val (g : GTy)
  | tip (b : Nat)
  | ptr (b : Nat) (g : GTy)
  | nil
  | undef
inductive BSh where
  | var (g : GTy)
  | row (e : Nat) (g : GTy) (fz : Bool)

@[reducible] def ShT : List (Nat × Sh) → Type
  | [] => Unit
  | (_, .val g) :: l => den g × ShT l
  | (_, .tip _) :: l => ShT l
  | (_, .ptr _ _) :: l => ShT l
  | (_, .nil) :: l => ShT l
  | (_, .undef) :: l => ShT l
@[reducible] def ShB : List (Nat × BSh) → Type
  | [] => Unit
  | (_, .var g) :: l => den g × ShB l
  | (_, .row _ g _) :: l => List (den g) × ShB l

def mkT : (l : List (Nat × Sh)) → ShT l → List (Nat × AV)
  | [], _ => []
  | (t, .val g) :: l, x => (t, .val g x.1) :: mkT l x.2
  | (t, .tip b) :: l, x => (t, .tip b) :: mkT l x
  | (t, .ptr b g) :: l, x => (t, .ptr b g []) :: mkT l x
  | (t, .nil) :: l, x => (t, .cst (.slice none 0 0)) :: mkT l x
  | (t, .undef) :: l, x => (t, .undef) :: mkT l x
def mkB : (l : List (Nat × BSh)) → ShB l → List (Nat × Bool × Box)
  | [], _ => []
  | (b, .var g) :: l, x => (b, false, .var g x.1) :: mkB l x.2
  | (b, .row e g f) :: l, x => (b, false, .row e g x.1 f) :: mkB l x.2

def asV (g : GTy) : AV → Option (den g)
  | .val h x => match GTy.dec h g with
    | .isTrue e => some (e ▸ x)
    | .isFalse _ => none
  | _ => none
def isTip (b : Nat) : AV → Bool
  | .tip c => Nat.beq c b
  | _ => false
def isPtr (b : Nat) (g : GTy) : AV → Bool
  | .ptr c h [] => Nat.beq c b && (match GTy.dec h g with | .isTrue _ => true | .isFalse _ => false)
  | _ => false
def isNil : AV → Bool
  | .cst (.slice none 0 0) => true
  | _ => false
def asVar (g : GTy) : Box → Option (den g)
  | .var h x => match GTy.dec h g with
    | .isTrue e => some (e ▸ x)
    | .isFalse _ => none
  | _ => none
def asRow (e : Nat) (g : GTy) (f : Bool) : Box → Option (List (den g))
  | .row d h x f' => match GTy.dec h g, Nat.beq d e, f', f with
    | .isTrue q, true, true, true => some (q ▸ x)
    | .isTrue q, true, false, false => some (q ▸ x)
    | _, _, _, _ => none
  | _ => none

theorem asV_eq {g : GTy} {v : AV} {x : den g} (h : asV g v = some x) : v = .val g x := by
  cases v <;> simp only [asV] at h <;> try (cases h; done)
  split at h
  · rename_i e _
    subst e
    simp only [Option.some.injEq] at h
    rw [h]
  · cases h
theorem isTip_eq {b : Nat} {v : AV} (h : isTip b v = true) : v = .tip b := by
  cases v <;> simp only [isTip] at h <;> try (cases h; done)
  rw [Nat.eq_of_beq_eq_true h]
theorem isPtr_eq {b : Nat} {g : GTy} {v : AV} (h : isPtr b g v = true) : v = .ptr b g [] := by
  cases v <;> simp only [isPtr] at h <;> try (cases h; done)
  rename_i c k p
  cases p with
  | cons _ _ => simp at h
  | nil =>
    simp only [Bool.and_eq_true] at h
    rw [Nat.eq_of_beq_eq_true h.1]
    have h2 := h.2
    split at h2
    · rename_i e _; rw [e]
    · cases h2
theorem isNil_eq {v : AV} (h : isNil v = true) : v = .cst (.slice none 0 0) := by
  unfold isNil at h
  split at h
  · rfl
  · cases h
theorem asVar_eq {g : GTy} {v : Box} {x : den g} (h : asVar g v = some x) : v = .var g x := by
  cases v <;> simp only [asVar] at h <;> try (cases h; done)
  split at h
  · rename_i e _
    subst e
    simp only [Option.some.injEq] at h
    rw [h]
  · cases h
theorem asRow_eq {e : Nat} {g : GTy} {f : Bool} {v : Box} {x : List (den g)} (h : asRow e g f v = some x) : v = .row e g x f := by
  cases v <;> simp only [asRow] at h <;> try (cases h; done)
  rename_i d k xs f'
  cases hd : Nat.beq d e with
  | false => rw [hd] at h; cases hq : GTy.dec k g <;> rw [hq] at h <;> simp at h
  | true =>
    have := Nat.eq_of_beq_eq_true hd
    subst this
    rw [hd] at h
    cases hq : GTy.dec k g with
    | isFalse _ => rw [hq] at h; simp at h
    | isTrue q =>
      subst q
      rw [hq] at h
      cases f <;> cases f' <;> simp at h <;> rw [h]

def unT : (l : List (Nat × Sh)) → List (Nat × AV) → Option (ShT l)
  | [], m => match m with
    | [] => some ()
    | _ :: _ => none
  | (t, .val g) :: l, m => match m with
    | [] => none
    | (u, v) :: m => match Nat.beq u t, asV g v, unT l m with
      | true, some y, some r => some (y, r)
      | _, _, _ => none
  | (t, .tip b) :: l, m => match m with
    | [] => none
    | (u, v) :: m => match Nat.beq u t, isTip b v with
      | true, true => unT l m
      | _, _ => none
  | (t, .ptr b g) :: l, m => match m with
    | [] => none
    | (u, v) :: m => match Nat.beq u t, isPtr b g v with
      | true, true => unT l m
      | _, _ => none
  | (t, .nil) :: l, m => match m with
    | [] => none
    | (u, v) :: m => match Nat.beq u t, isNil v with
      | true, true => unT l m
      | _, _ => none
  | (t, .undef) :: l, m => match m with
    | [] => none
    | (u, v) :: m => match Nat.beq u t, isUndef v with
      | true, true => unT l m
      | _, _ => none

def unB : (l : List (Nat × BSh)) → List (Nat × Bool × Box) → Option (ShB l)
  | [], m => match m with
    | [] => some ()
    | _ :: _ => none
  | (b, .var g) :: l, m => match m with
    | [] => none
    | (c, d, B) :: m => match Nat.beq c b, d, asVar g B, unB l m with
      | true, false, some y, some r => some (y, r)
      | _, _, _, _ => none
  | (b, .row e g f) :: l, m => match m with
    | [] => none
    | (c, d, B) :: m => match Nat.beq c b, d, asRow e g f B, unB l m with
      | true, false, some y, some r => some (y, r)
      | _, _, _, _ => none

theorem unT_eq : ∀ {l : List (Nat × Sh)} {m : List (Nat × AV)} {x : ShT l}, unT l m = some x → m = mkT l x
  | [], [], _, _ => rfl
  | [], _ :: _, _, h => by simp [unT] at h
  | (t, .val g) :: l, [], _, h => by simp [unT] at h
  | (t, .val g) :: l, (u, v) :: m, x, h => by
    simp only [unT] at h
    split at h
    · rename_i y r h1 h2 h3
      simp only [Option.some.injEq] at h
      subst h
      rw [Nat.eq_of_beq_eq_true h1, asV_eq h2, unT_eq h3]
      rfl
    · cases h
  | (t, .tip b) :: l, [], _, h => by simp [unT] at h
  | (t, .tip b) :: l, (u, v) :: m, x, h => by
    simp only [unT] at h
    split at h
    · rename_i h1 h2
      rw [Nat.eq_of_beq_eq_true h1, isTip_eq h2, unT_eq h]
      rfl
    · cases h
  | (t, .ptr b g) :: l, [], _, h => by simp [unT] at h
  | (t, .ptr b g) :: l, (u, v) :: m, x, h => by
    simp only [unT] at h
    split at h
    · rename_i h1 h2
      rw [Nat.eq_of_beq_eq_true h1, isPtr_eq h2, unT_eq h]
      rfl
    · cases h
  | (t, .nil) :: l, [], _, h => by simp [unT] at h
  | (t, .nil) :: l, (u, v) :: m, x, h => by
    simp only [unT] at h
    split at h
    · rename_i h1 h2
      rw [Nat.eq_of_beq_eq_true h1, isNil_eq h2, unT_eq h]
      rfl
    · cases h
  | (t, .undef) :: l, [], _, h => by simp [unT] at h
  | (t, .undef) :: l, (u, v) :: m, x, h => by
    simp only [unT] at h
    split at h
    · rename_i h1 h2
      have h2' : v = .undef := by cases v <;> simp [isUndef] at h2 ⊢
      rw [Nat.eq_of_beq_eq_true h1, h2', unT_eq h]
      rfl
    · cases h

theorem unB_eq : ∀ {l : List (Nat × BSh)} {m : List (Nat × Bool × Box)} {x : ShB l}, unB l m = some x → m = mkB l x
  | [], [], _, _ => rfl
  | [], _ :: _, _, h => by simp [unB] at h
  | (t, .var g) :: l, [], _, h => by simp [unB] at h
  | (t, .var g) :: l, (u, d, v) :: m, x, h => by
    simp only [unB] at h
    split at h
    · rename_i y r h1 h3 h4
      simp only [Option.some.injEq] at h
      subst h
      rw [Nat.eq_of_beq_eq_true h1, asVar_eq h3, unB_eq h4]
      rfl
    · cases h
  | (t, .row e g f) :: l, [], _, h => by simp [unB] at h
  | (t, .row e g f) :: l, (u, d, v) :: m, x, h => by
    simp only [unB] at h
    split at h
    · rename_i y r h1 h3 h4
      simp only [Option.some.injEq] at h
      subst h
      rw [Nat.eq_of_beq_eq_true h1, asRow_eq h3, unB_eq h4]
      rfl
    · cases h

def mkS (ts : List (Nat × Sh)) (bs : List (Nat × BSh)) (x : ShT ts × ShB bs) : St := ⟨mkT ts x.1, mkB bs x.2⟩
def unS (ts : List (Nat × Sh)) (bs : List (Nat × BSh)) (s : St) : Option (ShT ts × ShB bs) :=
  match unT ts s.tmps, unB bs s.boxes with
  | some x, some y => some (x, y)
  | _, _ => none
theorem unS_eq {ts : List (Nat × Sh)} {bs : List (Nat × BSh)} {s : St} {x : ShT ts × ShB bs} (h : unS ts bs s = some x) : s = mkS ts bs x := by
  unfold unS at h
  split at h
  · rename_i a b h1 h2
    simp only [Option.some.injEq] at h
    subst h
    obtain ⟨t, b'⟩ := s
    simp only at h1 h2
    rw [unT_eq h1, unB_eq h2]
    rfl
  · cases h

/-- A loop, told. -/
structure LoopD where
  prom : List (Nat × Nat × Nat × GTy)
  ts : List (Nat × Sh)
  bs : List (Nat × BSh)
  pre : ShT ts × ShB bs → Prop
  out : ShT ts × ShB bs → Tree (Ex × (ShT ts × ShB bs))

def LoopD.spec (D : LoopD) : LoopSpec :=
  { prom := D.prom, keep := D.ts.map (·.1), boxes := D.bs.map (·.1),
    sum := fun s => match unS D.ts D.bs s with
      | some x => .need (D.pre x) ((D.out x).bind fun p => .leaf (p.1, mkS D.ts D.bs p.2))
      | none => .stuck }

/-- What is told of a loop is so. -/
def LoopOK (C : Ctx) (L : LoopSpec) (body : Code) : Prop := ∀ (s : St) (F : Ex × St → Prop), (L.sum s).holds F → ∃ n, (iter L (ev C body) n s).holds F

theorem Tree.bind_assoc {α β γ : Type} (f : α → Tree β) (g : β → Tree γ) : ∀ t : Tree α, (t.bind f).bind g = t.bind fun a => (f a).bind g
  | .leaf _ => rfl
  | .br _ t e => by simp only [Tree.bind, Tree.bind_assoc f g t, Tree.bind_assoc f g e]
  | .need _ t => by simp only [Tree.bind, Tree.bind_assoc f g t]
  | .stuck => rfl

def cut (L : LoopSpec) (p : Ex × St) : Tree (Ex × St) :=
  match restrict L p.2 with
  | none => .stuck
  | some s' => .leaf (p.1, s')

theorem iter_succ (L : LoopSpec) (f : St → Tree (Ex × St)) (n : Nat) (s : St) : iter L f (n + 1) s = ((f s).bind (cut L)).bind fun p => match p.1 with
    | .normal => iter L f n p.2
    | e => .leaf (e, p.2) := by
  rw [Tree.bind_assoc]
  simp only [iter]
  congr 1
  funext ⟨e, s'⟩
  unfold cut
  simp only
  cases restrict L s' with
  | none => rfl
  | some s'' => cases e <;> simp only [Tree.bind]

/-- A round, read back by the loop's shape. -/
def roundOf (C : Ctx) (D : LoopD) (body : Code) (x : ShT D.ts × ShB D.bs) : Tree (Ex × Option (ShT D.ts × ShB D.bs)) :=
  ((ev C body (mkS D.ts D.bs x)).bind (cut D.spec)).bind fun p => .leaf (p.1, unS D.ts D.bs p.2)

section
variable {C : Ctx} {body : Code} {D : LoopD}

theorem loopD_ok {step : ShT D.ts × ShB D.bs → Tree (Ex × Option (ShT D.ts × ShB D.bs))} (hstep : ∀ x, roundOf C D body x = step x) (μ : ShT D.ts × ShB D.bs → Nat)
    (h : ∀ x, D.pre x → (step x).holds fun p => ∃ y, p.2 = some y ∧ match p.1 with
      | .normal => D.pre y ∧ μ y < μ x ∧ ∀ G, (D.out x).holds G → (D.out y).holds G
      | e => ∀ G, (D.out x).holds G → G (e, y)) : LoopOK C D.spec body := by
  intro s F hF
  simp only [LoopD.spec] at hF
  split at hF
  · rename_i x hx
    have hs := unS_eq hx
    subst hs
    obtain ⟨hp, hF⟩ := hF
    have hF' := holds_bind.1 hF
    have main : ∀ n x, μ x < n → D.pre x → (D.out x).holds (fun p => F (p.1, mkS D.ts D.bs p.2)) → (iter D.spec (ev C body) n (mkS D.ts D.bs x)).holds F := by
      intro n
      induction n with
      | zero => intro x hx; omega
      | succ n ih =>
        intro x hx hp ho
        rw [iter_succ]
        have hr := h x hp
        rw [← hstep] at hr
        refine holds_bind.2 (holds_mono ?_ (holds_bind.1 hr))
        rintro ⟨e, s'⟩ hy
        simp only [Tree.holds] at hy
        obtain ⟨y, h1, h2⟩ := hy
        have hs := unS_eq h1
        subst hs
        cases e with
        | normal =>
          simp only at h2 ⊢
          exact ih y (by omega) h2.1 (h2.2.2 _ ho)
        | exit id => exact h2 _ ho
        | ret => exact h2 _ ho
    exact ⟨μ x + 1, main _ x (by omega) hp hF'⟩
  · exact hF.elim

/-- A loop that ends one way, told by a function. -/
theorem loopD_ok1 {step : ShT D.ts × ShB D.bs → Tree (Ex × Option (ShT D.ts × ShB D.bs))} {o : ShT D.ts × ShB D.bs → Ex × (ShT D.ts × ShB D.bs)} (ho : ∀ x, D.out x = .leaf (o x))
    (hstep : ∀ x, roundOf C D body x = step x) (μ : ShT D.ts × ShB D.bs → Nat)
    (h : ∀ x, D.pre x → (step x).holds fun p => ∃ y, p.2 = some y ∧ match p.1 with
      | .normal => D.pre y ∧ μ y < μ x ∧ o y = o x
      | e => o x = (e, y)) : LoopOK C D.spec body := by
  refine loopD_ok hstep μ fun x hp => holds_mono ?_ (h x hp)
  rintro ⟨e, z⟩ ⟨y, h1, hy⟩
  refine ⟨y, h1, ?_⟩
  cases e with
  | normal => exact ⟨hy.1, hy.2.1, fun G hG => by rw [ho] at hG ⊢; rw [hy.2.2]; exact hG⟩
  | exit id => intro G hG; rw [ho] at hG; simp only at hy; rw [← hy]; exact hG
  | ret => intro G hG; rw [ho] at hG; simp only at hy; rw [← hy]; exact hG
end

/-! A function's loops -/

def loopsOf : Code → List (Nat × Code)
  | .seq a b => loopsOf a ++ loopsOf b
  | .cond _ a b => loopsOf a ++ loopsOf b
  | .loop c => loopsOf c
  | .scope c => loopsOf c
  | .block id c => match c with
    | .loop body => (id, body) :: loopsOf body
    | c => loopsOf c
  | _ => []
def loopB (id : Nat) (c : Code) : Code := (lk id (loopsOf c)).getD .skip

theorem lam_of {C : Ctx} : ∀ c : Code, (∀ id body, (id, body) ∈ loopsOf c → ∀ L, C.Λ id = some L → LoopOK C L body) → LamOK C c
  | .seq a b, h => ⟨lam_of a fun id body hm => h id body (by simp [loopsOf, hm]), lam_of b fun id body hm => h id body (by simp [loopsOf, hm])⟩
  | .cond _ a b, h => ⟨lam_of a fun id body hm => h id body (by simp [loopsOf, hm]), lam_of b fun id body hm => h id body (by simp [loopsOf, hm])⟩
  | .loop c, h => lam_of c h
  | .scope c, h => lam_of c h
  | .block id (.loop c), h => ⟨lam_of c fun id body hm => h id body (by simp [loopsOf, hm]), fun body hb L hL => by
      injection hb with hb
      subst hb
      exact h id c (by simp [loopsOf]) L hL⟩
  | .block id (.seq a b), h => ⟨lam_of (.seq a b) (by simpa [loopsOf] using h), fun body hb => nomatch hb⟩
  | .block id (.cond x a b), h => ⟨lam_of (.cond x a b) (by simpa [loopsOf] using h), fun body hb => nomatch hb⟩
  | .block id (.block j c), h => ⟨lam_of (.block j c) (by simpa [loopsOf] using h), fun body hb => nomatch hb⟩
  | .block id .skip, h | .block id (.region ..), h | .block id (.rangeFunc ..), h | .block id (.exit _), h | .block id (.label _), h | .block id (.goto _), h | .block id .ret, h | .block id (.refuse _), h => ⟨trivial, fun body hb => nomatch hb⟩
  | .block id (.scope c), h => ⟨lam_of (.scope c) (by simpa [loopsOf] using h), fun body hb => nomatch hb⟩
  | .skip, _ | .region .., _ | .rangeFunc .., _ | .exit _, _ | .label _, _ | .goto _, _ | .ret, _ | .refuse _, _ => trivial

/-! A loop whose rounds are carried out one by one -/

theorem runOps_congr {C C' : Ctx} (ht : C.τ = C'.τ) (hg : C.Γ = C'.Γ) : ∀ (l : List Oper) (s : St), runOps C l s = runOps C' l s
  | [], s => rfl
  | o :: l, s => by
    simp only [runOps, ht, hg]
    cases opEff C'.τ C'.Γ (o.dst.getD 0) o (s.args o) with
    | none => rfl
    | some e => simp only [runOps_congr ht hg l]
theorem effs_congr {C C' : Ctx} (ht : C.τ = C'.τ) (hg : C.Γ = C'.Γ) : ∀ (l : List Oper) (s : St), effs C l s = effs C' l s
  | [], s => rfl
  | o :: l, s => by
    simp only [effs, ht, hg]
    cases opEff C'.τ C'.Γ (o.dst.getD 0) o (s.args o) with
    | none => rfl
    | some e => simp only [effs_congr ht hg l]
theorem runBr_congr {C C' : Ctx} (ht : C.τ = C'.τ) (hg : C.Γ = C'.Γ) (hd : C.dec = C'.dec) (all : List Oper) : ∀ (l : List Oper) (s : St), runBr C all l s = runBr C' all l s
  | [], s => rfl
  | o :: l, s => by
    have ih := runBr_congr ht hg hd all l
    simp only [runBr, ht, hg, hd, ih]
theorem ev_congr {C C' : Ctx} (ht : C.τ = C'.τ) (hg : C.Γ = C'.Γ) (hd : C.dec = C'.dec) : ∀ (c : Code), (∀ id, id ∈ (loopsOf c).map (·.1) → C.Λ id = C'.Λ id) → ∀ s, ev C c s = ev C' c s
  | .region _ ops draw, h, s => by
    simp only [ev, runDraw, runOps_congr ht hg, effs_congr ht hg, runBr_congr ht hg hd]
  | .seq a b, h, s => by
    have ha := ev_congr ht hg hd a (fun id hm => h id (by simp only [loopsOf, List.map_append, List.mem_append]; exact .inl hm))
    have hb := ev_congr ht hg hd b (fun id hm => h id (by simp only [loopsOf, List.map_append, List.mem_append]; exact .inr hm))
    simp only [ev, ha]
    congr 1
    funext ⟨e, s'⟩
    cases e <;> simp only [hb]
  | .cond c a b, h, s => by
    have ha := ev_congr ht hg hd a (fun id hm => h id (by simp only [loopsOf, List.map_append, List.mem_append]; exact .inl hm))
    have hb := ev_congr ht hg hd b (fun id hm => h id (by simp only [loopsOf, List.map_append, List.mem_append]; exact .inr hm))
    simp only [ev, ha, hb, hd]
  | .block id (.loop body), h, s => by
    have := h id (by simp [loopsOf])
    simp only [ev, this]
  | .block id (.seq a b), h, s => by simp only [ev]; rw [← ev, ← ev, ev_congr ht hg hd (.seq a b) (by simpa [loopsOf] using h)]
  | .block id (.cond x a b), h, s => by
    have := ev_congr ht hg hd (.cond x a b) (by simpa [loopsOf] using h) s
    simp only [ev] at this ⊢
    rw [this]
  | .block id (.block j c), h, s => by
    have := ev_congr ht hg hd (.block j c) (by simpa [loopsOf] using h) s
    show (ev C (.block j c) s).bind _ = (ev C' (.block j c) s).bind _
    rw [this]
  | .block id (.region i ops d), h, s => by
    have := ev_congr ht hg hd (.region i ops d) (by simp [loopsOf]) s
    show (ev C (.region i ops d) s).bind _ = (ev C' (.region i ops d) s).bind _
    rw [this]
  | .block id (.scope c), h, s => by
    have := ev_congr ht hg hd (.scope c) (by simpa [loopsOf] using h) s
    show (ev C (.scope c) s).bind _ = (ev C' (.scope c) s).bind _
    rw [this]
  | .scope c, h, s => by simp only [ev]; exact ev_congr ht hg hd c h s
  | .block id .skip, h, s | .block id (.rangeFunc ..), h, s | .block id (.exit _), h, s | .block id (.label _), h, s | .block id (.goto _), h, s | .block id .ret, h, s | .block id (.refuse _), h, s => by simp only [ev]
  | .loop c, h, s => by simp only [ev]
  | .skip, _, _ | .rangeFunc .., _, _ | .exit _, _, _ | .label _, _, _ | .goto _, _, _ | .ret, _, _ | .refuse _, _, _ => by simp only [ev]

theorem iter_congr {L L' : LoopSpec} (hk : L.keep = L'.keep) (hb : L.boxes = L'.boxes) {f f' : St → Tree (Ex × St)} (hf : ∀ s, f s = f' s) : ∀ n s, iter L f n s = iter L' f' n s
  | 0, s => rfl
  | n + 1, s => by
    have hr : ∀ s, restrict L s = restrict L' s := fun s => by unfold restrict; rw [hk, hb]
    simp only [iter, hf, hr, iter_congr hk hb hf n]

def rounds (C : Ctx) (body : Code) (prom : List (Nat × Nat × Nat × GTy)) (keep boxes : List Nat) (n : Nat) : LoopSpec :=
  { prom := prom, keep := keep, boxes := boxes, sum := fun s => iter { prom := [], keep := keep, boxes := boxes, sum := fun _ => .stuck } (ev C body) n s }

theorem rounds_ok {C C' : Ctx} {body : Code} {prom : List (Nat × Nat × Nat × GTy)} {keep boxes : List Nat} {n : Nat} (ht : C.τ = C'.τ) (hg : C.Γ = C'.Γ) (hd : C.dec = C'.dec) (hl : ∀ id, id ∈ (loopsOf body).map (·.1) → C.Λ id = C'.Λ id) :
    LoopOK C (rounds C' body prom keep boxes n) body := by
  intro s F hF
  refine ⟨n, ?_⟩
  have : ∀ m t, iter (rounds C' body prom keep boxes n) (ev C body) m t = iter { prom := [], keep := keep, boxes := boxes, sum := fun _ => .stuck } (ev C' body) m t := iter_congr (L := rounds C' body prom keep boxes n) (L' := { prom := [], keep := keep, boxes := boxes, sum := fun _ => .stuck }) rfl rfl (ev_congr ht hg hd body hl)
  rw [this]
  exact hF

theorem rounds_ok0 {C C' : Ctx} {body : Code} {prom : List (Nat × Nat × Nat × GTy)} {keep boxes : List Nat} {n : Nat} (ht : C.τ = C'.τ) (hg : C.Γ = C'.Γ) (hd : C.dec = C'.dec) (hl : (loopsOf body).isEmpty = true) :
    LoopOK C (rounds C' body prom keep boxes n) body :=
  rounds_ok ht hg hd fun id hm => by
    rw [List.isEmpty_iff.1 hl] at hm
    simp at hm

theorem lk_mem {α : Type} {k : Nat} {v : α} : ∀ {l : List (Nat × α)}, nodupN (l.map (·.1)) = true → (k, v) ∈ l → lk k l = some v
  | (j, u) :: l, hn, hm => by
    simp only [List.map_cons, nodupN, Bool.and_eq_true, Bool.not_eq_true'] at hn
    rcases List.mem_cons.1 hm with e | hm
    · simp only [Prod.mk.injEq] at e
      obtain ⟨rfl, rfl⟩ := e
      simp [lk]
    · have ih := lk_mem hn.2 hm
      simp only [lk]
      cases hb : Nat.beq j k with
      | false => exact ih
      | true =>
        have := Nat.eq_of_beq_eq_true hb
        subst this
        have : memN j (l.map (·.1)) = true := memN_iff.2 (List.mem_map.2 ⟨_, hm, rfl⟩)
        rw [this] at hn
        simp at hn
  | [], _, hm => by cases hm

theorem lk_all {α : Type} {Q : Nat → α → Prop} : ∀ {l : List (Nat × α)}, (∀ p ∈ l, Q p.1 p.2) → ∀ {k v}, lk k l = some v → Q k v
  | (j, u) :: l, h, k, v, hk => by
    simp only [lk] at hk
    cases hb : Nat.beq j k with
    | true =>
      rw [hb] at hk
      simp only [Option.some.injEq] at hk
      have := Nat.eq_of_beq_eq_true hb
      subst this
      subst hk
      exact h (j, u) (by simp)
    | false =>
      rw [hb] at hk
      exact lk_all (fun p hp => h p (by simp [hp])) hk
  | [], _, _, _, hk => by simp [lk] at hk

def fnOf (P : Program) (f : Nat) : Func := (P.funcs[f]?).getD default
theorem fnOf_eq {P : Program} {f : Nat} (h : (P.funcs[f]?).isSome = true) : P.funcs[f]? = some (fnOf P f) := by
  unfold fnOf
  cases hh : P.funcs[f]? with
  | none => rw [hh] at h; cases h
  | some x => rfl
def bodyOf (fn : Func) : Code := fn.body.getD .skip
theorem bodyOf_eq {fn : Func} (h : fn.body.isSome = true) : fn.body = some (bodyOf fn) := by
  unfold bodyOf
  cases hh : fn.body with
  | none => rw [hh] at h; cases h
  | some x => rfl

theorem ctrs_nil {P : Program} : CtrsOK P (fun f => lk f []) := fun f c h => by simp [lk] at h
theorem ctrs_cons {P : Program} {n : Nat} {c : Ctr} {l : List (Nat × Ctr)} (h : CtrOK P n c) (t : CtrsOK P (fun f => lk f l)) : CtrsOK P (fun f => lk f ((n, c) :: l)) := fun f c' h' => by
  simp only [lk] at h'
  cases hb : Nat.beq n f with
  | true =>
    rw [hb] at h'
    simp only [Option.some.injEq] at h'
    have := Nat.eq_of_beq_eq_true hb
    subst this
    subst h'
    exact h
  | false =>
    rw [hb] at h'
    exact t f c' h'

theorem lp_nil {C : Ctx} {b : Code} : ∀ p ∈ ([] : List (Nat × LoopSpec)), LoopOK C p.2 (loopB p.1 b) := fun p hp => by cases hp
theorem lp_cons {C : Ctx} {b : Code} {id : Nat} {L : LoopSpec} {l : List (Nat × LoopSpec)} (h : LoopOK C L (loopB id b)) (t : ∀ p ∈ l, LoopOK C p.2 (loopB p.1 b)) : ∀ p ∈ (id, L) :: l, LoopOK C p.2 (loopB p.1 b) := fun p hp => by
  rcases List.mem_cons.1 hp with rfl | hp
  · exact h
  · exact t p hp

/-- What a tree comes to. -/
def Tree.val {α : Type} (d : α) : Tree α → α
  | .leaf a => a
  | .br c t e => bif c then t.val d else e.val d
  | .need _ t => t.val d
  | .stuck => d
/-- Whatever way is taken, what must hold does. -/
def Tree.safe {α : Type} : Tree α → Prop
  | .leaf _ => True
  | .br c t e => (c = true → t.safe) ∧ (c = false → e.safe)
  | .need p t => p ∧ t.safe
  | .stuck => False
theorem holds_val {α : Type} {d a : α} : ∀ {t : Tree α}, t.val d = a → t.safe → t.holds (fun y => y = a)
  | .leaf _, h, _ => h
  | .br c t e, h, hs => by
    refine ⟨fun hc => holds_val (d := d) (by simpa [Tree.val, hc] using h) (hs.1 hc), fun hc => holds_val (d := d) (by simpa [Tree.val, hc] using h) (hs.2 hc)⟩
  | .need _ t, h, hs => ⟨hs.1, holds_val (d := d) h hs.2⟩
  | .stuck, _, hs => hs.elim

/-- Contracts, and loops, by their numbers. -/
def mkC (τ : Tys) (G : List (Nat × Ctr)) (Λ : List (Nat × LoopSpec)) (d : Bool := false) : Ctx := ⟨τ, fun f => lk f G, fun id => lk id Λ, d⟩

/-- A function keeps its contract. -/
theorem fun_okX (d : Bool) {P : Program} {τ : Tys} {G : List (Nat × Ctr)} {Λ : List (Nat × LoopSpec)} (TOK : TysOK P τ) (GC : CtrsOK P (fun f => lk f G)) (hmix : P.follows .mixedOrders = true) {f : Nat} {c : Ctr}
    (hf : (P.funcs[f]?).isSome = true) (hname : ((fnOf P f).name == "runtime.NumGoroutine") = false) (hbody : (fnOf P f).body.isSome = true) (hnd : nodupN ((loopsOf (bodyOf (fnOf P f))).map (·.1)) = true)
    (hloops : ∀ p ∈ Λ, LoopOK (mkC τ G Λ d) p.2 (loopB p.1 (bodyOf (fnOf P f))))
    (h : ∀ x : dens c.args, wtD c.args x → (∀ p, c.pre = some p → p x) → (evFn (mkC τ G Λ d) (fnOf P f) (resL c.args x) c.res).holds (fun y => y = c.fn x)) : CtrOK P f c := by
  refine ctr_of_ev (C := mkC τ G Λ d) (fn := fnOf P f) TOK GC hmix (fnOf_eq hf) hname (bodyOf_eq hbody) (lam_of _ fun id body hm L hL => ?_) h
  have hk := lk_mem hnd hm
  have := lk_all (Q := fun id L => LoopOK (mkC τ G Λ d) L (loopB id (bodyOf (fnOf P f)))) hloops hL
  unfold loopB at this
  rw [hk] at this
  exact this
/-- A function keeps its contract. -/
theorem fun_ok {P : Program} {τ : Tys} {G : List (Nat × Ctr)} {Λ : List (Nat × LoopSpec)} (TOK : TysOK P τ) (GC : CtrsOK P (fun f => lk f G)) (hmix : P.follows .mixedOrders = true) {f : Nat} {c : Ctr}
    (hf : (P.funcs[f]?).isSome = true) (hname : ((fnOf P f).name == "runtime.NumGoroutine") = false) (hbody : (fnOf P f).body.isSome = true) (hnd : nodupN ((loopsOf (bodyOf (fnOf P f))).map (·.1)) = true)
    (hloops : ∀ p ∈ Λ, LoopOK (mkC τ G Λ) p.2 (loopB p.1 (bodyOf (fnOf P f))))
    (h : ∀ x : dens c.args, wtD c.args x → (∀ p, c.pre = some p → p x) → (evFn (mkC τ G Λ) (fnOf P f) (resL c.args x) c.res).holds (fun y => y = c.fn x)) : CtrOK P f c :=
  fun_okX false TOK GC hmix hf hname hbody hnd hloops h
end Go.Ev
