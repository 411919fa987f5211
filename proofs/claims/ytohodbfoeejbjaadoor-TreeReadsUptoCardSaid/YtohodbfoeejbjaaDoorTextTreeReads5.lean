/- Loops told by plain functions. -/
import Derived.Test.YtohodbfoeejbjaaDoorProg
import Derived.KernelRfl
import Derived.Lib.ItoaNum
import Derived.Lib.ItoaMem
import Derived.Conc.LoneCalls
import Derived.Conc.SmallLaws
import Derived.Test.YtohodbfoeejbjaaDoorTextTreeReads4

set_option linter.unusedVariables false
set_option linter.unusedSimpArgs false
namespace Go.Ev

/-- What a slot holds at a loop's head. -/
inductive Sh where
  | val (g : GTy)
  | tip (b : Nat)
  | ptr (b : Nat) (g : GTy)
  | nil
  | undef
inductive BSh where
  | var (g : GTy)
  | row (e : Nat) (g : GTy) (fz : Bool)
  /-- a text's iterator: the text, and how far it came -/
  | iter

@[reducible] def ShT : List (Nat × Sh) → Type
  | [] => Unit
  | (_, .val g) :: l => den g × ShT l
  | (_, .tip _) :: l => ShT l
  | (_, .ptr _ _) :: l => ShT l
  | (_, .nil) :: l => ShT l
  | (_, .undef) :: l => ShT l
@[reducible] def ShB : List (Nat × BSh) → Type
  | [] => Unit
  | (_, .var g) :: l => den g × ShB l
  | (_, .row _ g _) :: l => List (den g) × ShB l
  | (_, .iter) :: l => (List UInt8 × Nat) × ShB l

def mkT : (l : List (Nat × Sh)) → ShT l → List (Nat × AV)
  | [], _ => []
  | (t, .val g) :: l, x => (t, .val g x.1) :: mkT l x.2
  | (t, .tip b) :: l, x => (t, .tip b) :: mkT l x
  | (t, .ptr b g) :: l, x => (t, .ptr b g []) :: mkT l x
  | (t, .nil) :: l, x => (t, .cst (.slice none 0 0)) :: mkT l x
  | (t, .undef) :: l, x => (t, .undef) :: mkT l x
def mkB : (l : List (Nat × BSh)) → ShB l → List (Nat × Bool × Box)
  | [], _ => []
  | (b, .var g) :: l, x => (b, false, .var g x.1) :: mkB l x.2
  | (b, .row e g f) :: l, x => (b, false, .row e g x.1 f) :: mkB l x.2
  | (b, .iter) :: l, x => (b, false, .iter x.1.1 x.1.2) :: mkB l x.2

def asV (g : GTy) : AV → Option (den g)
  | .val h x => match GTy.dec h g with
    | .isTrue e => some (e ▸ x)
    | .isFalse _ => none
  | _ => none
def isTip (b : Nat) : AV → Bool
  | .tip c => Nat.beq c b
  | _ => false
def isPtr (b : Nat) (g : GTy) : AV → Bool
  | .ptr c h [] => Nat.beq c b && (match GTy.dec h g with | .isTrue _ => true | .isFalse _ => false)
  | _ => false
def isNil : AV → Bool
  | .cst (.slice none 0 0) => true
  | _ => false
def asVar (g : GTy) : Box → Option (den g)
  | .var h x => match GTy.dec h g with
    | .isTrue e => some (e ▸ x)
    | .isFalse _ => none
  | _ => none
def asRow (e : Nat) (g : GTy) (f : Bool) : Box → Option (List (den g))
  | .row d h x f' => match GTy.dec h g, Nat.beq d e, f', f with
    | .isTrue q, true, true, true => some (q ▸ x)
    | .isTrue q, true, false, false => some (q ▸ x)
    | _, _, _, _ => none
  | _ => none

def asIter : Box → Option (List UInt8 × Nat)
  | .iter y p => some (y, p)
  | _ => none
theorem asIter_eq {v : Box} {x : List UInt8 × Nat} (h : asIter v = some x) : v = .iter x.1 x.2 := by
  cases v <;> simp only [asIter] at h <;> try (cases h; done)
  simp only [Option.some.injEq] at h
  subst h
  rfl

theorem asV_eq {g : GTy} {v : AV} {x : den g} (h : asV g v = some x) : v = .val g x := by
  cases v <;> simp only [asV] at h <;> try (cases h; done)
  split at h
  · rename_i e _
    subst e
    simp only [Option.some.injEq] at h
    rw [h]
  · cases h
theorem isTip_eq {b : Nat} {v : AV} (h : isTip b v = true) : v = .tip b := by
  cases v <;> simp only [isTip] at h <;> try (cases h; done)
  rw [Nat.eq_of_beq_eq_true h]
theorem isPtr_eq {b : Nat} {g : GTy} {v : AV} (h : isPtr b g v = true) : v = .ptr b g [] := by
  cases v <;> simp only [isPtr] at h <;> try (cases h; done)
  rename_i c k p
  cases p with
  | cons _ _ => simp at h
  | nil =>
    simp only [Bool.and_eq_true] at h
    rw [Nat.eq_of_beq_eq_true h.1]
    have h2 := h.2
    split at h2
    · rename_i e _; rw [e]
    · cases h2
theorem isNil_eq {v : AV} (h : isNil v = true) : v = .cst (.slice none 0 0) := by
  unfold isNil at h
  split at h
  · rfl
  · cases h
theorem asVar_eq {g : GTy} {v : Box} {x : den g} (h : asVar g v = some x) : v = .var g x := by
  cases v <;> simp only [asVar] at h <;> try (cases h; done)
  split at h
  · rename_i e _
    subst e
    simp only [Option.some.injEq] at h
    rw [h]
  · cases h
theorem asRow_eq {e : Nat} {g : GTy} {f : Bool} {v : Box} {x : List (den g)} (h : asRow e g f v = some x) : v = .row e g x f := by
  cases v <;> simp only [asRow] at h <;> try (cases h; done)
  rename_i d k xs f'
  cases hd : Nat.beq d e with
  | false => rw [hd] at h; cases hq : GTy.dec k g <;> rw [hq] at h <;> simp at h
  | true =>
    have := Nat.eq_of_beq_eq_true hd
    subst this
    rw [hd] at h
    cases hq : GTy.dec k g with
    | isFalse _ => rw [hq] at h; simp at h
    | isTrue q =>
      subst q
      rw [hq] at h
      cases f <;> cases f' <;> simp at h <;> rw [h]

def unT : (l : List (Nat × Sh)) → List (Nat × AV) → Option (ShT l)
  | [], m => match m with
    | [] => some ()
    | _ :: _ => none
  | (t, .val g) :: l, m => match m with
    | [] => none
    | (u, v) :: m => match Nat.beq u t, asV g v, unT l m with
      | true, some y, some r => some (y, r)
      | _, _, _ => none
  | (t, .tip b) :: l, m => match m with
    | [] => none
    | (u, v) :: m => match Nat.beq u t, isTip b v with
      | true, true => unT l m
      | _, _ => none
  | (t, .ptr b g) :: l, m => match m with
    | [] => none
    | (u, v) :: m => match Nat.beq u t, isPtr b g v with
      | true, true => unT l m
      | _, _ => none
  | (t, .nil) :: l, m => match m with
    | [] => none
    | (u, v) :: m => match Nat.beq u t, isNil v with
      | true, true => unT l m
      | _, _ => none
  | (t, .undef) :: l, m => match m with
    | [] => none
    | (u, v) :: m => match Nat.beq u t, isUndef v with
      | true, true => unT l m
      | _, _ => none

def unB : (l : List (Nat × BSh)) → List (Nat × Bool × Box) → Option (ShB l)
  | [], m => match m with
    | [] => some ()
    | _ :: _ => none
  | (b, .var g) :: l, m => match m with
    | [] => none
    | (c, d, B) :: m => match Nat.beq c b, d, asVar g B, unB l m with
      | true, false, some y, some r => some (y, r)
      | _, _, _, _ => none
  | (b, .row e g f) :: l, m => match m with
    | [] => none
    | (c, d, B) :: m => match Nat.beq c b, d, asRow e g f B, unB l m with
      | true, false, some y, some r => some (y, r)
      | _, _, _, _ => none
  | (b, .iter) :: l, m => match m with
    | [] => none
    | (c, d, B) :: m => match Nat.beq c b, d, asIter B, unB l m with
      | true, false, some y, some r => some (y, r)
      | _, _, _, _ => none

theorem unT_eq : ∀ {l : List (Nat × Sh)} {m : List (Nat × AV)} {x : ShT l}, unT l m = some x → m = mkT l x
  | [], [], _, _ => rfl
  | [], _ :: _, _, h => by simp [unT] at h
  | (t, .val g) :: l, [], _, h => by simp [unT] at h
  | (t, .val g) :: l, (u, v) :: m, x, h => by
    simp only [unT] at h
    split at h
    · rename_i y r h1 h2 h3
      simp only [Option.some.injEq] at h
      subst h
      rw [Nat.eq_of_beq_eq_true h1, asV_eq h2, unT_eq h3]
      rfl
    · cases h
  | (t, .tip b) :: l, [], _, h => by simp [unT] at h
  | (t, .tip b) :: l, (u, v) :: m, x, h => by
    simp only [unT] at h
    split at h
    · rename_i h1 h2
      rw [Nat.eq_of_beq_eq_true h1, isTip_eq h2, unT_eq h]
      rfl
    · cases h
  | (t, .ptr b g) :: l, [], _, h => by simp [unT] at h
  | (t, .ptr b g) :: l, (u, v) :: m, x, h => by
    simp only [unT] at h
    split at h
    · rename_i h1 h2
      rw [Nat.eq_of_beq_eq_true h1, isPtr_eq h2, unT_eq h]
      rfl
    · cases h
  | (t, .nil) :: l, [], _, h => by simp [unT] at h
  | (t, .nil) :: l, (u, v) :: m, x, h => by
    simp only [unT] at h
    split at h
    · rename_i h1 h2
      rw [Nat.eq_of_beq_eq_true h1, isNil_eq h2, unT_eq h]
      rfl
    · cases h
  | (t, .undef) :: l, [], _, h => by simp [unT] at h
  | (t, .undef) :: l, (u, v) :: m, x, h => by
    simp only [unT] at h
    split at h
    · rename_i h1 h2
      have h2' : v = .undef := by cases v <;> simp [isUndef] at h2 ⊢
      rw [Nat.eq_of_beq_eq_true h1, h2', unT_eq h]
      rfl
    · cases h

theorem unB_eq : ∀ {l : List (Nat × BSh)} {m : List (Nat × Bool × Box)} {x : ShB l}, unB l m = some x → m = mkB l x
  | [], [], _, _ => rfl
  | [], _ :: _, _, h => by simp [unB] at h
  | (t, .var g) :: l, [], _, h => by simp [unB] at h
  | (t, .var g) :: l, (u, d, v) :: m, x, h => by
    simp only [unB] at h
    split at h
    · rename_i y r h1 h3 h4
      simp only [Option.some.injEq] at h
      subst h
      rw [Nat.eq_of_beq_eq_true h1, asVar_eq h3, unB_eq h4]
      rfl
    · cases h
  | (t, .row e g f) :: l, [], _, h => by simp [unB] at h
  | (t, .row e g f) :: l, (u, d, v) :: m, x, h => by
    simp only [unB] at h
    split at h
    · rename_i y r h1 h3 h4
      simp only [Option.some.injEq] at h
      subst h
      rw [Nat.eq_of_beq_eq_true h1, asRow_eq h3, unB_eq h4]
      rfl
    · cases h
  | (t, .iter) :: l, [], _, h => by simp [unB] at h
  | (t, .iter) :: l, (u, d, v) :: m, x, h => by
    simp only [unB] at h
    split at h
    · rename_i y r h1 h3 h4
      simp only [Option.some.injEq] at h
      subst h
      rw [Nat.eq_of_beq_eq_true h1, asIter_eq h3, unB_eq h4]
      rfl
    · cases h

def mkS (ts : List (Nat × Sh)) (bs : List (Nat × BSh)) (x : ShT ts × ShB bs) : St := ⟨mkT ts x.1, mkB bs x.2⟩
def unS (ts : List (Nat × Sh)) (bs : List (Nat × BSh)) (s : St) : Option (ShT ts × ShB bs) :=
  match unT ts s.tmps, unB bs s.boxes with
  | some x, some y => some (x, y)
  | _, _ => none
theorem unS_eq {ts : List (Nat × Sh)} {bs : List (Nat × BSh)} {s : St} {x : ShT ts × ShB bs} (h : unS ts bs s = some x) : s = mkS ts bs x := by
  unfold unS at h
  split at h
  · rename_i a b h1 h2
    simp only [Option.some.injEq] at h
    subst h
    obtain ⟨t, b'⟩ := s
    simp only at h1 h2
    rw [unT_eq h1, unB_eq h2]
    rfl
  · cases h

/-- A loop, told. -/
structure LoopD where
  prom : List (Nat × Nat × Nat × GTy)
  ts : List (Nat × Sh)
  bs : List (Nat × BSh)
  pre : ShT ts × ShB bs → Prop
  out : ShT ts × ShB bs → Tree (Ex × (ShT ts × ShB bs))

def LoopD.spec (D : LoopD) : LoopSpec :=
  { prom := D.prom, keep := D.ts.map (·.1), boxes := D.bs.map (·.1),
    sum := fun s => match unS D.ts D.bs s with
      | some x => .need (D.pre x) ((D.out x).bind fun p => .leaf (p.1, mkS D.ts D.bs p.2))
      | none => .stuck }

/-- What is told of a loop is so. -/
def LoopOK (C : Ctx) (L : LoopSpec) (body : Code) : Prop := ∀ (s : St) (F : Ex × St → Prop), (L.sum s).holds F → ∃ n, (iter L (ev C body) n s).holds F

theorem Tree.bind_assoc {α β γ : Type} (f : α → Tree β) (g : β → Tree γ) : ∀ t : Tree α, (t.bind f).bind g = t.bind fun a => (f a).bind g
  | .leaf _ => rfl
  | .br _ t e => by simp only [Tree.bind, Tree.bind_assoc f g t, Tree.bind_assoc f g e]
  | .need _ t => by simp only [Tree.bind, Tree.bind_assoc f g t]
  | .stuck => rfl

def cut (L : LoopSpec) (p : Ex × St) : Tree (Ex × St) :=
  match restrict L p.2 with
  | none => .stuck
  | some s' => .leaf (p.1, s')

theorem iter_succ (L : LoopSpec) (f : St → Tree (Ex × St)) (n : Nat) (s : St) : iter L f (n + 1) s = ((f s).bind (cut L)).bind fun p => match p.1 with
    | .normal => iter L f n p.2
    | e => .leaf (e, p.2) := by
  rw [Tree.bind_assoc]
  simp only [iter]
  congr 1
  funext ⟨e, s'⟩
  unfold cut
  simp only
  cases restrict L s' with
  | none => rfl
  | some s'' => cases e <;> simp only [Tree.bind]

/-- A round, read back by the loop's shape. -/
def roundOf (C : Ctx) (D : LoopD) (body : Code) (x : ShT D.ts × ShB D.bs) : Tree (Ex × Option (ShT D.ts × ShB D.bs)) :=
  ((ev C body (mkS D.ts D.bs x)).bind (cut D.spec)).bind fun p => .leaf (p.1, unS D.ts D.bs p.2)

section
variable {C : Ctx} {body : Code} {D : LoopD}

theorem loopD_ok {step : ShT D.ts × ShB D.bs → Tree (Ex × Option (ShT D.ts × ShB D.bs))} (hstep : ∀ x, roundOf C D body x = step x) (μ : ShT D.ts × ShB D.bs → Nat)
    (h : ∀ x, D.pre x → (step x).holds fun p => ∃ y, p.2 = some y ∧ match p.1 with
      | .normal => D.pre y ∧ μ y < μ x ∧ ∀ G, (D.out x).holds G → (D.out y).holds G
      | e => ∀ G, (D.out x).holds G → G (e, y)) : LoopOK C D.spec body := by
  intro s F hF
  simp only [LoopD.spec] at hF
  split at hF
  · rename_i x hx
    have hs := unS_eq hx
    subst hs
    obtain ⟨hp, hF⟩ := hF
    have hF' := holds_bind.1 hF
    have main : ∀ n x, μ x < n → D.pre x → (D.out x).holds (fun p => F (p.1, mkS D.ts D.bs p.2)) → (iter D.spec (ev C body) n (mkS D.ts D.bs x)).holds F := by
      intro n
      induction n with
      | zero => intro x hx; omega
      | succ n ih =>
        intro x hx hp ho
        rw [iter_succ]
        have hr := h x hp
        rw [← hstep] at hr
        refine holds_bind.2 (holds_mono ?_ (holds_bind.1 hr))
        rintro ⟨e, s'⟩ hy
        simp only [Tree.holds] at hy
        obtain ⟨y, h1, h2⟩ := hy
        have hs := unS_eq h1
        subst hs
        cases e with
        | normal =>
          simp only at h2 ⊢
          exact ih y (by omega) h2.1 (h2.2.2 _ ho)
        | exit id => exact h2 _ ho
        | ret => exact h2 _ ho
    exact ⟨μ x + 1, main _ x (by omega) hp hF'⟩
  · exact hF.elim

/-- A loop that ends one way, told by a function. -/
theorem loopD_ok1 {step : ShT D.ts × ShB D.bs → Tree (Ex × Option (ShT D.ts × ShB D.bs))} {o : ShT D.ts × ShB D.bs → Ex × (ShT D.ts × ShB D.bs)} (ho : ∀ x, D.out x = .leaf (o x))
    (hstep : ∀ x, roundOf C D body x = step x) (μ : ShT D.ts × ShB D.bs → Nat)
    (h : ∀ x, D.pre x → (step x).holds fun p => ∃ y, p.2 = some y ∧ match p.1 with
      | .normal => D.pre y ∧ μ y < μ x ∧ o y = o x
      | e => o x = (e, y)) : LoopOK C D.spec body := by
  refine loopD_ok hstep μ fun x hp => holds_mono ?_ (h x hp)
  rintro ⟨e, z⟩ ⟨y, h1, hy⟩
  refine ⟨y, h1, ?_⟩
  cases e with
  | normal => exact ⟨hy.1, hy.2.1, fun G hG => by rw [ho] at hG ⊢; rw [hy.2.2]; exact hG⟩
  | exit id => intro G hG; rw [ho] at hG; simp only at hy; rw [← hy]; exact hG
  | ret => intro G hG; rw [ho] at hG; simp only at hy; rw [← hy]; exact hG
end

/-! A function's loops -/

def loopsOf : Code → List (Nat × Code)
  | .seq a b => loopsOf a ++ loopsOf b
  | .cond _ a b => loopsOf a ++ loopsOf b
  | .loop c => loopsOf c
  | .scope c => loopsOf c
  | .block id c => match c with
    | .loop body => (id, body) :: loopsOf body
    | c => loopsOf c
  | _ => []
def loopB (id : Nat) (c : Code) : Code := (lk id (loopsOf c)).getD .skip

theorem lam_of {C : Ctx} : ∀ c : Code, (∀ id body, (id, body) ∈ loopsOf c → ∀ L, C.Λ id = some L → LoopOK C L body) → LamOK C c
  | .seq a b, h => ⟨lam_of a fun id body hm => h id body (by simp [loopsOf, hm]), lam_of b fun id body hm => h id body (by simp [loopsOf, hm])⟩
  | .cond _ a b, h => ⟨lam_of a fun id body hm => h id body (by simp [loopsOf, hm]), lam_of b fun id body hm => h id body (by simp [loopsOf, hm])⟩
  | .loop c, h => lam_of c h
  | .scope c, h => lam_of c h
  | .block id (.loop c), h => ⟨lam_of c fun id body hm => h id body (by simp [loopsOf, hm]), fun body hb L hL => by
      injection hb with hb
      subst hb
      exact h id c (by simp [loopsOf]) L hL⟩
  | .block id (.seq a b), h => ⟨lam_of (.seq a b) (by simpa [loopsOf] using h), fun body hb => nomatch hb⟩
  | .block id (.cond x a b), h => ⟨lam_of (.cond x a b) (by simpa [loopsOf] using h), fun body hb => nomatch hb⟩
  | .block id (.block j c), h => ⟨lam_of (.block j c) (by simpa [loopsOf] using h), fun body hb => nomatch hb⟩
  | .block id .skip, h | .block id (.region ..), h | .block id (.rangeFunc ..), h | .block id (.exit _), h | .block id (.label _), h | .block id (.goto _), h | .block id .ret, h | .block id (.refuse _), h => ⟨trivial, fun body hb => nomatch hb⟩
  | .block id (.scope c), h => ⟨lam_of (.scope c) (by simpa [loopsOf] using h), fun body hb => nomatch hb⟩
  | .skip, _ | .region .., _ | .rangeFunc .., _ | .exit _, _ | .label _, _ | .goto _, _ | .ret, _ | .refuse _, _ => trivial

/-! A loop whose rounds are carried out one by one -/

theorem runOps_congr {C C' : Ctx} (ht : C.τ = C'.τ) (hg : C.Γ = C'.Γ) : ∀ (l : List Oper) (s : St), runOps C l s = runOps C' l s
  | [], s => rfl
  | o :: l, s => by
    simp only [runOps, ht, hg]
    cases opEff C'.τ C'.Γ (o.dst.getD 0) o (s.args o) with
    | none => rfl
    | some e => simp only [runOps_congr ht hg l]
theorem effs_congr {C C' : Ctx} (ht : C.τ = C'.τ) (hg : C.Γ = C'.Γ) : ∀ (l : List Oper) (s : St), effs C l s = effs C' l s
  | [], s => rfl
  | o :: l, s => by
    simp only [effs, ht, hg]
    cases opEff C'.τ C'.Γ (o.dst.getD 0) o (s.args o) with
    | none => rfl
    | some e => simp only [effs_congr ht hg l]
theorem runBr_congr {C C' : Ctx} (ht : C.τ = C'.τ) (hg : C.Γ = C'.Γ) (hd : C.dec = C'.dec) (all : List Oper) : ∀ (l : List Oper) (s : St), runBr C all l s = runBr C' all l s
  | [], s => rfl
  | o :: l, s => by
    have ih := runBr_congr ht hg hd all l
    simp only [runBr, ht, hg, hd, ih]
theorem ev_congr {C C' : Ctx} (ht : C.τ = C'.τ) (hg : C.Γ = C'.Γ) (hd : C.dec = C'.dec) : ∀ (c : Code), (∀ id, id ∈ (loopsOf c).map (·.1) → C.Λ id = C'.Λ id) → ∀ s, ev C c s = ev C' c s
  | .region _ ops draw, h, s => by
    simp only [ev, runDraw, runOps_congr ht hg, effs_congr ht hg, runBr_congr ht hg hd]
  | .seq a b, h, s => by
    have ha := ev_congr ht hg hd a (fun id hm => h id (by simp only [loopsOf, List.map_append, List.mem_append]; exact .inl hm))
    have hb := ev_congr ht hg hd b (fun id hm => h id (by simp only [loopsOf, List.map_append, List.mem_append]; exact .inr hm))
    simp only [ev, ha]
    congr 1
    funext ⟨e, s'⟩
    cases e <;> simp only [hb]
  | .cond c a b, h, s => by
    have ha := ev_congr ht hg hd a (fun id hm => h id (by simp only [loopsOf, List.map_append, List.mem_append]; exact .inl hm))
    have hb := ev_congr ht hg hd b (fun id hm => h id (by simp only [loopsOf, List.map_append, List.mem_append]; exact .inr hm))
    simp only [ev, ha, hb, hd]
  | .block id (.loop body), h, s => by
    have := h id (by simp [loopsOf])
    simp only [ev, this]
  | .block id (.seq a b), h, s => by simp only [ev]; rw [← ev, ← ev, ev_congr ht hg hd (.seq a b) (by simpa [loopsOf] using h)]
  | .block id (.cond x a b), h, s => by
    have := ev_congr ht hg hd (.cond x a b) (by simpa [loopsOf] using h) s
    simp only [ev] at this ⊢
    rw [this]
  | .block id (.block j c), h, s => by
    have := ev_congr ht hg hd (.block j c) (by simpa [loopsOf] using h) s
    show (ev C (.block j c) s).bind _ = (ev C' (.block j c) s).bind _
    rw [this]
  | .block id (.region i ops d), h, s => by
    have := ev_congr ht hg hd (.region i ops d) (by simp [loopsOf]) s
    show (ev C (.region i ops d) s).bind _ = (ev C' (.region i ops d) s).bind _
    rw [this]
  | .block id (.scope c), h, s => by
    have := ev_congr ht hg hd (.scope c) (by simpa [loopsOf] using h) s
    show (ev C (.scope c) s).bind _ = (ev C' (.scope c) s).bind _
    rw [this]
  | .scope c, h, s => by simp only [ev]; exact ev_congr ht hg hd c h s
  | .block id .skip, h, s | .block id (.rangeFunc ..), h, s | .block id (.exit _), h, s | .block id (.label _), h, s | .block id (.goto _), h, s | .block id .ret, h, s | .block id (.refuse _), h, s => by simp only [ev]
  | .loop c, h, s => by simp only [ev]
  | .skip, _, _ | .rangeFunc .., _, _ | .exit _, _, _ | .label _, _, _ | .goto _, _, _ | .ret, _, _ | .refuse _, _, _ => by simp only [ev]

theorem iter_congr {L L' : LoopSpec} (hk : L.keep = L'.keep) (hb : L.boxes = L'.boxes) {f f' : St → Tree (Ex × St)} (hf : ∀ s, f s = f' s) : ∀ n s, iter L f n s = iter L' f' n s
  | 0, s => rfl
  | n + 1, s => by
    have hr : ∀ s, restrict L s = restrict L' s := fun s => by unfold restrict; rw [hk, hb]
    simp only [iter, hf, hr, iter_congr hk hb hf n]

def rounds (C : Ctx) (body : Code) (prom : List (Nat × Nat × Nat × GTy)) (keep boxes : List Nat) (n : Nat) : LoopSpec :=
  { prom := prom, keep := keep, boxes := boxes, sum := fun s => iter { prom := [], keep := keep, boxes := boxes, sum := fun _ => .stuck } (ev C body) n s }

theorem rounds_ok {C C' : Ctx} {body : Code} {prom : List (Nat × Nat × Nat × GTy)} {keep boxes : List Nat} {n : Nat} (ht : C.τ = C'.τ) (hg : C.Γ = C'.Γ) (hd : C.dec = C'.dec) (hl : ∀ id, id ∈ (loopsOf body).map (·.1) → C.Λ id = C'.Λ id) :
    LoopOK C (rounds C' body prom keep boxes n) body := by
  intro s F hF
  refine ⟨n, ?_⟩
  have : ∀ m t, iter (rounds C' body prom keep boxes n) (ev C body) m t = iter { prom := [], keep := keep, boxes := boxes, sum := fun _ => .stuck } (ev C' body) m t := iter_congr (L := rounds C' body prom keep boxes n) (L' := { prom := [], keep := keep, boxes := boxes, sum := fun _ => .stuck }) rfl rfl (ev_congr ht hg hd body hl)
  rw [this]
  exact hF

theorem rounds_ok0 {C C' : Ctx} {body : Code} {prom : List (Nat × Nat × Nat × GTy)} {keep boxes : List Nat} {n : Nat} (ht : C.τ = C'.τ) (hg : C.Γ = C'.Γ) (hd : C.dec = C'.dec) (hl : (loopsOf body).isEmpty = true) :
    LoopOK C (rounds C' body prom keep boxes n) body :=
  rounds_ok ht hg hd fun id hm => by
    rw [List.isEmpty_iff.1 hl] at hm
    simp at hm

theorem lk_mem {α : Type} {k : Nat} {v : α} : ∀ {l : List (Nat × α)}, nodupN (l.map (·.1)) = true → (k, v) ∈ l → lk k l = some v
  | (j, u) :: l, hn, hm => by
    simp only [List.map_cons, nodupN, Bool.and_eq_true, Bool.not_eq_true'] at hn
    rcases List.mem_cons.1 hm with e | hm
    · simp only [Prod.mk.injEq] at e
      obtain ⟨rfl, rfl⟩ := e
      simp [lk]
    · have ih := lk_mem hn.2 hm
      simp only [lk]
      cases hb : Nat.beq j k with
      | false => exact ih
      | true =>
        have := Nat.eq_of_beq_eq_true hb
        subst this
        have : memN j (l.map (·.1)) = true := memN_iff.2 (List.mem_map.2 ⟨_, hm, rfl⟩)
        rw [this] at hn
        simp at hn
  | [], _, hm => by cases hm

theorem lk_all {α : Type} {Q : Nat → α → Prop} : ∀ {l : List (Nat × α)}, (∀ p ∈ l, Q p.1 p.2) → ∀ {k v}, lk k l = some v → Q k v
  | (j, u) :: l, h, k, v, hk => by
    simp only [lk] at hk
    cases hb : Nat.beq j k with
    | true =>
      rw [hb] at hk
      simp only [Option.some.injEq] at hk
      have := Nat.eq_of_beq_eq_true hb
      subst this
      subst hk
      exact h (j, u) (by simp)
    | false =>
      rw [hb] at hk
      exact lk_all (fun p hp => h p (by simp [hp])) hk
  | [], _, _, _, hk => by simp [lk] at hk

def fnOf (P : Program) (f : Nat) : Func := (P.funcs[f]?).getD default
theorem fnOf_eq {P : Program} {f : Nat} (h : (P.funcs[f]?).isSome = true) : P.funcs[f]? = some (fnOf P f) := by
  unfold fnOf
  cases hh : P.funcs[f]? with
  | none => rw [hh] at h; cases h
  | some x => rfl
def bodyOf (fn : Func) : Code := fn.body.getD .skip
theorem bodyOf_eq {fn : Func} (h : fn.body.isSome = true) : fn.body = some (bodyOf fn) := by
  unfold bodyOf
  cases hh : fn.body with
  | none => rw [hh] at h; cases h
  | some x => rfl

theorem ctrs_nil {P : Program} : CtrsOK P (fun f => lk f []) := fun f c h => by simp [lk] at h
theorem ctrs_cons {P : Program} {n : Nat} {c : Ctr} {l : List (Nat × Ctr)} (h : CtrOK P n c) (t : CtrsOK P (fun f => lk f l)) : CtrsOK P (fun f => lk f ((n, c) :: l)) := fun f c' h' => by
  simp only [lk] at h'
  cases hb : Nat.beq n f with
  | true =>
    rw [hb] at h'
    simp only [Option.some.injEq] at h'
    have := Nat.eq_of_beq_eq_true hb
    subst this
    subst h'
    exact h
  | false =>
    rw [hb] at h'
    exact t f c' h'

theorem lp_nil {C : Ctx} {b : Code} : ∀ p ∈ ([] : List (Nat × LoopSpec)), LoopOK C p.2 (loopB p.1 b) := fun p hp => by cases hp
theorem lp_cons {C : Ctx} {b : Code} {id : Nat} {L : LoopSpec} {l : List (Nat × LoopSpec)} (h : LoopOK C L (loopB id b)) (t : ∀ p ∈ l, LoopOK C p.2 (loopB p.1 b)) : ∀ p ∈ (id, L) :: l, LoopOK C p.2 (loopB p.1 b) := fun p hp => by
  rcases List.mem_cons.1 hp with rfl | hp
  · exact h
  · exact t p hp

/-- What a tree comes to. -/
def Tree.val {α : Type} (d : α) : Tree α → α
  | .leaf a => a
  | .br c t e => bif c then t.val d else e.val d
  | .need _ t => t.val d
  | .stuck => d
/-- Whatever way is taken, what must hold does. -/
def Tree.safe {α : Type} : Tree α → Prop
  | .leaf _ => True
  | .br c t e => (c = true → t.safe) ∧ (c = false → e.safe)
  | .need p t => p ∧ t.safe
  | .stuck => False
theorem holds_val {α : Type} {d a : α} : ∀ {t : Tree α}, t.val d = a → t.safe → t.holds (fun y => y = a)
  | .leaf _, h, _ => h
  | .br c t e, h, hs => by
    refine ⟨fun hc => holds_val (d := d) (by simpa [Tree.val, hc] using h) (hs.1 hc), fun hc => holds_val (d := d) (by simpa [Tree.val, hc] using h) (hs.2 hc)⟩
  | .need _ t, h, hs => ⟨hs.1, holds_val (d := d) h hs.2⟩
  | .stuck, _, hs => hs.elim

/-- Contracts, and loops, by their numbers. -/
def mkC (τ : Tys) (G : List (Nat × Ctr)) (Λ : List (Nat × LoopSpec)) (d : Bool := false) : Ctx := ⟨τ, fun f => lk f G, fun id => lk id Λ, d⟩

/-- A function keeps its contract. -/
theorem fun_okX (d : Bool) {P : Program} {τ : Tys} {G : List (Nat × Ctr)} {Λ : List (Nat × LoopSpec)} (TOK : TysOK P τ) (GC : CtrsOK P (fun f => lk f G)) (hmix : P.follows .mixedOrders = true) {f : Nat} {c : Ctr}
    (hf : (P.funcs[f]?).isSome = true) (hname : ((fnOf P f).name == "runtime.NumGoroutine") = false) (hbody : (fnOf P f).body.isSome = true) (hnd : nodupN ((loopsOf (bodyOf (fnOf P f))).map (·.1)) = true)
    (hloops : ∀ p ∈ Λ, LoopOK (mkC τ G Λ d) p.2 (loopB p.1 (bodyOf (fnOf P f))))
    (h : ∀ x : dens c.args, wtD c.args x → (∀ p, c.pre = some p → p x) → (evFn (mkC τ G Λ d) (fnOf P f) (resL c.args x) c.res).holds (fun y => y = c.fn x)) : CtrOK P f c := by
  refine ctr_of_ev (C := mkC τ G Λ d) (fn := fnOf P f) TOK GC hmix (fnOf_eq hf) hname (bodyOf_eq hbody) (lam_of _ fun id body hm L hL => ?_) h
  have hk := lk_mem hnd hm
  have := lk_all (Q := fun id L => LoopOK (mkC τ G Λ d) L (loopB id (bodyOf (fnOf P f)))) hloops hL
  unfold loopB at this
  rw [hk] at this
  exact this
/-- A function keeps its contract. -/
theorem fun_ok {P : Program} {τ : Tys} {G : List (Nat × Ctr)} {Λ : List (Nat × LoopSpec)} (TOK : TysOK P τ) (GC : CtrsOK P (fun f => lk f G)) (hmix : P.follows .mixedOrders = true) {f : Nat} {c : Ctr}
    (hf : (P.funcs[f]?).isSome = true) (hname : ((fnOf P f).name == "runtime.NumGoroutine") = false) (hbody : (fnOf P f).body.isSome = true) (hnd : nodupN ((loopsOf (bodyOf (fnOf P f))).map (·.1)) = true)
    (hloops : ∀ p ∈ Λ, LoopOK (mkC τ G Λ) p.2 (loopB p.1 (bodyOf (fnOf P f))))
    (h : ∀ x : dens c.args, wtD c.args x → (∀ p, c.pre = some p → p x) → (evFn (mkC τ G Λ) (fnOf P f) (resL c.args x) c.res).holds (fun y => y = c.fn x)) : CtrOK P f c :=
  fun_okX false TOK GC hmix hf hname hbody hnd hloops h
end Go.Ev
/- The types of this seat's program, and what holds of it as a whole. -/
namespace Go.Ev.D
open Go.Proofs
def tyL : List (Option TInfo) := [
  none,
  none,
  some ⟨.int .i64, 0, 8, 0⟩,
  some ⟨.int .i64, 0, 8, 0⟩,
  some ⟨.bool, 0, 1, 0⟩,
  some ⟨.int .u8, 0, 1, 0⟩,
  some ⟨.int .u8, 0, 1, 0⟩,
  none,
  none,
  some ⟨.str, 0, 16, 0⟩,
  some ⟨.str, 0, 16, 0⟩,
  some ⟨.str, 0, 16, 0⟩,
  some ⟨.int .u64, 0, 8, 0⟩,
  none,
  none,
  none,
  none,
  none,
  none,
  none,
  some ⟨.err, 0, 16, 0⟩,
  some ⟨.int .i32, 0, 4, 0⟩,
  some ⟨.arr 8 (.int .i64), 0, 64, 0⟩,
  some ⟨.arr 2 (.int .i64), 0, 16, 0⟩,
  none,
  none,
  none,
  none,
  none,
  none,
  none,
  some ⟨.sl (.arr 2 (.int .i64)), 0, 16, 23⟩,
  none,
  some ⟨.int .u32, 0, 4, 0⟩,
  some ⟨.prod (.int .u32) (.int .i64), 2, 16, 0⟩,
  some ⟨.prod (.int .u32) (.int .i64), 2, 16, 0⟩,
  some ⟨.arr 16 (.prod (.int .u32) (.int .i64)), 0, 256, 0⟩,
  some ⟨.arr 16 (.prod (.int .u32) (.int .i64)), 0, 256, 0⟩,
  none,
  none,
  none,
  none,
  none,
  none,
  some ⟨.int .u64, 0, 8, 0⟩,
  none,
  some ⟨.int .u64, 0, 8, 0⟩,
  some ⟨.arr 16 (.int .u32), 0, 64, 0⟩,
  some ⟨.prod (.int .i64) (.arr 16 (.int .u32)), 2, 72, 0⟩,
  some ⟨.prod (.int .i64) (.arr 16 (.int .u32)), 2, 72, 0⟩,
  some ⟨.int .i64, 0, 8, 0⟩,
  none,
  none,
  some ⟨.sl (.int .i64), 0, 8, 3⟩,
  none,
  none,
  none,
  none,
  none,
  none,
  some ⟨.sl (.prod .bool (.prod (.int .i64) (.int .u32))), 0, 24, 62⟩,
  some ⟨.prod .bool (.prod (.int .i64) (.int .u32)), 3, 24, 0⟩,
  some ⟨.prod .bool (.prod (.int .i64) (.int .u32)), 3, 24, 0⟩,
  none,
  some ⟨.prod (.int .i64) (.prod (.int .i64) (.int .i64)), 3, 24, 0⟩,
  some ⟨.prod (.int .i64) (.prod (.int .i64) (.int .i64)), 3, 24, 0⟩,
  none,
  none,
  none,
  none,
  none,
  none,
  some ⟨.prod (.int .i64) (.prod (.int .i64) (.prod (.int .i64) (.int .i64))), 4, 32, 0⟩,
  some ⟨.prod (.int .i64) (.prod (.int .i64) (.prod (.int .i64) (.int .i64))), 4, 32, 0⟩,
  some ⟨.prod (.int .i64) (.prod (.prod (.int .i64) (.prod (.int .i64) (.prod (.int .i64) (.int .i64)))) (.prod (.int .i64) (.arr 16 (.int .u32)))), 3, 112, 0⟩,
  some ⟨.prod (.int .i64) (.prod (.prod (.int .i64) (.prod (.int .i64) (.prod (.int .i64) (.int .i64)))) (.prod (.int .i64) (.arr 16 (.int .u32)))), 3, 112, 0⟩,
  none,
  none,
  none,
  none,
  none,
  none,
  none,
  none,
  none,
  none,
  none,
  none,
  none,
  none,
  none,
  none,
  none,
  some ⟨.sl (.prod (.int .i64) (.prod (.prod (.int .i64) (.prod (.int .i64) (.prod (.int .i64) (.int .i64)))) (.prod (.int .i64) (.arr 16 (.int .u32))))), 0, 112, 75⟩,
  none,
  none,
  none,
  none,
  none,
  none,
  some ⟨.sl (.arr 8 (.int .i64)), 0, 64, 22⟩,
  some ⟨.arr 8 .str, 0, 128, 0⟩,
  none,
  none,
  none,
  none,
  none,
  none,
  none,
  none,
  none,
  some ⟨.sl (.int .u8), 0, 1, 5⟩,
  none,
  none,
  some ⟨.err, 0, 16, 0⟩,
  some ⟨.err, 0, 16, 0⟩,
  none,
  none,
  none,
  some ⟨.sl .str, 0, 16, 9⟩,
  none,
  none,
  none,
  none,
  some ⟨.arr 4 (.int .i64), 0, 32, 0⟩,
  none,
  none,
  none,
  none,
  none,
  none,
  none,
  none,
  none,
  none,
  none,
  none,
  none,
  none,
  some ⟨.arr 16 (.int .i64), 0, 128, 0⟩,
  some ⟨.arr 16 (.arr 16 (.int .i64)), 0, 2048, 0⟩,
  none,
  some ⟨.arr 5 .str, 0, 80, 0⟩,
  none,
  none,
  none,
  none,
  none,
  none,
  none,
  none,
  none,
  some ⟨.arr 24 (.int .u8), 0, 24, 0⟩,
  none,
  none,
  none,
  none,
  none,
  none,
  some ⟨.int .i64, 0, 8, 0⟩,
  none,
  none,
  none,
  none,
  none,
  some ⟨.arr 20 (.int .u64), 0, 160, 0⟩,
  some ⟨.arr 65 (.int .u8), 0, 65, 0⟩,
  some ⟨.arr 32 (.int .u8), 0, 32, 0⟩,
  some ⟨.arr 64 (.int .u8), 0, 64, 0⟩,
  none,
  none,
  none,
  none,
  none,
  none,
  none,
  none,
  none,
  none,
  some ⟨.prod .str .unit, 1, 16, 0⟩,
  some ⟨.prod .str .unit, 1, 16, 0⟩,
  none,
  none,
  some ⟨.arr 256 (.int .u8), 0, 256, 0⟩,
  some ⟨.prod (.int .u8) (.int .u8), 2, 2, 0⟩,
  some ⟨.prod (.int .u8) (.int .u8), 2, 2, 0⟩,
  some ⟨.arr 16 (.prod (.int .u8) (.int .u8)), 0, 32, 0⟩,
  none,
  none,
  none,
  none,
  none,
  some ⟨.int .u8, 0, 1, 0⟩,
  some ⟨.int .u8, 0, 1, 0⟩,
  none,
  some ⟨.int .i32, 0, 4, 0⟩,
  some ⟨.int .i32, 0, 4, 0⟩,
  none,
  none]

def tys : Tys := fun t => tyL.getD t none
theorem tysOK : TysOK Tryd.prog tys := tysOK_of_chk (by kernel_rfl)
theorem mixed : Tryd.prog.follows .mixedOrders = true := by kernel_rfl
end Go.Ev.D
/- Epochs and numbers in bytes, plainly. -/
set_option linter.unusedVariables false
namespace Go.Ev

abbrev gE : GTy := .prod (.int .u32) (.int .u32)
abbrev gPair : GTy := .prod gE gE

def newerF (a b : Int × Int) : Bool := bif a.1 != b.1 then decide (a.1 > b.1) else decide (a.2 > b.2)
def nextF (e : Int × Int) : (Int × Int) × Int := bif e.2 == 4294967295 then ((0, 0), 11) else ((e.1, e.2 + 1), 0)
def rebootF (e : Int × Int) : (Int × Int) × Int := bif e.1 == 4294967295 then ((0, 0), 11) else ((e.1 + 1, 0), 0)
def noneF (e : Int × Int) : Bool := e.1 == 0 && e.2 == 0
def swapF (p : (Int × Int) × (Int × Int)) : (Int × Int) × (Int × Int) := (p.2, p.1)
def sameF (a b : (Int × Int) × (Int × Int)) : Bool := geq gPair a (swapF b) && !(noneF a.1) && !(noneF a.2)

/-- The lowest k bytes of a number, the highest one first. -/
def numB : Nat → Nat → List UInt8
  | 0, _ => []
  | k + 1, n => numB k (n / 256) ++ [UInt8.ofNat (n % 256)]
/-- The number that bytes tell. -/
def bigN (l : List UInt8) : Nat := l.foldl (fun a b => a * 256 + b.toNat) 0

theorem numB_len : ∀ k n, (numB k n).length = k
  | 0, _ => rfl
  | k + 1, n => by simp [numB, numB_len k]
theorem bigN_snoc (l : List UInt8) (b : UInt8) : bigN (l ++ [b]) = bigN l * 256 + b.toNat := by simp [bigN]
theorem bigN_num : ∀ k n, bigN (numB k n) = n % 256 ^ k
  | 0, n => by simp [numB, bigN, Nat.mod_one]
  | k + 1, n => by
    rw [numB, bigN_snoc, bigN_num k]
    have h : (UInt8.ofNat (n % 256)).toNat = n % 256 := by simp
    rw [h, Nat.pow_succ, Nat.mul_comm (256 ^ k) 256, Nat.mod_mul]
    omega
theorem big_lt : ∀ (l : List UInt8) (a : Nat), l.foldl (fun a b => a * 256 + b.toNat) a < (a + 1) * 256 ^ l.length
  | [], a => by simp
  | b :: l, a => by
    have h := big_lt l (a * 256 + b.toNat)
    have hb := b.toNat_lt
    simp only [List.foldl_cons, List.length_cons, Nat.pow_succ]
    refine Nat.lt_of_lt_of_le h ?_
    rw [Nat.mul_comm (256 ^ l.length) 256, ← Nat.mul_assoc]
    exact Nat.mul_le_mul_right _ (by omega)
theorem bigN_lt (l : List UInt8) : bigN l < 256 ^ l.length := by
  have := big_lt l 0
  simpa [bigN] using this
/-- The number of so many bytes, and what follows; else which error. -/
def numF (n k : Int) : List UInt8 := numB (min (max k 0) 8).toNat n.toNat
def takeF (s : List UInt8) (k : Int) : Int × List UInt8 × Int :=
  bif bif decide (k < 0) then true else decide (k > 8) then (0, [], 1) else bif decide ((s.length : Int) < k) then (0, [], 2) else ((bigN (s.take k.toNat) : Int), s.drop k.toNat, 0)

theorem u8_toNat_lt (b : UInt8) : (b.toNat : Int) < 256 := by have := b.toNat_lt; omega

theorem take_step {s : List UInt8} {i : Int} (h0 : 0 ≤ i) (hi : i < s.length) (h7 : i < 8) :
    bitsOp .or .u64 (IntKind.u64.wrap ((bigN (s.take i.toNat) : Int) * 256)) (IntKind.u64.wrap ((s.getD i.toNat 0).toNat : Int)) = (bigN (s.take (i + 1).toNat) : Int) := by
  have hlt := bigN_lt (s.take i.toNat)
  have hlen : (s.take i.toNat).length = i.toNat := by rw [List.length_take]; omega
  rw [hlen] at hlt
  have hp : (256 : Nat) ^ i.toNat ≤ 256 ^ 7 := Nat.pow_le_pow_right (by omega) (by omega)
  have hb := u8_toNat_lt (s.getD i.toNat 0)
  have hn : s.take (i + 1).toNat = s.take i.toNat ++ [s.getD i.toNat 0] := by
    rw [show (i + 1).toNat = i.toNat + 1 by omega, List.take_add_one]
    simp [List.getD, show i.toNat < s.length by omega]
  generalize s.getD i.toNat 0 = b at *
  rw [hn, bigN_snoc]
  generalize bigN (s.take i.toNat) = n at *
  have h7' : (256 : Nat) ^ 7 = 72057594037927936 := by decide
  rw [u64_id (by omega) (by omega), u64_id (by omega) (by omega)]
  have hor : (n * 256) ||| b.toNat = n * 256 + b.toNat := by
    have := Nat.two_pow_add_eq_or_of_lt (i := 8) (b := b.toNat) b.toNat_lt n
    rw [show (2 : Nat) ^ 8 = 256 by decide] at this
    rw [Nat.mul_comm n 256, this]
  rw [or_nat (by omega) (by show (n : Int) * 256 < 18446744073709551616; omega) (by omega) (by show (b.toNat : Int) < 18446744073709551616; omega)]
  · rw [show ((n : Int) * 256).toNat = n * 256 by omega, show ((b.toNat : Int)).toNat = b.toNat by omega, hor]
  · rw [show ((n : Int) * 256).toNat = n * 256 by omega, show ((b.toNat : Int)).toNat = b.toNat by omega, hor, has_u64]
    omega

/-- The row that a number's bytes fill. -/
def numI (k n : Nat) : List Int := (numB k n).map fun b => (b.toNat : Int)
theorem numI_len (k n : Nat) : (numI k n).length = k := by simp [numI, numB_len]
theorem numI_succ (k n : Nat) : numI (k + 1) n = numI k (n / 256) ++ [((n % 256 : Nat) : Int)] := by simp [numI, numB]
theorem bytesToStr_map (l : List UInt8) : bytesToStr (l.map fun b => (b.toNat : Int)) = l := by
  unfold bytesToStr
  rw [List.map_map]
  have : ((fun n : Int => UInt8.ofNat n.toNat) ∘ fun b : UInt8 => (b.toNat : Int)) = id := by
    funext b
    simp
  rw [this, List.map_id]
theorem bytesToStr_numI (k n : Nat) : bytesToStr (numI k n) = numB k n := bytesToStr_map _
theorem low_byte {n : Int} (h0 : 0 ≤ n) (h1 : n < 18446744073709551616) : IntKind.u8.wrap (bitsOp .and .u64 n 255) = ((n.toNat % 256 : Nat) : Int) := by
  have hand : n.toNat &&& 255 = n.toNat % 256 := Nat.and_two_pow_sub_one_eq_mod n.toNat 8
  have e : ((255 : Int)).toNat = 255 := rfl
  rw [and_nat h0 (by show n < 18446744073709551616; exact h1) (by omega) (by show (255 : Int) < 18446744073709551616; omega)]
  · rw [e, hand, u8_id (by omega) (by omega)]
  · rw [e, hand, has_u64]; omega
theorem num_fill {n i : Int} {out : List Int} (h0 : 0 ≤ n) (h1 : n < 18446744073709551616) (hi : 0 ≤ i) (hl : i < out.length) :
    numI i.toNat (Int.fdiv n 256).toNat ++ (out.set i.toNat (IntKind.u8.wrap (bitsOp .and .u64 n 255))).drop i.toNat = numI (i + 1).toNat n.toNat ++ out.drop (i + 1).toNat := by
  rw [low_byte h0 h1, show (i + 1).toNat = i.toNat + 1 by omega, numI_succ]
  have hd : (Int.fdiv n 256).toNat = n.toNat / 256 := by
    rw [Int.fdiv_eq_ediv_of_nonneg _ (by omega)]; omega
  rw [hd, List.append_assoc, List.drop_set, if_neg (by omega), Nat.sub_self]
  congr 1
  have hlt : i.toNat < out.length := by omega
  rw [List.drop_eq_getElem_cons hlt]
  rfl

def num4 (n : Int) : List UInt8 := numB 4 n.toNat
def pairB (p : (Int × Int) × (Int × Int)) : List UInt8 := num4 p.1.1 ++ num4 p.1.2 ++ (num4 p.2.1 ++ num4 p.2.2)
def big4 (s : List UInt8) : Int := (bigN (s.take 4) : Nat)
def readF (s : List UInt8) : ((Int × Int) × (Int × Int)) × List UInt8 × Int :=
  bif decide ((s.length : Int) < 16) then (((0, 0), (0, 0)), [], 2) else (((big4 s, big4 (s.drop 4)), (big4 (s.drop 8), big4 (s.drop 12))), s.drop 16, 0)

theorem numF4 (n : Int) : numF n 4 = num4 n := rfl
theorem num4_len (n : Int) : (num4 n).length = 4 := numB_len 4 _
theorem takeF4 {s : List UInt8} (h : 4 ≤ s.length) : takeF s 4 = (big4 s, s.drop 4, 0) := by
  have h1 : decide ((s.length : Int) < 4) = false := by simp; omega
  unfold takeF
  rw [h1]
  rfl
theorem big4_lt (s : List UInt8) : 0 ≤ big4 s ∧ big4 s ≤ 4294967295 := by
  unfold big4
  have := bigN_lt (s.take 4)
  have h : (256 : Nat) ^ (s.take 4).length ≤ 256 ^ 4 := Nat.pow_le_pow_right (by omega) (by simp; omega)
  have h' : (256 : Nat) ^ 4 = 4294967296 := by decide
  omega
theorem big4_u32 (s : List UInt8) : IntKind.u32.wrap (big4 s) = big4 s := u32_id (big4_lt s).1 (big4_lt s).2
end Go.Ev
/- The laws of epochs, plainly. -/
set_option linter.unusedVariables false
namespace Go.Ev

theorem newerF_eq (a b : Int × Int) : newerF a b = decide (a.1 > b.1 ∨ a.1 = b.1 ∧ a.2 > b.2) := by
  unfold newerF
  by_cases h : a.1 = b.1
  · simp [h]
  · have : (a.1 != b.1) = true := by simpa using h
    rw [this]
    simp [h]
theorem geqE (a b : Int × Int) : geq gE a b = decide (a.1 = b.1 ∧ a.2 = b.2) := by
  simp [geq, Bool.decide_and]
  rfl
theorem geqB (x y : Bool) : geq .bool x y = (x == y) := rfl
theorem order_no (a b c : Int × Int) :
    (bif bif bif newerF a b then newerF b a else false then true else !geq GTy.bool (geq gE a b) (bif !newerF a b then !newerF b a else false) then true else bif bif newerF a b then newerF b c else false then !newerF a c else false) = false := by
  cases h1 : newerF a b <;> cases h2 : newerF b a <;> cases h3 : newerF b c <;> cases h4 : newerF a c <;> cases h5 : geq gE a b <;>
    first
    | rfl
    | (exfalso
       rw [newerF_eq] at h1 h2 h3 h4
       rw [geqE] at h5
       simp only [decide_eq_true_eq, decide_eq_false_iff_not] at h1 h2 h3 h4 h5
       omega)
theorem order_yes (a : Int × Int) :
    (bif bif bif bif (nextF a).2 != 0 then true else newerF (nextF a).1 a then bif (rebootF a).2 != 0 then true else newerF (rebootF a).1 a else false then bif bif (nextF a).2 != 0 then true else (rebootF a).2 != 0 then true else newerF (rebootF a).1 (nextF a).1 else false then true else false) = true := by
  simp only [newerF_eq, nextF, rebootF]
  cases h1 : (a.2 == 4294967295) <;> cases h2 : (a.1 == 4294967295) <;> simp <;> omega

theorem big_num4 {n : Int} (h : 0 ≤ n ∧ n ≤ 4294967295) (l : List UInt8) : big4 (num4 n ++ l) = n := by
  unfold big4 num4
  rw [List.take_left' (numB_len 4 _), bigN_num]
  have h' : (256 : Nat) ^ 4 = 4294967296 := by decide
  omega
theorem read_pair {p : (Int × Int) × (Int × Int)} (h : wt gPair p) (s : List UInt8) : readF (pairB p ++ s) = (p, s, 0) := by
  obtain ⟨⟨a, b⟩, ⟨c, d⟩⟩ := p
  obtain ⟨⟨ha, hb⟩, ⟨hc, hd⟩⟩ := h
  simp only [wt, has_u32] at ha hb hc hd
  unfold readF pairB
  have hl : decide (((num4 a ++ num4 b ++ (num4 c ++ num4 d) ++ s).length : Int) < 16) = false := by
    simp only [List.length_append, num4_len]
    simp
    omega
  have h4 : ∀ (n : Int) (l : List UInt8), (num4 n ++ l).drop 4 = l := fun n l => List.drop_left' (num4_len n)
  have d4 : (num4 a ++ (num4 b ++ (num4 c ++ (num4 d ++ s)))).drop 4 = num4 b ++ (num4 c ++ (num4 d ++ s)) := h4 _ _
  have d8 : (num4 a ++ (num4 b ++ (num4 c ++ (num4 d ++ s)))).drop 8 = num4 c ++ (num4 d ++ s) := by
    rw [show (8 : Nat) = 4 + 4 from rfl, ← List.drop_drop, h4, h4]
  have d12 : (num4 a ++ (num4 b ++ (num4 c ++ (num4 d ++ s)))).drop 12 = num4 d ++ s := by
    rw [show (12 : Nat) = 8 + 4 from rfl, ← List.drop_drop, d8, h4]
  have d16 : (num4 a ++ (num4 b ++ (num4 c ++ (num4 d ++ s)))).drop 16 = s := by
    rw [show (16 : Nat) = 12 + 4 from rfl, ← List.drop_drop, d12, h4]
  rw [hl]
  simp only [List.append_assoc, cond_false]
  rw [d4, d8, d12, d16, big_num4 ha, big_num4 hb, big_num4 hc, big_num4 hd]
theorem geqPair (p q : (Int × Int) × (Int × Int)) : geq gPair p q = decide (p = q) := by
  obtain ⟨⟨a, b⟩, ⟨c, d⟩⟩ := p
  obtain ⟨⟨a', b'⟩, ⟨c', d'⟩⟩ := q
  simp only [geq]
  rw [Bool.eq_iff_iff]
  simp [and_assoc]
theorem pairB_len (p : (Int × Int) × (Int × Int)) : (pairB p).length = 16 := by simp [pairB, num4_len]
end Go.Ev
/- Parcels, and by whom they go, plainly. -/
set_option linter.unusedVariables false
namespace Go.Ev

abbrev gFib : GTy := .prod (.int .i64) (.prod (.arr 16 (.int .i64)) (.arr 16 gPair))
abbrev gParcel : GTy := .prod (.int .i64) (.prod gPair (.prod (.int .i64) (.prod (.int .i64) (.prod (.int .i64) .str))))
abbrev DPair := (Int × Int) × (Int × Int)
abbrev DFib := Int × List Int × List DPair
abbrev DParcel := Int × DPair × Int × Int × Int × List UInt8

def rightF (n : Int) : Bool := bif decide (n ≥ 0) then decide (n < 16) else false
def parcel0 : DParcel := (0, ((0, 0), (0, 0)), 0, 0, 0, [])
def prightF (p : DParcel) : Bool :=
  bif bif bif bif bif rightF p.1 then rightF p.2.2.1 else false then rightF p.2.2.2.1 else false then decide (p.2.2.2.2.1 ≥ 1) else false then decide (p.2.2.2.2.1 ≤ 64) else false then decide ((p.2.2.2.2.2.length : Int) ≤ 64) else false
def hoppedF (p : DParcel) (n : Int) (e : DPair) : DParcel := bif decide (p.2.2.2.2.1 ≤ 1) then parcel0 else (n, e, p.2.2.1, p.2.2.2.1, IntKind.i64.wrap (p.2.2.2.2.1 - 1), p.2.2.2.2.2)
def hopF (p : DParcel) (n : Int) (e : DPair) : DParcel × Bool := (hoppedF p n e, !(geq gParcel (hoppedF p n e) parcel0))
def fib0 (self : Int) : DFib := (self, List.replicate 16 (-1), List.replicate 16 ((0, 0), (0, 0)))
def oldF (f : DFib) (p : DParcel) : Bool := bif bif !rightF p.1 then true else p.1 == f.1 then true else !sameF (f.2.2.getD p.1.toNat ((0, 0), (0, 0))) p.2.1
theorem rightF_iff {n : Int} : rightF n = true ↔ 0 ≤ n ∧ n < 16 := by
  unfold rightF
  cases h : decide (n ≥ 0) <;> simp at h ⊢ <;> omega
def fateF (f : DFib) (p : DParcel) (mine : Bool) : Int :=
  bif !prightF p then 3 else bif bif !mine then oldF f p else false then 4 else bif p.2.2.2.1 == f.1 then 0 else bif bif !mine then p.2.2.1 == f.1 else false then 5 else
    bif !rightF (f.2.1.getD p.2.2.2.1.toNat 0) then 3 else bif bif !mine then decide (p.2.2.2.2.1 ≤ 1) else false then 2 else 1
def outF (f : DFib) (p : DParcel) : Int × DParcel × Bool :=
  bif bif !rightF p.2.2.2.1 then true else !rightF (f.2.1.getD p.2.2.2.1.toNat 0) then (-1, parcel0, false) else
    (f.2.1.getD p.2.2.2.1.toNat 0, (f.1, f.2.2.getD (f.2.1.getD p.2.2.2.1.toNat 0).toNat ((0, 0), (0, 0)), p.2.2), true)
theorem prightF_dst {p : DParcel} (h : prightF p = true) : 0 ≤ p.2.2.2.1 ∧ p.2.2.2.1 < 16 := by
  unfold prightF at h
  cases h1 : rightF p.2.2.2.1 with
  | true => exact rightF_iff.1 h1
  | false => rw [h1] at h; cases hx : rightF p.1 <;> cases hy : rightF p.2.2.1 <;> simp [hx, hy] at h
def carryF (f : DFib) (p : DParcel) : Int × DParcel × Int :=
  bif fateF f p false != 1 then (-1, parcel0, fateF f p false) else bif geq gParcel (hopF p f.1 p.2.1).1 parcel0 then (-1, (hopF p f.1 p.2.1).1, fateF f p false) else
    ((outF f (hopF p f.1 p.2.1).1).1, (outF f (hopF p f.1 p.2.1).1).2.1, fateF f p false)
def beginF (f : DFib) (p : DParcel) : Int × DParcel × Int :=
  bif fateF f (f.1, p.2.1, f.1, p.2.2.2) true != 1 then (-1, parcel0, fateF f (f.1, p.2.1, f.1, p.2.2.2) true) else
    ((outF f (f.1, p.2.1, f.1, p.2.2.2)).1, (outF f (f.1, p.2.1, f.1, p.2.2.2)).2.1, fateF f (f.1, p.2.1, f.1, p.2.2.2) true)
def someFib : DFib := (1, (List.replicate 16 (-1)).set 3 2, ((List.replicate 16 ((0, 0), (0, 0))).set 2 ((1, 0), (2, 0))).set 4 ((1, 0), (9, 0)))
end Go.Ev
/- Nodes, costs and configurations, plainly. -/
set_option linter.unusedVariables false
namespace Go.Ev

abbrev gRules : GTy := .prod (.int .i64) (.prod (.int .i64) (.prod (.int .i64) (.int .i64)))
abbrev gCosts : GTy := .prod (.int .i64) (.arr 16 (.int .u32))
abbrev gConf : GTy := .prod (.int .i64) (.prod gRules gCosts)
abbrev DRules := Int × Int × Int × Int
abbrev DCosts := Int × List Int
abbrev DConf := Int × DRules × DCosts

/-- Bit n of a set. -/
def bitF (set n : Int) : Bool := bitsOp .and .i64 (Int.fdiv set (2 ^ min n.toNat 64)) 1 == 1
def hasF (set n : Int) : Bool := bif rightF n then bitF set n else false
def rcostF (n : Int) : Bool := bif decide (n ≥ 1) then decide (n ≤ 65536) else false
def withF (set n : Int) : Int := bif !rightF n then set else bitsOp .or .i64 set (IntKind.i64.wrap (1 * 2 ^ min n.toNat 64))
def withinF (n a b : Int) : Bool := bif decide (n ≥ a) then decide (n ≤ b) else false
def rulesF (r : DRules) : Bool := bif bif bif bif withinF r.1 1 100 then decide (r.2.1 > r.1) else false then decide (r.2.1 ≤ 1000) else false then withinF r.2.2.1 1 100 else false then withinF r.2.2.2 1 10 else false
def csetF (c : DCosts) (n w : Int) : DCosts × Int := bif bif !rightF n then true else !rcostF w then (c, 1) else ((withF c.1 n, c.2.set n.toNat w), 0)
/-- The set's nodes among the last k. -/
def elemsF (set : Int) : Nat → List Int
  | 0 => []
  | k + 1 => (bif hasF set (16 - (k + 1 : Nat)) then [(16 : Int) - (k + 1 : Nat)] else []) ++ elemsF set k
theorem elems_len (set : Int) : ∀ k, (elemsF set k).length ≤ k
  | 0 => Nat.le_refl _
  | k + 1 => by
    have := elems_len set k
    unfold elemsF
    cases hasF set (16 - (k + 1 : Nat)) <;> simp <;> omega
theorem list_step {s i : Int} {out : List Int} (h : 0 ≤ i ∧ i ≤ 16 ∧ (out.length : Int) ≤ i) :
    ((decide (i < 16) = true → (hasF s i = true → (out.length + 1) * 8 ≤ 140737488355328) ∧ ∃ y : (Int × Int × Unit) × List Int × Unit, some ((s, IntKind.i64.wrap (i + 1), ()), bif hasF s i then out ++ [i] else out, ()) = some y ∧
        (0 ≤ y.1.2.1 ∧ y.1.2.1 ≤ 16 ∧ (y.2.1.length : Int) ≤ y.1.2.1) ∧ (16 - y.1.2.1).toNat < (16 - i).toNat ∧ (Ex.exit 0, ((y.1.1, (16 : Int), ()), y.2.1 ++ elemsF y.1.1 (16 - y.1.2.1).toNat, ())) = (Ex.exit 0, ((s, (16 : Int), ()), out ++ elemsF s (16 - i).toNat, ()))) ∧
      (decide (i < 16) = false → ∃ y : (Int × Int × Unit) × List Int × Unit, some ((s, i, ()), out, ()) = some y ∧ (Ex.exit 0, ((s, (16 : Int), ()), out ++ elemsF s (16 - i).toNat, ())) = (Ex.exit 0, y))) := by
  obtain ⟨h1, h2, h3⟩ := h
  refine ⟨fun h => ?_, fun h => ?_⟩
  · have h' : i < 16 := by simpa using h
    have e : IntKind.i64.wrap (i + 1) = i + 1 := i64_id (by omega) (by omega)
    rw [e]
    refine ⟨fun _ => by omega, _, rfl, ⟨by simp only []; omega, by simp only []; omega, ?_⟩, by simp only []; omega, ?_⟩
    · cases hasF s i <;> simp <;> omega
    · simp only []
      rw [show (16 - i).toNat = (16 - (i + 1)).toNat + 1 by omega, elemsF, show (16 : Int) - ((16 - (i + 1)).toNat + 1 : Nat) = i by omega]
      cases hasF s i <;> simp
  · have h' : i = 16 := by
      have : ¬ i < 16 := by simpa using h
      omega
    subst h'
    exact ⟨_, rfl, by simp [elemsF]⟩
end Go.Ev
/- Sets of nodes as texts, in plain Lean. -/
set_option linter.unusedVariables false
set_option linter.unusedSimpArgs false
namespace Go.Ev
def letF (n : Int) : UInt8 := UInt8.ofNat (97 + n).toNat
def textN (s : Int) : List UInt8 := bif bitsOp BinOp.and IntKind.i64 s (65535 : Int) == (0 : Int) then [46] else (elemsF s 16).map letF
theorem elem_in {s j : Int} : ∀ {k : Nat}, k ≤ 16 → j ∈ elemsF s k → 0 ≤ j ∧ j < 16 ∧ hasF s j = true
  | 0, _, h => by cases h
  | k + 1, hk, h => by
    simp only [elemsF, List.mem_append] at h
    rcases h with h | h
    · cases hb : hasF s (16 - (k + 1 : Nat)) with
      | false => rw [hb] at h; simp at h
      | true =>
        rw [hb] at h
        have : j = 16 - ((k + 1 : Nat) : Int) := by simpa using h
        rw [this]
        exact ⟨by omega, by omega, hb⟩
    · exact elem_in (by omega) h
theorem in_elem {s j : Int} (hj : j < 16) (hh : hasF s j = true) : ∀ {k : Nat}, 16 - (k : Int) ≤ j → j ∈ elemsF s k
  | 0, h => by omega
  | k + 1, h => by
    simp only [elemsF, List.mem_append]
    by_cases e : j = 16 - ((k + 1 : Nat) : Int)
    · left
      rw [← e, hh]
      simp
    · right
      exact in_elem hj hh (by omega)
theorem and_low {s : Int} (m : Nat) (hm : m < 63) : bitsOp BinOp.and IntKind.i64 s ((2 ^ m - 1 : Nat) : Int) = s % (2 ^ m : Nat) := by
  have hp : 2 ^ m ≤ 2 ^ 62 := Nat.pow_le_pow_right (by omega) (by omega)
  have hp0 : 0 < 2 ^ m := Nat.pow_pos (by omega)
  have h62 : (2 : Nat) ^ 62 = 4611686018427387904 := by decide
  show IntKind.i64.wrap ((BitVec.ofInt 64 s &&& BitVec.ofInt 64 ((2 ^ m - 1 : Nat) : Int)).toNat : Int) = _
  rw [BitVec.toNat_and, BitVec.toNat_ofInt, BitVec.toNat_ofInt]
  have e1 : (((2 ^ m - 1 : Nat) : Int) % ((2 ^ 64 : Nat) : Int)).toNat = 2 ^ m - 1 := by
    rw [Int.emod_eq_of_lt (by omega) (by omega)]
    omega
  rw [e1, Nat.and_two_pow_sub_one_eq_mod]
  have h2 : (s % ((2 ^ 64 : Nat) : Int)).toNat % 2 ^ m = (s % (2 ^ m : Nat)).toNat := by
    have hd : ((2 ^ m : Nat) : Int) ∣ ((2 ^ 64 : Nat) : Int) := Int.ofNat_dvd.2 (Nat.pow_dvd_pow 2 (by omega))
    have hnn : 0 ≤ s % ((2 ^ 64 : Nat) : Int) := Int.emod_nonneg _ (by decide)
    have := Int.emod_emod_of_dvd s hd
    have h3 : (((s % ((2 ^ 64 : Nat) : Int)).toNat % 2 ^ m : Nat) : Int) = s % (2 ^ m : Nat) := by
      rw [Int.natCast_emod, Int.toNat_of_nonneg hnn]
      exact this
    have h4 : 0 ≤ s % ((2 ^ m : Nat) : Int) := Int.emod_nonneg _ (by omega)
    omega
  rw [h2]
  have h4 : 0 ≤ s % ((2 ^ m : Nat) : Int) := Int.emod_nonneg _ (by omega)
  have h5 := Int.emod_lt_of_pos s (show (0 : Int) < ((2 ^ m : Nat) : Int) by omega)
  rw [i64_id (by omega) (by omega)]
  omega
theorem bit_at {s : Int} {n : Nat} (hn : n < 16) : bitF s n = ((s / (2 ^ n : Nat)) % 2 == 1) := by
  unfold bitF
  have e : min (n : Int).toNat 64 = n := by omega
  rw [e]
  have h := and_low (s := Int.fdiv s (2 ^ n)) 1 (by omega)
  have h' : bitsOp BinOp.and IntKind.i64 (Int.fdiv s (2 ^ n)) 1 = Int.fdiv s (2 ^ n) % 2 := h
  rw [h', Int.fdiv_eq_ediv_of_nonneg _ (Int.le_of_lt (Int.pow_pos (by omega)))]
  simp
theorem bits_dvd {s : Int} (h : ∀ n : Nat, n < 16 → (s / (2 ^ n : Nat)) % 2 = 0) : ∀ n : Nat, n ≤ 16 → ((2 ^ n : Nat) : Int) ∣ s
  | 0, _ => by simp
  | n + 1, hn => by
    obtain ⟨q, hq⟩ := bits_dvd h n (by omega)
    have h1 := h n (by omega)
    have hp : ((2 ^ n : Nat) : Int) ≠ 0 := by
      have : 0 < 2 ^ n := Nat.pow_pos (by omega)
      omega
    rw [hq, Int.mul_ediv_cancel_left q hp] at h1
    obtain ⟨r, hr⟩ := Int.dvd_of_emod_eq_zero h1
    refine ⟨r, ?_⟩
    rw [hq, hr, Nat.pow_succ, Int.natCast_mul, Int.mul_assoc]
    rfl
theorem no_bits {s : Int} (h : ∀ n : Nat, n < 16 → (s / (2 ^ n : Nat)) % 2 = 0) : s % 65536 = 0 := Int.emod_eq_zero_of_dvd (bits_dvd h 16 (by omega))
theorem right_nat {n : Nat} (hn : n < 16) : rightF (n : Int) = true := rightF_iff.2 ⟨by omega, by omega⟩
theorem mask_empty (s : Int) : (bitsOp BinOp.and IntKind.i64 s (65535 : Int) == (0 : Int)) = (elemsF s 16).isEmpty := by
  have hm : bitsOp BinOp.and IntKind.i64 s (65535 : Int) = s % 65536 := and_low (s := s) 16 (by omega)
  rw [hm, Bool.eq_iff_iff]
  simp only [beq_iff_eq, List.isEmpty_iff]
  constructor
  · intro h
    cases he : elemsF s 16 with
    | nil => rfl
    | cons j l =>
      exfalso
      obtain ⟨h1, h2, h3⟩ := elem_in (Nat.le_refl 16) (show j ∈ elemsF s 16 by rw [he]; simp)
      obtain ⟨n, rfl⟩ := Int.eq_ofNat_of_zero_le h1
      have hn : n < 16 := by omega
      unfold hasF at h3
      rw [right_nat hn] at h3
      simp only [cond_true] at h3
      rw [bit_at hn] at h3
      simp only [beq_iff_eq] at h3
      have hk : n = 0 ∨ n = 1 ∨ n = 2 ∨ n = 3 ∨ n = 4 ∨ n = 5 ∨ n = 6 ∨ n = 7 ∨ n = 8 ∨ n = 9 ∨ n = 10 ∨ n = 11 ∨ n = 12 ∨ n = 13 ∨ n = 14 ∨ n = 15 := by omega
      rcases hk with rfl | rfl | rfl | rfl | rfl | rfl | rfl | rfl | rfl | rfl | rfl | rfl | rfl | rfl | rfl | rfl <;> (simp at h3; omega)
  · intro h
    refine no_bits fun n hn => ?_
    cases hb : hasF s n with
    | true =>
      have := in_elem (k := 16) (by omega) hb (by omega)
      rw [h] at this
      cases this
    | false =>
      unfold hasF at hb
      rw [right_nat hn] at hb
      simp only [cond_true] at hb
      rw [bit_at hn] at hb
      have : ¬ s / (2 ^ n : Nat) % 2 = 1 := by simpa using hb
      have h2 := Int.emod_nonneg (s / (2 ^ n : Nat)) (show (2 : Int) ≠ 0 by decide)
      have h3 := Int.emod_lt_of_pos (s / (2 ^ n : Nat)) (show (0 : Int) < 2 by decide)
      omega
theorem textN_len (s : Int) : (textN s).length ≤ 16 := by
  unfold textN
  have := elems_len s 16
  cases bitsOp BinOp.and IntKind.i64 s (65535 : Int) == (0 : Int) <;> simp <;> omega
theorem let_byte {n : Int} (h0 : 0 ≤ n) (h1 : n < 16) : bytesToStr [IntKind.wrap IntKind.u8 (IntKind.wrap IntKind.i64 ((97 : Int) + n))] = [letF n] := by
  rw [show IntKind.wrap IntKind.i64 ((97 : Int) + n) = 97 + n from i64_id (by omega) (by omega), show IntKind.wrap IntKind.u8 ((97 : Int) + n) = 97 + n from u8_id (by omega) (by omega)]
  rfl
theorem drop_int {l : List Int} {i : Int} (h0 : 0 ≤ i) (h1 : i < l.length) : l.drop i.toNat = l.getD i.toNat 0 :: l.drop (i + 1).toNat := by
  have hlt : i.toNat < l.length := by omega
  rw [List.drop_eq_getElem_cons hlt, show (i + 1).toNat = i.toNat + 1 by omega]
  simp [List.getD, hlt]
theorem getD_mem {l : List Int} {i : Int} (h0 : 0 ≤ i) (h1 : i < l.length) : l.getD i.toNat 0 ∈ l := by
  have hlt : i.toNat < l.length := by omega
  simp [List.getD, hlt]
end Go.Ev
/- Sets of nodes, as texts. -/
set_option linter.unusedVariables false
set_option linter.unusedSimpArgs false
namespace Go.Ev.D
open Go.Proofs
def rightC : Ctr := { args := [.int .i64], res := [.bool], pre := none, fn := fun (x : Int) => rightF x }
def rightG : List (Nat × Ctr) := []
theorem right_tree : (fun x : Int => evFn (mkC tys rightG []) (fnOf Tryd.prog 72) (resL rightC.args x) rightC.res) =
  (fun x => Tree.leaf (bif decide (x ≥ (0 : Int)) then decide (x < (16 : Int)) else false)) := by kernel_rfl
theorem right_ok : CtrOK Tryd.prog 72 rightC :=
  fun_ok (G := rightG) (Λ := []) tysOK ctrs_nil mixed (by kernel_rfl) (by kernel_rfl) (by kernel_rfl) (by kernel_rfl) lp_nil fun (x : Int) hw _ => by
    rw [congrFun right_tree x]
    exact holds_val (d := rightC.fn x) (by kernel_rfl) (by simp [Tree.safe])
def hasC : Ctr := { args := [.int .i64, .int .i64], res := [.bool], pre := none, fn := fun (x : Int × Int) => hasF x.1 x.2 }
def hasG : List (Nat × Ctr) := [(72, rightC)]
theorem has_tree : (fun x : Int × Int => evFn (mkC tys hasG []) (fnOf Tryd.prog 41) (resL hasC.args x) hasC.res) =
  (fun x =>
    Tree.need ((rightF x.2 == true && true) = true → (0 : Int) ≤ x.2)
      (Tree.leaf (bif rightF x.2 then bitsOp BinOp.and IntKind.i64 (Int.fdiv x.1 ((2 : Int) ^ min (Int.toNat x.2) (64 : Nat))) (1 : Int) == (1 : Int) else false))) := by kernel_rfl
theorem has_ok : CtrOK Tryd.prog 41 hasC :=
  fun_ok (G := hasG) (Λ := []) tysOK (ctrs_cons right_ok ctrs_nil) mixed (by kernel_rfl) (by kernel_rfl) (by kernel_rfl) (by kernel_rfl) lp_nil fun (x : Int × Int) hw _ => by
    rw [congrFun has_tree x]
    exact holds_val (d := hasC.fn x) (by kernel_rfl) (by simp [Tree.safe]; intro h; exact (rightF_iff.1 h).1)
def withC : Ctr := { args := [.int .i64, .int .i64], res := [.int .i64], pre := none, fn := fun (x : Int × Int) => withF x.1 x.2 }
def withG : List (Nat × Ctr) := [(72, rightC)]
theorem with_tree : (fun x : Int × Int => evFn (mkC tys withG []) (fnOf Tryd.prog 100) (resL withC.args x) withC.res) =
  (fun x =>
    Tree.br (!rightF x.2) (Tree.leaf x.1) (Tree.need ((0 : Int) ≤ x.2) (Tree.leaf (bitsOp BinOp.or IntKind.i64 x.1 (IntKind.wrap IntKind.i64 ((1 : Int) * (2 : Int) ^ min (Int.toNat x.2) (64 : Nat))))))) := by kernel_rfl
theorem with_ok : CtrOK Tryd.prog 100 withC :=
  fun_ok (G := withG) (Λ := []) tysOK (ctrs_cons right_ok ctrs_nil) mixed (by kernel_rfl) (by kernel_rfl) (by kernel_rfl) (by kernel_rfl) lp_nil fun (x : Int × Int) hw _ => by
    rw [congrFun with_tree x]
    exact holds_val (d := withC.fn x) (by kernel_rfl) (by simp [Tree.safe]; intro h; exact (rightF_iff.1 h).1)
def rrightC : Ctr := { args := [.int .i64], res := [.bool], pre := none, fn := fun (x : Int) => rightF x }
def rrightG : List (Nat × Ctr) := []
theorem rright_tree : (fun x : Int => evFn (mkC tys rrightG []) (fnOf Tryd.prog 99) (resL rrightC.args x) rrightC.res) =
  (fun x => Tree.leaf (bif decide (x ≥ (0 : Int)) then decide (x < (16 : Int)) else false)) := by kernel_rfl
theorem rright_ok : CtrOK Tryd.prog 99 rrightC :=
  fun_ok (G := rrightG) (Λ := []) tysOK ctrs_nil mixed (by kernel_rfl) (by kernel_rfl) (by kernel_rfl) (by kernel_rfl) lp_nil fun (x : Int) hw _ => by
    rw [congrFun rright_tree x]
    exact holds_val (d := rrightC.fn x) (by kernel_rfl) (by simp [Tree.safe])
def rhasC : Ctr := { args := [.int .i64, .int .i64], res := [.bool], pre := none, fn := fun (x : Int × Int) => hasF x.1 x.2 }
theorem rhas_tree : (fun x : Int × Int => evFn (mkC tys [(99, rrightC)] []) (fnOf Tryd.prog 111) (resL rhasC.args x) rhasC.res) =
  (fun x =>
    Tree.need ((rightF x.2 == true && true) = true → (0 : Int) ≤ IntKind.wrap IntKind.u64 x.2)
      (Tree.leaf (bif rightF x.2 then bitsOp BinOp.and IntKind.i64 (Int.fdiv x.1 ((2 : Int) ^ min (Int.toNat (IntKind.wrap IntKind.u64 x.2)) (64 : Nat))) (1 : Int) == (1 : Int) else false))) := by kernel_rfl
theorem rhas_ok : CtrOK Tryd.prog 111 rhasC :=
  fun_ok (G := [(99, rrightC)]) (Λ := []) tysOK (ctrs_cons rright_ok ctrs_nil) mixed (by kernel_rfl) (by kernel_rfl) (by kernel_rfl) (by kernel_rfl) lp_nil fun (x : Int × Int) hw _ => by
    rw [congrFun rhas_tree x]
    cases h : rightF x.2 with
    | false => simp [Tree.holds, rhasC, hasF, h]
    | true =>
      have h2 := rightF_iff.1 h
      have e : IntKind.u64.wrap x.2 = x.2 := u64_id h2.1 (by omega)
      simp only [Tree.holds, rhasC, hasF, h, e, bitF]
      exact ⟨fun _ => h2.1, trivial⟩
def listD : LoopD where
  prom := [(3, 1003, 3, .int .i64)]
  ts := [(0, .val (.int .i64)), (3, .tip 1003), (5, .val (.int .i64))]
  bs := [(1003, .row 3 (.int .i64) false)]
  pre := fun (x : (Int × Int × Unit) × List Int × Unit) => 0 ≤ x.1.2.1 ∧ x.1.2.1 ≤ 16 ∧ (x.2.1.length : Int) ≤ x.1.2.1
  out := fun (x : (Int × Int × Unit) × List Int × Unit) => .leaf (.exit 0, ((x.1.1, 16, ()), x.2.1 ++ elemsF x.1.1 (16 - x.1.2.1).toNat, ()))
def listG : List (Nat × Ctr) := [(41, hasC)]
theorem listG_ok : CtrsOK Tryd.prog (fun f => lk f listG) := (ctrs_cons has_ok ctrs_nil)
def listC : Ctr := { args := [.int .i64], res := [.sl (.int .i64)], pre := none, fn := fun (x : Int) => elemsF x 16 }
theorem list_round : (fun x : (Int × Int × Unit) × List Int × Unit => roundOf (mkC tys listG [(0, listD.spec)]) listD (loopB 0 (bodyOf (fnOf Tryd.prog 102))) x) =
  (fun x =>
    Tree.br (decide (x.1.2.1 < (16 : Int)))
      (Tree.need (hasF x.1.1 x.1.2.1 = true → (List.length x.2.1 + (1 : Nat)) * (8 : Nat) ≤ (140737488355328 : Nat))
        (Tree.leaf (Ex.normal, some ((x.1.1, IntKind.wrap IntKind.i64 (x.1.2.1 + (1 : Int)), ()), bif hasF x.1.1 x.1.2.1 then x.2.1 ++ [x.1.2.1] else x.2.1, ()))))
      (Tree.leaf (Ex.exit (0 : Nat), some ((x.1.1, x.1.2.1, ()), x.2.1, ())))) := by kernel_rfl
theorem list_loop : LoopOK (mkC tys listG [(0, listD.spec)]) listD.spec (loopB 0 (bodyOf (fnOf Tryd.prog 102))) :=
  loopD_ok1 (fun _ => rfl) (fun x => congrFun list_round x) (fun (x : (Int × Int × Unit) × List Int × Unit) => (16 - x.1.2.1).toNat) fun (x : (Int × Int × Unit) × List Int × Unit) hp => by
    obtain ⟨⟨s, i, ⟨⟩⟩, out, ⟨⟩⟩ := x
    exact list_step hp
theorem list_tree : (fun x : Int => evFn (mkC tys listG [(0, listD.spec)]) (fnOf Tryd.prog 102) (resL listC.args x) listC.res) =
  (fun x => Tree.need ((0 : Int) ≤ (0 : Int) ∧ (0 : Int) ≤ (16 : Int) ∧ (↑(0 : Nat) : Int) ≤ (0 : Int)) (Tree.leaf ([] ++ elemsF x (Int.toNat ((16 : Int) - (0 : Int)))))) := by kernel_rfl
theorem list_ok : CtrOK Tryd.prog 102 listC :=
  fun_ok (G := listG) (Λ := [(0, listD.spec)]) tysOK listG_ok mixed (by kernel_rfl) (by kernel_rfl) (by kernel_rfl) (by kernel_rfl) (lp_cons list_loop lp_nil) fun (x : Int) hw _ => by
    rw [congrFun list_tree x]
    exact ⟨⟨by omega, by omega, by omega⟩, rfl⟩
def rlistG : List (Nat × Ctr) := [(111, rhasC)]
theorem rlistG_ok : CtrsOK Tryd.prog (fun f => lk f rlistG) := (ctrs_cons rhas_ok ctrs_nil)
def rlistC : Ctr := { args := [.int .i64], res := [.sl (.int .i64)], pre := none, fn := fun (x : Int) => elemsF x 16 }
theorem rlist_round : (fun x : (Int × Int × Unit) × List Int × Unit => roundOf (mkC tys rlistG [(0, listD.spec)]) listD (loopB 0 (bodyOf (fnOf Tryd.prog 105))) x) =
  (fun x =>
    Tree.br (decide (x.1.2.1 < (16 : Int)))
      (Tree.need (hasF x.1.1 x.1.2.1 = true → (List.length x.2.1 + (1 : Nat)) * (8 : Nat) ≤ (140737488355328 : Nat))
        (Tree.leaf (Ex.normal, some ((x.1.1, IntKind.wrap IntKind.i64 (x.1.2.1 + (1 : Int)), ()), bif hasF x.1.1 x.1.2.1 then x.2.1 ++ [x.1.2.1] else x.2.1, ()))))
      (Tree.leaf (Ex.exit (0 : Nat), some ((x.1.1, x.1.2.1, ()), x.2.1, ())))) := by kernel_rfl
theorem rlist_loop : LoopOK (mkC tys rlistG [(0, listD.spec)]) listD.spec (loopB 0 (bodyOf (fnOf Tryd.prog 105))) :=
  loopD_ok1 (fun _ => rfl) (fun x => congrFun rlist_round x) (fun (x : (Int × Int × Unit) × List Int × Unit) => (16 - x.1.2.1).toNat) fun (x : (Int × Int × Unit) × List Int × Unit) hp => by
    obtain ⟨⟨s, i, ⟨⟩⟩, out, ⟨⟩⟩ := x
    exact list_step hp
theorem rlist_tree : (fun x : Int => evFn (mkC tys rlistG [(0, listD.spec)]) (fnOf Tryd.prog 105) (resL rlistC.args x) rlistC.res) =
  (fun x => Tree.need ((0 : Int) ≤ (0 : Int) ∧ (0 : Int) ≤ (16 : Int) ∧ (↑(0 : Nat) : Int) ≤ (0 : Int)) (Tree.leaf ([] ++ elemsF x (Int.toNat ((16 : Int) - (0 : Int)))))) := by kernel_rfl
theorem rlist_ok : CtrOK Tryd.prog 105 rlistC :=
  fun_ok (G := rlistG) (Λ := [(0, listD.spec)]) tysOK rlistG_ok mixed (by kernel_rfl) (by kernel_rfl) (by kernel_rfl) (by kernel_rfl) (lp_cons rlist_loop lp_nil) fun (x : Int) hw _ => by
    rw [congrFun rlist_tree x]
    exact ⟨⟨by omega, by omega, by omega⟩, rfl⟩
def ntextG : List (Nat × Ctr) := [(102, listC)]
theorem ntextG_ok : CtrsOK Tryd.prog (fun f => lk f ntextG) := (ctrs_cons list_ok ctrs_nil)
def ntextD : LoopD where
  prom := []
  ts := [(3, .tip 9), (11, .val (.sl (.int .i64))), (12, .val (.int .i64)), (13, .val (.int .i64))]
  bs := [(9, .row 5 (.int .u8) false)]
  pre := fun (x : (List Int × Int × Int × Unit) × (List Int × Unit)) => 0 ≤ x.1.2.2.1 ∧ x.1.2.2.1 ≤ x.1.2.1 ∧ x.1.2.1 = x.1.1.length ∧ x.1.2.1 ≤ 16 ∧ (x.2.1.length : Int) = x.1.2.2.1 ∧ ∀ j ∈ x.1.1, 0 ≤ j ∧ j < 16
  out := fun (x : (List Int × Int × Int × Unit) × (List Int × Unit)) => .leaf (.exit 0, ((x.1.1, x.1.2.1, x.1.2.1, ()), (x.2.1 ++ (x.1.1.drop x.1.2.2.1.toNat).map fun n => 97 + n, ())))
theorem ntext_round : (fun x : (List Int × Int × Int × Unit) × (List Int × Unit) => roundOf (mkC tys ntextG [(0, ntextD.spec)]) ntextD (loopB 0 (bodyOf (fnOf Tryd.prog 104))) x) =
  (fun x =>
    Tree.br (decide (x.1.2.2.1 < x.1.2.1))
      (Tree.need ((0 : Int) ≤ x.1.2.2.1 ∧ x.1.2.2.1 < (↑(List.length x.1.1) : Int))
        (Tree.need ((List.length x.2.1 + (1 : Nat)) * (1 : Nat) ≤ (140737488355328 : Nat))
          (Tree.leaf
            (Ex.normal,
              some
                ((x.1.1, x.1.2.1, IntKind.wrap IntKind.i64 (x.1.2.2.1 + (1 : Int)), ()),
                  x.2.1 ++ [IntKind.wrap IntKind.u8 (IntKind.wrap IntKind.i64 ((97 : Int) + List.getD x.1.1 (Int.toNat x.1.2.2.1) (0 : Int)))], ())))))
      (Tree.leaf (Ex.exit (0 : Nat), some ((x.1.1, x.1.2.1, x.1.2.2.1, ()), x.2.1, ())))) := by kernel_rfl
theorem ntext_loop : LoopOK (mkC tys ntextG [(0, ntextD.spec)]) ntextD.spec (loopB 0 (bodyOf (fnOf Tryd.prog 104))) :=
  loopD_ok1 (fun _ => rfl) (fun x => congrFun ntext_round x) (fun (x : (List Int × Int × Int × Unit) × (List Int × Unit)) => (x.1.2.1 - x.1.2.2.1).toNat) fun (x : (List Int × Int × Int × Unit) × (List Int × Unit)) hp => by
    obtain ⟨⟨l, n, i, ⟨⟩⟩, o, ⟨⟩⟩ := x
    obtain ⟨h1, h2, h3, h4, h5, h6⟩ := hp
    simp only at h1 h2 h3 h4 h5 h6
    simp only [Tree.holds]
    refine ⟨fun h => ?_, fun h => ?_⟩
    · have h' : i < n := by simpa using h
      have e : IntKind.i64.wrap (i + 1) = i + 1 := i64_id (by omega) (by omega)
      have hm := h6 _ (getD_mem (l := l) h1 (by omega))
      have hd := drop_int (l := l) h1 (by omega)
      generalize l.getD i.toNat 0 = v at hm hd ⊢
      have e2 : IntKind.wrap IntKind.u8 (IntKind.wrap IntKind.i64 ((97 : Int) + v)) = 97 + v := by
        rw [show IntKind.wrap IntKind.i64 ((97 : Int) + v) = 97 + v from i64_id (by omega) (by omega)]
        exact u8_id (by omega) (by omega)
      rw [e2]
      refine ⟨⟨h1, by omega⟩, by omega, _, rfl, ⟨?_, ?_, h3, h4, ?_, h6⟩, ?_, ?_⟩
      · show 0 ≤ IntKind.i64.wrap (i + 1); omega
      · show IntKind.i64.wrap (i + 1) ≤ n; omega
      · show (((o ++ [97 + v]).length : Nat) : Int) = IntKind.i64.wrap (i + 1)
        rw [List.length_append]; simp; omega
      · show (n - IntKind.i64.wrap (i + 1)).toNat < (n - i).toNat; omega
      · show (Ex.exit 0, ((l, n, n, ()), ((o ++ [97 + v]) ++ (l.drop (IntKind.i64.wrap (i + 1)).toNat).map (fun n => 97 + n), ()))) = (Ex.exit 0, ((l, n, n, ()), (o ++ (l.drop i.toNat).map (fun n => 97 + n), ())))
        rw [e, hd, List.append_assoc]
        rfl
    · have h' : ¬ i < n := by simpa using h
      have hi : i = n := by omega
      subst hi
      refine ⟨_, rfl, ?_⟩
      show (Ex.exit 0, ((l, i, i, ()), (o ++ (l.drop i.toNat).map (fun n => 97 + n), ()))) = _
      rw [List.drop_eq_nil_of_le (by omega), List.map_nil, List.append_nil]
      rfl
def ntextC : Ctr := { args := [.int .i64], res := [.str], pre := none, fn := fun (x : Int) => textN x }
theorem ntext_tree : (fun x : Int => evFn (mkC tys ntextG [(0, ntextD.spec)]) (fnOf Tryd.prog 104) (resL ntextC.args x) ntextC.res) =
  (fun x =>
    Tree.br (bitsOp BinOp.and IntKind.i64 x (65535 : Int) == (0 : Int)) (Tree.leaf [(46 : UInt8)])
      (Tree.need ((0 : Int) ≤ (0 : Int) ∧ (0 : Int) ≤ (16 : Int) ∧ (16 : Int) ≤ (140737488355328 : Int))
        (Tree.need
          ((0 : Int) ≤ (0 : Int) ∧
            (0 : Int) ≤ (↑(List.length (elemsF x (16 : Nat))) : Int) ∧
              (↑(List.length (elemsF x (16 : Nat))) : Int) = (↑(List.length (elemsF x (16 : Nat))) : Int) ∧
                (↑(List.length (elemsF x (16 : Nat))) : Int) ≤ (16 : Int) ∧ (↑(0 : Nat) : Int) = (0 : Int) ∧ ∀ (j : Int), j ∈ elemsF x (16 : Nat) → (0 : Int) ≤ j ∧ j < (16 : Int))
          (Tree.leaf (bytesToStr (List.replicate (0 : Nat) (0 : Int) ++ List.map (fun n => (97 : Int) + n) (List.drop (Int.toNat (0 : Int)) (elemsF x (16 : Nat))))))))) := by kernel_rfl
theorem ntext_ok : CtrOK Tryd.prog 104 ntextC :=
  fun_ok (G := ntextG) (Λ := [(0, ntextD.spec)]) tysOK ntextG_ok mixed (by kernel_rfl) (by kernel_rfl) (by kernel_rfl) (by kernel_rfl) (lp_cons ntext_loop lp_nil) fun (x : Int) hw _ => by
    rw [congrFun ntext_tree x]
    have e : ntextC.fn x = textN x := rfl
    have hl := elems_len x 16
    rw [e]
    simp only [Tree.holds, textN]
    refine ⟨fun h => by rw [h]; rfl, fun h => ⟨⟨by omega, by omega, by omega⟩, ⟨by omega, by omega, trivial, by omega, by omega, fun j hj => ⟨(elem_in (Nat.le_refl 16) hj).1, (elem_in (Nat.le_refl 16) hj).2.1⟩⟩, ?_⟩⟩
    rw [h]
    show bytesToStr ((elemsF x 16).map fun n => 97 + n) = (elemsF x 16).map letF
    unfold bytesToStr
    rw [List.map_map]
    rfl
def letterC : Ctr := { args := [.int .i64], res := [.str], pre := some (fun (x : Int) => 0 ≤ x ∧ x < 16), fn := fun (x : Int) => [letF x] }
theorem letter_tree : (fun x : Int => evFn (mkC tys [] []) (fnOf Tryd.prog 141) (resL letterC.args x) letterC.res) =
  (fun x => Tree.leaf (bytesToStr [IntKind.wrap IntKind.u8 (IntKind.wrap IntKind.i64 ((97 : Int) + x))])) := by kernel_rfl
theorem letter_ok : CtrOK Tryd.prog 141 letterC :=
  fun_ok (G := []) (Λ := []) tysOK ctrs_nil mixed (by kernel_rfl) (by kernel_rfl) (by kernel_rfl) (by kernel_rfl) lp_nil fun (x : Int) hw hp => by
    have hp' : 0 ≤ (x : Int) ∧ (x : Int) < 16 := hp (fun (x : Int) => 0 ≤ x ∧ x < 16) rfl
    have h0 := hp'.1
    have h1 := hp'.2
    rw [congrFun letter_tree x]
    simp only [Tree.holds]
    rw [let_byte h0 h1]
    rfl
def rwithC : Ctr := { args := [.int .i64, .int .i64], res := [.int .i64], pre := none, fn := fun (x : Int × Int) => withF x.1 x.2 }
def rwithG : List (Nat × Ctr) := [(99, rrightC)]
theorem rwith_tree : (fun x : Int × Int => evFn (mkC tys rwithG []) (fnOf Tryd.prog 101) (resL rwithC.args x) rwithC.res) =
  (fun x =>
    Tree.br (rightF x.2)
      (Tree.need ((0 : Int) ≤ IntKind.wrap IntKind.u64 x.2)
        (Tree.leaf (bitsOp BinOp.or IntKind.i64 x.1 (IntKind.wrap IntKind.i64 ((1 : Int) * (2 : Int) ^ min (Int.toNat (IntKind.wrap IntKind.u64 x.2)) (64 : Nat))))))
      (Tree.leaf x.1)) := by kernel_rfl
theorem rwith_ok : CtrOK Tryd.prog 101 rwithC :=
  fun_ok (G := rwithG) (Λ := []) tysOK (ctrs_cons rright_ok ctrs_nil) mixed (by kernel_rfl) (by kernel_rfl) (by kernel_rfl) (by kernel_rfl) lp_nil fun (x : Int × Int) hw _ => by
    rw [congrFun rwith_tree x]
    have e : rwithC.fn x = withF x.1 x.2 := rfl
    rw [e]
    simp only [Tree.holds, withF]
    refine ⟨fun h => ?_, fun h => by rw [h]; rfl⟩
    have h2 := rightF_iff.1 h
    have e : IntKind.u64.wrap x.2 = x.2 := u64_id h2.1 (by omega)
    rw [e, h]
    exact ⟨h2.1, rfl⟩
def rtextG : List (Nat × Ctr) := [(105, rlistC), (141, letterC)]
theorem rtextG_ok : CtrsOK Tryd.prog (fun f => lk f rtextG) := (ctrs_cons rlist_ok (ctrs_cons letter_ok ctrs_nil))
def rtextD : LoopD where
  prom := []
  ts := [(3, .val .str), (7, .val (.sl (.int .i64))), (8, .val (.int .i64)), (9, .val (.int .i64))]
  bs := []
  pre := fun (x : (List UInt8 × List Int × Int × Int × Unit) × Unit) => 0 ≤ x.1.2.2.2.1 ∧ x.1.2.2.2.1 ≤ x.1.2.2.1 ∧ x.1.2.2.1 = x.1.2.1.length ∧ x.1.2.2.1 ≤ 16 ∧ (x.1.1.length : Int) = x.1.2.2.2.1 ∧ ∀ j ∈ x.1.2.1, 0 ≤ j ∧ j < 16
  out := fun (x : (List UInt8 × List Int × Int × Int × Unit) × Unit) => .leaf (.exit 0, ((x.1.1 ++ (x.1.2.1.drop x.1.2.2.2.1.toNat).map letF, x.1.2.1, x.1.2.2.1, x.1.2.2.1, ()), ()))
theorem rtext_round : (fun x : (List UInt8 × List Int × Int × Int × Unit) × Unit => roundOf (mkC tys rtextG [(0, rtextD.spec)]) rtextD (loopB 0 (bodyOf (fnOf Tryd.prog 106))) x) =
  (fun x =>
    Tree.br (decide (x.1.2.2.2.1 < x.1.2.2.1))
      (Tree.need ((0 : Int) ≤ x.1.2.2.2.1 ∧ x.1.2.2.2.1 < (↑(List.length x.1.2.1) : Int))
        (Tree.need ((0 : Int) ≤ List.getD x.1.2.1 (Int.toNat x.1.2.2.2.1) (0 : Int) ∧ List.getD x.1.2.1 (Int.toNat x.1.2.2.2.1) (0 : Int) < (16 : Int))
          (Tree.need (List.length x.1.1 + (1 : Nat) ≤ (4611686018427387904 : Nat))
            (Tree.leaf (Ex.normal, some ((x.1.1 ++ [letF (List.getD x.1.2.1 (Int.toNat x.1.2.2.2.1) (0 : Int))], x.1.2.1, x.1.2.2.1, IntKind.wrap IntKind.i64 (x.1.2.2.2.1 + (1 : Int)), ()), ()))))))
      (Tree.leaf (Ex.exit (0 : Nat), some ((x.1.1, x.1.2.1, x.1.2.2.1, x.1.2.2.2.1, ()), ())))) := by kernel_rfl
theorem rtext_loop : LoopOK (mkC tys rtextG [(0, rtextD.spec)]) rtextD.spec (loopB 0 (bodyOf (fnOf Tryd.prog 106))) :=
  loopD_ok1 (fun _ => rfl) (fun x => congrFun rtext_round x) (fun (x : (List UInt8 × List Int × Int × Int × Unit) × Unit) => (x.1.2.2.1 - x.1.2.2.2.1).toNat) fun (x : (List UInt8 × List Int × Int × Int × Unit) × Unit) hp => by
    obtain ⟨⟨o, l, n, i, ⟨⟩⟩, ⟨⟩⟩ := x
    obtain ⟨h1, h2, h3, h4, h5, h6⟩ := hp
    simp only at h1 h2 h3 h4 h5 h6
    simp only [Tree.holds]
    refine ⟨fun h => ?_, fun h => ?_⟩
    · have h' : i < n := by simpa using h
      have e : IntKind.i64.wrap (i + 1) = i + 1 := i64_id (by omega) (by omega)
      have hm := h6 _ (getD_mem (l := l) h1 (by omega))
      have hd := drop_int (l := l) h1 (by omega)
      generalize l.getD i.toNat 0 = v at hm hd ⊢
      refine ⟨⟨h1, by omega⟩, hm, by omega, _, rfl, ⟨?_, ?_, h3, h4, ?_, h6⟩, ?_, ?_⟩
      · show 0 ≤ IntKind.i64.wrap (i + 1); omega
      · show IntKind.i64.wrap (i + 1) ≤ n; omega
      · show (((o ++ [letF v]).length : Nat) : Int) = IntKind.i64.wrap (i + 1)
        rw [List.length_append]; simp; omega
      · show (n - IntKind.i64.wrap (i + 1)).toNat < (n - i).toNat; omega
      · show (Ex.exit 0, (((o ++ [letF v]) ++ (l.drop (IntKind.i64.wrap (i + 1)).toNat).map letF, l, n, n, ()), ())) = (Ex.exit 0, ((o ++ (l.drop i.toNat).map letF, l, n, n, ()), ()))
        rw [e, hd, List.append_assoc]
        rfl
    · have h' : ¬ i < n := by simpa using h
      have hi : i = n := by omega
      subst hi
      refine ⟨_, rfl, ?_⟩
      show (Ex.exit 0, ((o ++ (l.drop i.toNat).map letF, l, i, i, ()), ())) = _
      rw [List.drop_eq_nil_of_le (by omega), List.map_nil, List.append_nil]
      rfl
def rtextC : Ctr := { args := [.int .i64], res := [.str], pre := none, fn := fun (x : Int) => textN x }
theorem rtext_tree : (fun x : Int => evFn (mkC tys rtextG [(0, rtextD.spec)]) (fnOf Tryd.prog 106) (resL rtextC.args x) rtextC.res) =
  (fun x =>
    Tree.need
      ((0 : Int) ≤ (0 : Int) ∧
        (0 : Int) ≤ (↑(List.length (elemsF x (16 : Nat))) : Int) ∧
          (↑(List.length (elemsF x (16 : Nat))) : Int) = (↑(List.length (elemsF x (16 : Nat))) : Int) ∧
            (↑(List.length (elemsF x (16 : Nat))) : Int) ≤ (16 : Int) ∧ (↑(0 : Nat) : Int) = (0 : Int) ∧ ∀ (j : Int), j ∈ elemsF x (16 : Nat) → (0 : Int) ≤ j ∧ j < (16 : Int))
      (Tree.br ([] ++ List.map letF (List.drop (Int.toNat (0 : Int)) (elemsF x (16 : Nat))) == []) (Tree.leaf [(46 : UInt8)])
        (Tree.leaf ([] ++ List.map letF (List.drop (Int.toNat (0 : Int)) (elemsF x (16 : Nat))))))) := by kernel_rfl
theorem rtext_ok : CtrOK Tryd.prog 106 rtextC :=
  fun_ok (G := rtextG) (Λ := [(0, rtextD.spec)]) tysOK rtextG_ok mixed (by kernel_rfl) (by kernel_rfl) (by kernel_rfl) (by kernel_rfl) (lp_cons rtext_loop lp_nil) fun (x : Int) hw _ => by
    rw [congrFun rtext_tree x]
    have e : rtextC.fn x = textN x := rfl
    have hl := elems_len x 16
    have hm := mask_empty x
    rw [e]
    simp only [Tree.holds, textN]
    rw [hm]
    refine ⟨⟨by omega, by omega, trivial, by omega, by omega, fun j hj => ⟨(elem_in (Nat.le_refl 16) hj).1, (elem_in (Nat.le_refl 16) hj).2.1⟩⟩, ?_⟩
    cases elemsF x 16 with
    | nil => exact ⟨fun _ => rfl, fun h => by cases h⟩
    | cons j l => exact ⟨fun h => by simp at h, fun _ => rfl⟩
end Go.Ev.D
/- Decimal numerals, in plain Lean. -/
set_option linter.unusedVariables false
set_option linter.unusedSimpArgs false
namespace Go.Ev
/-- A number's digits, at most so many. -/
def digN : Nat → Nat → List UInt8
  | 0, _ => []
  | f + 1, n => bif Nat.blt n 10 then [UInt8.ofNat (48 + n)] else digN f (n / 10) ++ [UInt8.ofNat (48 + n % 10)]
def natT (n : Nat) : List UInt8 := digN 20 n
def itoaF (n : Int) : List UInt8 := bif decide (n < 0) then 45 :: natT n.natAbs else natT n.toNat
theorem digN_len : ∀ f n, (digN f n).length ≤ f
  | 0, _ => Nat.le_refl _
  | f + 1, n => by
    unfold digN
    cases Nat.blt n 10 with
    | true => simp
    | false => simp only [cond_false, List.length_append, List.length_cons, List.length_nil]; have := digN_len f (n / 10); omega
theorem itoaF_len (n : Int) : (itoaF n).length ≤ 21 := by
  unfold itoaF natT
  have h1 := digN_len 20 n.natAbs
  have h2 := digN_len 20 n.toNat
  cases decide (n < 0) <;> simp <;> omega
/-- More room turns nothing. -/
theorem digN_more : ∀ f n, n < 10 ^ f → 0 < f → digN (f + 1) n = digN f n
  | 0, _, _, h => absurd h (by omega)
  | f + 1, n, h, _ => by
    show (bif Nat.blt n 10 then _ else digN (f + 1) (n / 10) ++ _) = (bif Nat.blt n 10 then _ else digN f (n / 10) ++ _)
    cases hb : Nat.blt n 10 with
    | true => rfl
    | false =>
      have h10 : ¬ n < 10 := by rw [← Nat.blt_eq, hb]; simp
      have hf : 0 < f := by
        rcases Nat.eq_zero_or_pos f with h0 | h0
        · subst h0; omega
        · exact h0
      have hd : n / 10 < 10 ^ f := by rw [Nat.pow_succ] at h; omega
      simp only [cond_false]
      rw [digN_more f (n / 10) hd hf]
theorem decDigits_digN : ∀ f n, n < 10 ^ f → 0 < f → Lib.decDigits n = digN f n
  | 0, _, _, h => absurd h (by omega)
  | f + 1, n, h, _ => by
    rw [Lib.decDigits]
    show _ = (bif Nat.blt n 10 then _ else digN f (n / 10) ++ _)
    by_cases h10 : n < 10
    · have hb : Nat.blt n 10 = true := by rw [Nat.blt_eq]; exact h10
      rw [dif_pos h10, hb]; rfl
    · have hb : Nat.blt n 10 = false := by
        cases hb : Nat.blt n 10 with
        | false => rfl
        | true => exact absurd (by rw [Nat.blt_eq] at hb; exact hb) h10
      have hf : 0 < f := by
        rcases Nat.eq_zero_or_pos f with h0 | h0
        · subst h0; omega
        · exact h0
      have hd : n / 10 < 10 ^ f := by rw [Nat.pow_succ] at h; omega
      rw [dif_neg h10, hb, decDigits_digN f (n / 10) hd hf]
      rfl
theorem itoa_eq {n : Int} (h0 : -9223372036854775808 ≤ n) (h1 : n ≤ 9223372036854775807) : Lib.itoa n = itoaF n := by
  unfold Lib.itoa itoaF natT
  by_cases h : n < 0
  · rw [if_pos h, decDigits_digN 20 n.natAbs (by omega) (by omega)]
    have : decide (n < 0) = true := by simpa using h
    rw [this]; rfl
  · rw [if_neg h]
    have : decide (n < 0) = false := by simpa using h
    rw [this]
    rw [decDigits_digN 20 _ (by omega) (by omega)]
    simp
end Go.Ev
/- A channel with room, used by one goroutine alone: the pieces of code beside it are told by the evaluator. -/
set_option linter.unusedVariables false
set_option linter.unusedSimpArgs false
namespace Go.Ev
open Go.Conc

section
variable {P : Program} {C : Ctx} {b : Frame}

/-- From the code on, in this frame. -/
def CodeTo (P : Program) (b : Frame) (c : Code) (Q : Exit → Act → World → Prop) (a : Act) (w : World) : Prop :=
  ∀ (k : List Item) (cs : List Frame), ∃ e a' w', Q e a' w' ∧ Arrives P (lone (b.at a (.code c :: k)) cs w) b k cs e a' w'
/-- From so many operations of a region on. -/
def RegTo (P : Program) (b : Frame) (ops : Array Oper) (l : List Nat) (Q : Exit → Act → World → Prop) (a : Act) (w : World) : Prop :=
  ∀ (k : List Item) (cs : List Frame), ∃ e a' w', Q e a' w' ∧ Arrives P (lone (b.at a (.inRegion ops l :: k)) cs w) b k cs e a' w'

variable {Q : Exit → Act → World → Prop} {a : Act} {w : World} {ops : Array Oper} {l : List Nat}

theorem CodeTo.of_wp {c : Code} (h : c.wp P Q a w) : CodeTo P b c Q a w := fun k cs => h b k cs
theorem CodeTo.mono {c : Code} {Q' : Exit → Act → World → Prop} (h : CodeTo P b c Q a w) (hq : ∀ e a w, Q e a w → Q' e a w) : CodeTo P b c Q' a w := fun k cs =>
  let ⟨e, a', w', h1, h2⟩ := h k cs; ⟨e, a', w', hq _ _ _ h1, h2⟩
theorem CodeTo.cond {c : Operand} {x y : Code} {t : Bool} (hc : a.eval c = .bool t) (h : CodeTo P b (if t then x else y) Q a w) : CodeTo P b (.cond c x y) Q a w := fun k cs =>
  let ⟨e, a', w', q, r⟩ := h k cs; ⟨e, a', w', q, .of_steps (.one (step_cond hc)) r⟩
theorem CodeTo.region {id : Nat} (h : RegTo P b ops (List.range ops.size) Q a w) : CodeTo P b (.region id ops false) Q a w := fun k cs =>
  let ⟨e, a', w', q, r⟩ := h k cs; ⟨e, a', w', q, .of_steps (.one step_region) r⟩
theorem CodeTo.skip (h : Q .normal a w) : CodeTo P b .skip Q a w := CodeTo.of_wp (wp_skip h)

/-- Codes one behind the other. -/
def LTo (P : Program) (b : Frame) : List Code → (Exit → Act → World → Prop) → Act → World → Prop
  | [], Q, a, w => Q .normal a w
  | c :: l, Q, a, w => CodeTo P b c (Exit.then (LTo P b l Q) Q) a w
def seqs : Code → List Code
  | .seq x y => seqs x ++ seqs y
  | c => [c]

theorem CodeTo.seq {x y : Code} (h : CodeTo P b x (Exit.then (CodeTo P b y Q) Q) a w) : CodeTo P b (.seq x y) Q a w := by
  intro k cs
  obtain ⟨e, a₁, w₁, hq, harr⟩ := h (.code y :: k) cs
  cases e with
  | normal =>
    obtain ⟨e, a₂, w₂, hq', harr'⟩ := hq k cs
    exact ⟨e, a₂, w₂, hq', .of_steps (.one step_seq) (.of_steps harr harr')⟩
  | exit id => exact ⟨_, a₁, w₁, hq, .of_steps (.one step_seq) (.pass (x := .code y) rfl (fun _ _ => .inl (by simp)) harr)⟩
  | goto id => exact ⟨_, a₁, w₁, hq, .of_steps (.one step_seq) (.pass (x := .code y) rfl (fun _ _ => .inl (by simp)) harr)⟩
  | ret => exact ⟨_, a₁, w₁, hq, .of_steps (.one step_seq) (.pass (x := .code y) rfl (fun _ _ => .inl (by simp)) harr)⟩
  | panic c => exact ⟨_, a₁, w₁, hq, .of_steps (.one step_seq) (.pass (x := .code y) rfl (fun _ _ => .inl (by simp)) harr)⟩
  | outgrown => exact ⟨_, a₁, w₁, hq, .of_steps (.one step_seq) (.pass (x := .code y) rfl (fun _ _ => .inl (by simp)) harr)⟩

theorem then_id {c : Code} (h : CodeTo P b c (Exit.then (LTo P b [] Q) Q) a w) : CodeTo P b c Q a w := h.mono fun e a w hq => by cases e <;> exact hq
theorem lto_append : ∀ {l r : List Code} {Q : Exit → Act → World → Prop} {a : Act} {w : World}, LTo P b (l ++ r) Q a w → LTo P b l (Exit.then (LTo P b r Q) Q) a w
  | [], _, _, _, _, h => h
  | c :: l, r, Q, a, w, h => CodeTo.mono (c := c) h fun e a' w' hq => by
      cases e with
      | normal => exact lto_append (l := l) hq
      | _ => exact hq
theorem LTo.mono : ∀ {l : List Code} {Q Q' : Exit → Act → World → Prop} {a : Act} {w : World}, LTo P b l Q a w → (∀ e a w, Q e a w → Q' e a w) → LTo P b l Q' a w
  | [], _, _, _, _, h, hq => hq _ _ _ h
  | c :: l, Q, Q', a, w, h, hq => CodeTo.mono (c := c) h fun e a' w' h' => by
      cases e with
      | normal => exact LTo.mono (l := l) h' hq
      | _ => exact hq _ _ _ h'
theorem CodeTo.seqs : ∀ {c : Code} {Q : Exit → Act → World → Prop} {a : Act} {w : World}, LTo P b (Ev.seqs c) Q a w → CodeTo P b c Q a w
  | .seq x y, Q, a, w, h => CodeTo.seq (CodeTo.mono (CodeTo.seqs (c := x) (lto_append h)) fun e a' w' hq => by
      cases e with
      | normal => exact CodeTo.seqs (c := y) hq
      | _ => exact hq)
  | .skip, _, _, _, h | .region .., _, _, _, h | .cond .., _, _, _, h | .block .., _, _, _, h | .loop _, _, _, _, h | .rangeFunc .., _, _, _, h | .exit _, _, _, _, h | .scope _, _, _, _, h | .label _, _, _, _, h | .goto _, _, _, _, h | .ret, _, _, _, h | .refuse _, _, _, _, h => then_id h

/-- Codes that the evaluator tells. -/
def evL (C : Ctx) : List Code → St → Tree (Ex × St)
  | [], s => .leaf (.normal, s)
  | c :: l, s => (ev C c s).bind fun p => match p.1 with
    | .normal => evL C l p.2
    | e => .leaf (e, p.2)

theorem evL_to (TOK : TysOK P C.τ) (GC : CtrsOK P C.Γ) (hmix : P.follows .mixedOrders = true) {R : Ref} {F : Ex × St → Prop} {rest : List Code} : ∀ (l : List Code) (s : St) (a : Act) (w : World), (∀ c ∈ l, LamOK C c) → (∀ c ∈ l, ∀ t ∈ writes c, t < a.tmps.size) → IsSt R s a w → (evL C l s).holds F →
    (∀ z s' a' w', F (z, s') → IsSt R s' a' w' → a'.tmps.size = a.tmps.size → a'.defers = a.defers → (∀ t, (∀ c ∈ l, t ∉ writes c) → a'.tmps.getD t undef = a.tmps.getD t undef) → match z with
      | .normal => LTo P b rest Q a' w'
      | z => Q z.to a' w') → LTo P b (l ++ rest) Q a w
  | [], s, a, w, _, _, hs, hF, hQ => hQ .normal s a w hF hs rfl rfl (fun _ _ => rfl)
  | c :: l, s, a, w, hl, hsz, hs, hF, hQ => by
    have hF' := holds_bind.1 hF
    have := (ev_ok TOK GC hmix c (hl c (by simp))).1 R s a w _ hs (hsz c (by simp)) hF'
    refine (CodeTo.of_wp this).mono ?_
    rintro e a1 w1 ⟨z, s1, rfl, h1, h2, h3⟩
    cases z with
    | normal =>
      exact evL_to TOK GC hmix l s1 a1 w1 (fun c' hc' => hl c' (by simp [hc'])) (fun c' hc' t ht => by rw [h3.size]; exact hsz c' (by simp [hc']) t ht) h2 h1
        (fun z s' a' w' f1 f2 f3 f4 f5 => hQ z s' a' w' f1 f2 (f3.trans h3.size) (f4.trans h3.defers) (fun t ht => (f5 t (fun c' hc' => ht c' (by simp [hc']))).trans (h3.tmps t (ht c (by simp)))))
    | exit id => exact hQ (.exit id) s1 a1 w1 h1 h2 h3.size h3.defers (fun t ht => h3.tmps t (ht c (by simp)))
    | ret => exact hQ .ret s1 a1 w1 h1 h2 h3.size h3.defers (fun t ht => h3.tmps t (ht c (by simp)))

/-! Regions, operation by operation -/

theorem RegTo.nil (h : Q .normal a w) : RegTo P b ops [] Q a w := fun k cs => ⟨.normal, a, w, h, .one step_region_end⟩
theorem RegTo.value {i : Nat} {o : Oper} {v : Value} {w' : World} (ho : ops[i]? = some o) (hg : o.guard = none) (hr : (execOp a.eval o).run P w = .ok (.value v) w') (h : RegTo P b ops l Q (a.put o.dst v) w') : RegTo P b ops (i :: l) Q a w := by
  intro k cs
  obtain ⟨e, a', w'', hq, harr⟩ := h k cs
  have hw : Region.wanted o (yielded ops a.tmps) = true := by simp [Region.wanted, hg]
  have hgo := stepG_op (P := P) (b := b) (k := k) (cs := cs) (w := w) (rest := l) ho hw
  have hfin : ∀ v, (b.at a (.inRegion ops (i :: l) :: k)).finish v = b.at (a.put o.dst v) (.inRegion ops l :: k) := by
    intro v; rw [Frame.finish_at, ho]; rfl
  refine ⟨e, a', w'', hq, .of_steps (.one (step_lone_go ?_)) harr⟩
  rw [hgo, ← hfin]
  simp [stepG.apply, hr]

theorem RegTo.send {i : Nat} {o : Oper} {x y : Operand} {c cap s r : Nat} {buf : Array Value} {tm : Bool} {v : Value} (ho : ops[i]? = some o) (hg : o.guard = none) (hb : b.kind ≠ .early) (hop : o.op = .send x y) (hx : a.eval x = .chan (some c)) (hy : a.eval y = v)
    (hc : w.heap[c]? = some (.chan cap buf false s r tm)) (hroom : buf.size < cap) (h : RegTo P b ops l Q (a.put o.dst undef) (w.setChan c cap (buf.push v) false (s + 1) r tm)) : RegTo P b ops (i :: l) Q a w := by
  intro k cs
  obtain ⟨e, a', w'', hq, harr⟩ := h k cs
  have hw : Region.wanted o (yielded ops a.tmps) = true := by simp [Region.wanted, hg]
  refine ⟨e, a', w'', hq, .of_steps (.one ?_) harr⟩
  have hst := step_lone_send_room (P := P) (fr := b.at a (.inRegion ops (i :: l) :: k)) (cs := cs) (w := w) (stepG_comm (cases := #[scase c v (.tuple #[])]) (blocking := true) (shape := .send) (w' := w) ho hw hb (by
    unfold execOp
    rw [hop]
    simp only [hx, hy]
    simp [scase])) hc hroom
  rw [lone_eq_solo, hst, Frame.finish_at, ho]
  rfl

theorem step_lone_select_recv {fr : Frame} {cs : List Frame} {w w₁ : World} {es : Array Event} {c cap s r : Nat} {buf : Array Value} {z : Value} {tm : Bool} (h : stepG P true (G fr cs) w = .comm (G fr cs) #[rcase c z] false .select w₁ es) (hc : w₁.heap[c]? = some (.chan cap buf false s r tm)) (hsome : 0 < buf.size) :
    step P (solo (G fr cs) w) = .next (solo (G (fr.finish (.tuple #[goInt 0, .bool true, buf.getD 0 undef])) cs) (w₁.setChan c cap (buf.extract 1 buf.size) false s (r + 1) tm)) := by
  have hp := partners_alone (c := c) true
  rw [step, stepT_solo rfl]
  simp [runT, solo, G, Array.swapAt!, Array.swapAt, h, GStep.es, communicate, ways, rcase, hc, hp, hsome, choose, Sem.run, Question.forced, bind, Sem.bind, pure, Goroutine.finishComm, commResult, World.setChan] at h ⊢

theorem RegTo.select_none {i : Nat} {o : Oper} {c cap s r : Nat} {tm : Bool} {z : Value} (ho : ops[i]? = some o) (hg : o.guard = none) (hb : b.kind ≠ .early) (hex : (execOp a.eval o).run P w = .ok (.comm #[rcase c z] false .select) w)
    (hc : w.heap[c]? = some (.chan cap #[] false s r tm)) (h : RegTo P b ops l Q (a.put o.dst (.tuple #[goInt (-1), .bool false, z])) w) : RegTo P b ops (i :: l) Q a w := by
  intro k cs
  obtain ⟨e, a', w'', hq, harr⟩ := h k cs
  have hw : Region.wanted o (yielded ops a.tmps) = true := by simp [Region.wanted, hg]
  refine ⟨e, a', w'', hq, .of_steps (.one ?_) harr⟩
  have hst := step_lone_select_default (P := P) (fr := b.at a (.inRegion ops (i :: l) :: k)) (cs := cs) (w := w) (stepG_comm (cases := #[rcase c z]) (blocking := false) (shape := .select) (w' := w) ho hw hb hex) hc
  rw [lone_eq_solo, hst, Frame.finish_at, ho]
  rfl
theorem RegTo.select_recv {i : Nat} {o : Oper} {c cap s r : Nat} {tm : Bool} {buf : Array Value} {z : Value} (ho : ops[i]? = some o) (hg : o.guard = none) (hb : b.kind ≠ .early) (hex : (execOp a.eval o).run P w = .ok (.comm #[rcase c z] false .select) w)
    (hc : w.heap[c]? = some (.chan cap buf false s r tm)) (hsome : 0 < buf.size) (h : RegTo P b ops l Q (a.put o.dst (.tuple #[goInt 0, .bool true, buf.getD 0 undef])) (w.setChan c cap (buf.extract 1 buf.size) false s (r + 1) tm)) : RegTo P b ops (i :: l) Q a w := by
  intro k cs
  obtain ⟨e, a', w'', hq, harr⟩ := h k cs
  have hw : Region.wanted o (yielded ops a.tmps) = true := by simp [Region.wanted, hg]
  refine ⟨e, a', w'', hq, .of_steps (.one ?_) harr⟩
  have hst := step_lone_select_recv (P := P) (fr := b.at a (.inRegion ops (i :: l) :: k)) (cs := cs) (w := w) (stepG_comm (cases := #[rcase c z]) (blocking := false) (shape := .select) (w' := w) ho hw hb hex) hc hsome
  rw [lone_eq_solo, hst, Frame.finish_at, ho]
  rfl

/-! The frame of a call -/
theorem calls_of_to {f : FuncId} {fn : Func} {c : Code} {args : Array Value} {R : Ending → World → Prop} (hf : P.funcs[f]? = some fn) (hb : fn.body = some c)
    (h : CodeTo P { (default : Frame) with fn := f, kind := .normal } c (fun e a' w' => (e = .normal ∨ e = .ret) ∧ a'.defers = [] ∧ ∃ v, (results fn a'.tmps).run P w' = .ok v w' ∧ R (.returned v) w') { tmps := args ++ Array.replicate (fn.ntmps - args.size) undef, defers := [] } w) : Calls P f args w R := by
  intro cs
  have henter : Frame.enter P f args .normal = ({ (default : Frame) with fn := f, kind := .normal } : Frame).at { tmps := args ++ Array.replicate (fn.ntmps - args.size) undef, defers := [] } [.code c] := by
    simp [Frame.enter, Frame.at, hf, hb]
  obtain ⟨e, a', w', ⟨he, hd, v, hr, hR⟩, harr⟩ := h [] cs
  rw [← henter] at harr
  rcases he with rfl | rfl
  · exact ⟨.returned v, w', _, hR, Steps.trans harr (.one step_end), rfl, rfl, hd, rfl, fn, hf, hr⟩
  · obtain ⟨todo, hs⟩ := harr
    exact ⟨.returned v, w', _, hR, hs, rfl, rfl, hd, rfl, fn, hf, hr⟩

/-! Another world to start from, but for one block -/
theorem IsSt.frame {R : Ref} {s : St} {a : Act} {w : World} (h : IsSt R s a w) {k : Nat} (hk : k < R.w0.heap.size) (ho : ¬ R.own k) : w.heap[k]? = R.w0.heap[k]? := by
  obtain ⟨M, rfl, _, I, _⟩ := h
  exact I.frame k hk ho
theorem IsSt.grow {R : Ref} {s : St} {a : Act} {w : World} (h : IsSt R s a w) : R.w0.heap.size ≤ w.heap.size := by
  obtain ⟨M, rfl, _, I, _⟩ := h
  exact I.size

theorem rebase {R : Ref} {s : St} {a : Act} {w w' : World} (h : IsSt R s a w) (c : Nat) (hos : w'.os = w.os) (htape : w'.tape = w.tape) (hout : w'.output = w.output) (hsz : w.heap.size ≤ w'.heap.size)
    (hcell : ∀ k, k < w.heap.size → k ≠ c → w'.heap[k]? = w.heap[k]?) (hnew : R.w0.heap.size ≤ c) (hchan : ∀ cs t fr, w.heap[c]? ≠ some (.cells cs t fr)) (hit : ∀ y p, w.heap[c]? ≠ some (.stringIter y p)) (hchan' : ∀ cs t fr, w'.heap[c]? ≠ some (.cells cs t fr)) :
    ∃ R' : Ref, R'.w0 = w' ∧ ¬ R'.own c ∧ IsSt R' s a w' ∧ ∀ s2 a2 w2, IsSt R' s2 a2 w2 → IsSt R s2 a2 w2 := by
  obtain ⟨M, rfl, hb, I, hr⟩ := h
  have hblk' : ∀ b d B, lk b M.bs = some (d, B) → ∀ k, blkOf (M.β b) = some k → k ≠ c := by
    intro b d B hB k hk hkc
    subst hkc
    have hRB := I.boxes b d B hB
    cases B with
    | var g x =>
      obtain ⟨blk, cs, e, h1, h2, _⟩ := hRB
      rw [h1] at hk
      simp [blkOf] at hk
      subst hk
      exact hchan _ _ _ h2
    | row e g xs fz =>
      obtain ⟨cs, ho, _⟩ := hRB
      rcases ho.2 with ⟨hv, _⟩ | ⟨g', cap, cur, hv, _, h2, _⟩
      · rw [hv] at hk; simp [blkOf] at hk
      · rw [hv] at hk
        simp [blkOf] at hk
        subst hk
        exact hchan _ _ _ h2
    | iter y pos =>
      obtain ⟨blk, h1, h2, _⟩ := hRB
      rw [h1] at hk
      simp [blkOf] at hk
      subst hk
      exact hit _ _ h2
  have nocell : ∀ (v : World) (o : Nat), (∀ cs t fr, v.heap[c]? ≠ some (.cells cs t fr)) → v.cell? ⟨c, o, none⟩ = none := by
    intro v o hv
    unfold World.cell?
    split
    · rename_i cc t fr hcc
      exact absurd hcc (hv _ _ _)
    · rfl
  have hk : Keeps M.S M.S M.w w' := by
    intro k o hS
    refine ⟨hS, ?_⟩
    by_cases hkc : k = c
    · subst hkc
      rw [nocell _ o hchan, nocell _ o hchan']
    · exact cell_of_heap (hcell k (I.here k o hS).2 hkc)
  have ref : ∀ {R1 R2 : Ref} {v : Value} {B : Box} {W : World} {S : Stab}, (∀ blk, R1.new blk → blkOf v = some blk → R2.new blk) → RelB R1 W S v B → RelB R2 W S v B := by
    intro R1 R2 v B W S hn hB
    cases B with
    | var g x =>
      obtain ⟨blk, cs, e, h1, h2, h3, h4, h5⟩ := hB
      exact ⟨blk, cs, e, h1, h2, h3, h4, hn blk h5 (by rw [h1]; rfl)⟩
    | row e g xs fz =>
      obtain ⟨cs, h1, h2, h3, h4, h5, h6⟩ := hB
      exact ⟨cs, h1, h2, h3, h4, h5, fun blk hb => ⟨hn blk (h6 blk hb).1 hb, (h6 blk hb).2⟩⟩
    | iter y pos =>
      obtain ⟨blk, h1, h2, h3, h4, h5⟩ := hB
      exact ⟨blk, h1, h2, h3, h4, hn blk h5 (by rw [h1]; rfl)⟩
  have st : Step M { M with w := w' } (fun _ => False) := ⟨hk, fun b d B h _ => ⟨d, B, h, rfl, Box.le_refl B⟩⟩
  refine ⟨⟨w', fun k => R.new k ∧ k ≠ c, M.S, (R.tab.keeps I.old).keeps hk⟩, rfl, fun h => h.2 rfl, ?_, ?_⟩
  · refine ⟨{ M with w := w' }, rfl, hb, ⟨rfl, rfl, rfl, Nat.le_refl _, fun _ _ _ => rfl, Keeps.refl _ _, fun b o hs => ⟨.inl hs, Nat.lt_of_lt_of_le (I.here b o hs).2 hsz⟩, fun b d B hB => ?_, I.sep⟩, fun t => (hr t).step st (fun b hb => hb.elim)⟩
    have hRB := I.boxes b d B hB
    have hm := hRB.move hk (fun blk hblk => hcell blk (hRB.lt blk hblk) (hblk' b d B hB blk hblk)) (fun blk o hblk hs => hs)
    exact ref (fun blk hn hv => .inr ⟨hn, hblk' b d B hB blk hv⟩) hm
  · rintro s2 a2 w2 ⟨M2, rfl, hb2, I2, hr2⟩
    refine ⟨M2, rfl, hb2, ⟨I2.os.trans (hos.trans I.os), I2.tape.trans (htape.trans I.tape), I2.output.trans (hout.trans I.output), Nat.le_trans I.size (Nat.le_trans hsz I2.size), ?_, I.old.trans (hk.trans I2.old), ?_, ?_, I2.sep⟩, hr2⟩
    · intro k h1 h2
      have hkc : k ≠ c := by omega
      have hno : ¬ (R.new k ∧ k ≠ c) := by
        rintro ⟨h3 | h3, _⟩
        · omega
        · exact h2 h3
      have h4 : k < M.w.heap.size := Nat.lt_of_lt_of_le h1 I.size
      exact (I2.frame k (Nat.lt_of_lt_of_le h4 hsz) hno).trans ((hcell k h4 hkc).trans (I.frame k h1 h2))
    · intro b o hs
      obtain ⟨h1, h2⟩ := I2.here b o hs
      refine ⟨?_, h2⟩
      rcases h1 with h1 | h1 | h1
      · exact (I.here b o h1).1
      · exact .inr (.inl (Nat.le_trans (Nat.le_trans I.size hsz) h1))
      · exact .inr h1.1
    · intro b d B hB
      refine ref (fun blk hn _ => ?_) (I2.boxes b d B hB)
      rcases hn with h1 | h1
      · exact .inl (Nat.le_trans (Nat.le_trans I.size hsz) h1)
      · exact h1.1

/-! A call's beginning, and its end -/
theorem start_st {w : World} {S : Stab} {us : List Value} {gs : List GTy} {x : dens gs} (hS : ∀ b o, S b o → b < w.heap.size) (hT : Tab S w) (henc : EncD w S gs x us) (n : Nat) :
    IsSt ⟨w, fun _ => False, S, hT⟩ { tmps := number 0 (resL gs x), boxes := [] } { tmps := us.toArray ++ Array.replicate (n - us.toArray.size) undef, defers := [] } w := by
  let R : Ref := ⟨w, fun _ => False, S, hT⟩
  let M : Mem := ⟨w, S, fun _ => undef, []⟩
  have I : InvM R M := ⟨rfl, rfl, rfl, Nat.le_refl _, fun _ _ _ => rfl, Keeps.refl _ _, fun b o hs => ⟨.inl hs, hS b o hs⟩, fun b d B hb => by simp [M, lk] at hb, fun b c d B d' B' _ hb => by simp [M, lk] at hb⟩
  have hrl := resL_rel (M := M) (gs := gs) (x := x) (us := us) henc
  refine ⟨M, rfl, rfl, I, fun t => ?_⟩
  show RelV M ((lk t (number 0 (resL gs x))).getD .undef) _
  rw [lk_number]
  simp only [Nat.zero_le, if_true, Nat.sub_zero]
  cases hv : (resL gs x)[t]? with
  | none => simp [RelV]
  | some v =>
    obtain ⟨u, h1, h2⟩ := hrl.get t hv
    have hlt := (List.getElem?_eq_some_iff.1 h1).1
    have : (us.toArray ++ Array.replicate (n - us.toArray.size) undef).getD t undef = u := by
      simp only [Array.getD_eq_getD_getElem?]
      rw [Array.getElem?_append_left (by simpa using hlt)]
      simp [h1]
    rw [this]
    simpa using h2

theorem finish_st (TOK : TysOK P C.τ) {w w' : World} {S : Stab} {hT : Tab S w} {s' : St} {a' : Act} {fn : Func} {res : List GTy} {y : dens res} (hs : IsSt ⟨w, fun _ => False, S, hT⟩ s' a' w') (hF : (evRes C fn res (.normal, s')).holds (fun z => z = y)) :
    ∃ v, (results fn a'.tmps).run P w' = .ok v w' ∧ ∃ v', Ending.returned v = Ending.returned v' ∧ Grows w w' ∧ ∃ N : Stab, (∀ b o, N b o → w.heap.size ≤ b ∧ b < w'.heap.size) ∧ RelRes w' (fun b o => S b o ∨ N b o) res y v' := by
  obtain ⟨M', rfl, hb', I', hr'⟩ := hs
  simp only [evRes] at hF
  split at hF
  · exact hF.elim
  rename_i aas has
  split at hF
  · exact hF.elim
  rename_i z ws htk
  simp only [Tree.holds] at hF
  subst hF
  obtain ⟨us', q1, q2⟩ := resArgs_sound TOK I' hb' hr' has
  obtain ⟨_, S', fz, henc'⟩ := takes_sound I' q2 htk
  refine ⟨_, results_run q1, _, rfl, ⟨I'.os, I'.tape, I'.output, I'.size, fun k hk => I'.frame k hk id⟩, fun b o => S' b o ∧ w.heap.size ≤ b, fun b o hN => ⟨hN.2, (fz.inv.here b o hN.1).2⟩, us', ?_, by rcases us' with _ | ⟨u, _ | ⟨v, us⟩⟩ <;> rfl⟩
  refine henc'.keeps (fun b o hs => ⟨?_, rfl⟩)
  rcases (fz.inv.here b o hs).1 with h3 | h3 | h3
  · exact .inl h3
  · exact .inr ⟨hs, h3⟩
  · exact h3.elim

/-! Slots that nothing is known of -/
theorem IsSt.put_undef {R : Ref} {s : St} {d : Nat} {v : Value} (h : IsSt R s a w) (hd : s.look d = .undef) (hsz : d < a.tmps.size) : IsSt R s (a.put (some d) v) w := by
  obtain ⟨M, hM, hb, I, hr⟩ := h
  refine ⟨M, hM, hb, I, fun t => ?_⟩
  rw [put_getD a (some d) v t (fun k hk => by cases hk; exact hsz)]
  split
  · rename_i ht
    cases ht
    rw [hd]; simp [RelV]
  · exact hr t
theorem IsSt.put_known {R : Ref} {s : St} {d : Nat} {v : Value} {av : AV} (h : IsSt R s a w) (hv : ∀ M, RelV M av v) (hsz : d < a.tmps.size) : IsSt R (s.put d av) (a.put (some d) v) w := by
  obtain ⟨M, hM, hb, I, hr⟩ := h
  refine ⟨M, hM, hb, I, fun t => ?_⟩
  rw [put_getD a (some d) v t (fun k hk => by cases hk; exact hsz), look_put]
  by_cases ht : t = d
  · subst ht
    simp [hv]
  · rw [if_neg ht, if_neg (fun e => ht (by cases e; rfl))]
    exact hr t
theorem IsSt.grows {R : Ref} {s : St} {w' : World} (h : IsSt R s a w) (g : Grows w w') : IsSt R s a w' := by
  obtain ⟨M, rfl, hb, I, hr⟩ := h
  obtain ⟨I2, st⟩ := I.grow g
  exact ⟨{ M with w := w' }, rfl, hb, I2, fun t => (hr t).steps st⟩
theorem put_same {d t : Nat} {v : Value} (hsz : d < a.tmps.size) (h : t ≠ d) : (a.put (some d) v).tmps.getD t undef = a.tmps.getD t undef := by
  rw [put_getD a (some d) v t (fun k hk => by cases hk; exact hsz), if_neg (fun e => h (by cases e; rfl))]
theorem put_at {d : Nat} {v : Value} (hsz : d < a.tmps.size) : (a.put (some d) v).tmps.getD d undef = v := by
  rw [put_getD a (some d) v d (fun k hk => by cases hk; exact hsz), if_pos rfl]

theorem RegTo.yields {i : Nat} {o : Oper} {K : Value → World → Prop} (ho : ops[i]? = some o) (hg : o.guard = none) (h : Yields P a.eval o w K) (hk : ∀ v w', K v w' → RegTo P b ops l Q (a.put o.dst v) w') : RegTo P b ops (i :: l) Q a w := by
  intro k cs
  have hw : Region.wanted o (yielded ops a.tmps) = true := by simp [Region.wanted, hg]
  have hgo := stepG_op (P := P) (b := b) (k := k) (cs := cs) (w := w) (rest := l) ho hw
  have hfin : ∀ v, (b.at a (.inRegion ops (i :: l) :: k)).finish v = b.at (a.put o.dst v) (.inRegion ops l :: k) := by
    intro v; rw [Frame.finish_at, ho]; rfl
  unfold Yields at h
  split at h
  · rename_i v w' hr
    obtain ⟨e, a', w'', hq, harr⟩ := hk v w' h k cs
    refine ⟨e, a', w'', hq, .of_steps (.one (step_lone_go ?_)) harr⟩
    rw [hgo, ← hfin]; simp [stepG.apply, hr]
  · rename_i w' hr
    obtain ⟨e, a', w'', hq, harr⟩ := hk undef w' h k cs
    refine ⟨e, a', w'', hq, .of_steps (.one (step_lone_go ?_)) harr⟩
    rw [hgo, ← hfin]; simp [stepG.apply, hr]
  · rename_i f args w' hr
    obtain ⟨e, w'', fr, ⟨v, rfl, hv⟩, hsteps, _, hleave⟩ := h (b.at a (.inRegion ops (i :: l) :: k) :: cs)
    have henter : step P (lone (b.at a (.inRegion ops (i :: l) :: k)) cs w) = .next (lone (Frame.enter P f args .normal) (b.at a (.inRegion ops (i :: l) :: k) :: cs) w') :=
      step_lone_go (by rw [hgo]; simp [stepG.apply, hr, Frame.at])
    obtain ⟨e, a', w₃, hq, harr⟩ := hk v w'' hv k cs
    refine ⟨e, a', w₃, hq, .of_steps (.head henter (hsteps.trans (.one ?_))) harr⟩
    rw [← hfin]; exact step_leave_returned hleave
  · exact h.elim

theorem RegTo.op (TOK : TysOK P C.τ) (GOK : CtrsOK P C.Γ) {R : Ref} {s : St} {i : Nat} {o : Oper} {e : Eff} (ho : ops[i]? = some o) (hg : o.guard = none) (hs : IsSt R s a w) (he : opEff C.τ C.Γ (o.dst.getD 0) o (s.args o) = some e) (hn : e.ok) (hd : ∀ k, o.dst = some k → k < a.tmps.size)
    (hnext : ∀ a' w', IsSt R (s.after o e) a' w' → Apart (fun t => o.dst = some t) s a (s.after o e) a' → RegTo P b ops l Q a' w') : RegTo P b ops (i :: l) Q a w := by
  obtain ⟨M, hM, hb, I, hr⟩ := hs
  rw [args_eq s o hb] at he
  have := opEff_sound TOK GOK I (eval_func a) (opRel_of (R.tab.keeps I.old) hr o) he hn
  rw [hM] at this
  refine RegTo.yields ho hg this (fun v w' hv => ?_)
  obtain ⟨h1, h2⟩ := IsSt.after hM hb hr hd hv
  exact hnext _ _ h1 h2

/-- A piece, read back: what is answered, or the slots of a shape. -/
def pieceT (C : Ctx) (fn : Func) (res : List GTy) (ts : List (Nat × Sh)) (bs : List (Nat × BSh)) (l : List Code) (s : St) : Tree (Option (dens res) × Option (ShT ts × ShB bs)) :=
  (evL C l s).bind fun p => match p.1 with
    | .ret => (evRes C fn res (.normal, p.2)).bind fun y => .leaf (some y, none)
    | .normal => match restrict { prom := [], keep := ts.map (·.1), boxes := bs.map (·.1), sum := fun _ => .stuck } p.2 with
      | none => .stuck
      | some s' => .leaf (none, unS ts bs s')
    | .exit _ => .stuck

theorem piece_to (TOK : TysOK P C.τ) (GC : CtrsOK P C.Γ) (hmix : P.follows .mixedOrders = true) {R : Ref} {fn : Func} {res : List GTy} {ts : List (Nat × Sh)} {bs : List (Nat × BSh)} {rest l : List Code} {s : St} {G : Option (dens res) × Option (ShT ts × ShB bs) → Prop} (hl : ∀ c ∈ l, LamOK C c) (hsz : ∀ c ∈ l, ∀ t ∈ writes c, t < a.tmps.size) (hs : IsSt R s a w) (hG : (pieceT C fn res ts bs l s).holds G)
    (hret : ∀ y s' a' w', G (some y, none) → IsSt R s' a' w' → a'.defers = a.defers → (evRes C fn res (.normal, s')).holds (fun z => z = y) → Q .ret a' w')
    (hgo : ∀ x a' w', G (none, some x) → IsSt R (mkS ts bs x) a' w' → a'.tmps.size = a.tmps.size → a'.defers = a.defers → (∀ t, (∀ c ∈ l, t ∉ writes c) → a'.tmps.getD t undef = a.tmps.getD t undef) → LTo P b rest Q a' w')
    (hbad : ¬ G (none, none)) : LTo P b (l ++ rest) Q a w := by
  refine evL_to TOK GC hmix l s a w hl hsz hs (holds_bind.1 hG) ?_
  intro z s' a' w' hF h1 h2 h3 h4
  cases z with
  | normal =>
    simp only at hF
    split at hF
    · exact hF.elim
    · rename_i s'' hr
      have h5 := h1.restr (restrict_spec hr)
      simp only [Tree.holds] at hF
      cases hu : unS ts bs s'' with
      | none => rw [hu] at hF; exact absurd hF hbad
      | some x =>
        rw [hu] at hF
        have := unS_eq hu
        subst this
        exact hgo x a' w' hF h5 h2 h3 h4
  | ret =>
    have hF' := holds_bind.1 hF
    have key : ∀ (t : Tree (dens res)), t = evRes C fn res (.normal, s') → t.holds (fun y => (Tree.leaf (some y, none)).holds G) → Q .ret a' w' := by
      intro t ht hh
      cases t with
      | leaf y => exact hret y s' a' w' hh h1 h3 (by rw [← ht]; rfl)
      | stuck => exact hh.elim
      | br c t e =>
        exfalso
        simp only [evRes] at ht
        split at ht
        · cases ht
        · split at ht <;> cases ht
      | need p t =>
        exfalso
        simp only [evRes] at ht
        split at ht
        · cases ht
        · split at ht <;> cases ht
    exact key _ rfl hF'
  | exit id => exact hF.elim

/-! A channel kept beside the evaluator -/
theorem IsSt.bool {R : Ref} {s : St} {d : Nat} {t : Bool} (h : IsSt R s a w) (hl : s.look d = .val .bool t) : a.eval (.tmp d) = .bool t := by
  obtain ⟨M, _, _, _, hr⟩ := h
  have := hr d
  rw [hl] at this
  obtain ⟨cs, h1, h2⟩ := this
  have h3 : cs = [.bool t] := h1
  subst h3
  exact h2

/-- In these slots this is known; slot d holds a channel, and what the channel is. -/
structure Hd (R0 : Ref) (c : Nat) (obj : Obj) (n d : Nat) (s : St) (a : Act) (w : World) : Prop where
  new : R0.w0.heap.size ≤ c
  size : a.tmps.size = n
  defers : a.defers = []
  slot : a.tmps.getD d undef = .chan (some c)
  st : ∃ R : Ref, R.w0.heap[c]? = some obj ∧ ¬ R.own c ∧ IsSt R s a w ∧ ∀ s2 a2 w2, IsSt R s2 a2 w2 → IsSt R0 s2 a2 w2

variable {R0 : Ref} {c : Nat} {obj : Obj} {n d : Nat} {s : St}

theorem Hd.heap (h : Hd R0 c obj n d s a w) : w.heap[c]? = some obj := by
  obtain ⟨R, h1, h2, h3, _⟩ := h.st
  rw [h3.frame (Array.getElem?_eq_some_iff.1 h1).1 h2]
  exact h1
theorem Hd.old (h : Hd R0 c obj n d s a w) : IsSt R0 s a w := by
  obtain ⟨R, _, _, h3, h4⟩ := h.st
  exact h4 _ _ _ h3
theorem Hd.restr {L : LoopSpec} {s' : St} (h : Hd R0 c obj n d s a w) (hr : restrict L s = some s') : Hd R0 c obj n d s' a w := by
  obtain ⟨R, h1, h2, h3, h4⟩ := h.st
  exact ⟨h.new, h.size, h.defers, h.slot, R, h1, h2, h3.restr (restrict_spec hr), h4⟩
theorem Hd.undef {k : Nat} {v : Value} (h : Hd R0 c obj n d s a w) (hl : s.look k = .undef) (hk : k < n) (hd : d ≠ k) : Hd R0 c obj n d s (a.put (some k) v) w := by
  obtain ⟨R, h1, h2, h3, h4⟩ := h.st
  have hk' : k < a.tmps.size := by rw [h.size]; exact hk
  exact ⟨h.new, (put_size _ _ _).trans h.size, (put_defers' _ _ _).trans h.defers, (put_same hk' hd).trans h.slot, R, h1, h2, h3.put_undef hl hk', h4⟩
theorem Hd.known {k : Nat} {v : Value} {av : AV} (h : Hd R0 c obj n d s a w) (hv : ∀ M, RelV M av v) (hk : k < n) (hd : d ≠ k) : Hd R0 c obj n d (s.put k av) (a.put (some k) v) w := by
  obtain ⟨R, h1, h2, h3, h4⟩ := h.st
  have hk' : k < a.tmps.size := by rw [h.size]; exact hk
  exact ⟨h.new, (put_size _ _ _).trans h.size, (put_defers' _ _ _).trans h.defers, (put_same hk' hd).trans h.slot, R, h1, h2, h3.put_known hv hk', h4⟩
theorem Hd.set {cap cap' sn rn sn' rn' : Nat} {buf buf' : Array Value} {cl cl' tm tm' : Bool} (h : Hd R0 c (.chan cap buf cl sn rn tm) n d s a w) : Hd R0 c (.chan cap' buf' cl' sn' rn' tm') n d s a (w.setChan c cap' buf' cl' sn' rn' tm') := by
  have hc := h.heap
  have hlt : c < w.heap.size := (Array.getElem?_eq_some_iff.1 hc).1
  have hs := heap_setChan w c cap' buf' cl' sn' rn' tm' hlt
  obtain ⟨R', h1, h2, h3, h4⟩ := rebase (w' := w.setChan c cap' buf' cl' sn' rn' tm') h.old c rfl rfl rfl (by rw [size_setChan]; exact Nat.le_refl _) (fun k _ hk => by simp [World.setChan, Array.getElem?_setIfInBounds_ne (Ne.symm hk)]) h.new (fun _ _ _ => by rw [hc]; intro e; cases e) (fun _ _ => by rw [hc]; intro e; cases e) (fun _ _ _ => by rw [hs]; intro e; cases e)
  exact ⟨h.new, h.size, h.defers, h.slot, R', by rw [h1]; exact hs, h2, h3, h4⟩
theorem at_make {cap : Nat} {buf : Array Value} {cl tm : Bool} {sn rn : Nat} (h : IsSt R0 s a (w.alloc (.chan cap buf cl sn rn tm))) (hw : R0.w0.heap.size ≤ w.heap.size) (hs : a.tmps.size = n) (hd : a.defers = []) (hc : a.tmps.getD d undef = .chan (some w.heap.size)) :
    Hd R0 w.heap.size (.chan cap buf cl sn rn tm) n d s a (w.alloc (.chan cap buf cl sn rn tm)) := by
  have hn := heap_alloc_new w (.chan cap buf cl sn rn tm)
  obtain ⟨R', h1, h2, h3, h4⟩ := rebase (w' := w.alloc (.chan cap buf cl sn rn tm)) h w.heap.size rfl rfl rfl (Nat.le_refl _) (fun _ _ _ => rfl) hw (fun _ _ _ => by rw [hn]; intro e; cases e) (fun _ _ => by rw [hn]; intro e; cases e) (fun _ _ _ => by rw [hn]; intro e; cases e)
  exact ⟨hw, hs, hd, hc, R', by rw [h1]; exact hn, h2, h3, h4⟩
theorem Hd.op (TOK : TysOK P C.τ) (GOK : CtrsOK P C.Γ) {i : Nat} {o : Oper} {e : Eff} (h : Hd R0 c obj n d s a w) (ho : ops[i]? = some o) (hg : o.guard = none) (he : opEff C.τ C.Γ (o.dst.getD 0) o (s.args o) = some e) (hn : e.ok) (hk : ∀ k, o.dst = some k → k < n ∧ k ≠ d)
    (hnext : ∀ a' w', Hd R0 c obj n d (s.after o e) a' w' → (∀ t, o.dst ≠ some t → a'.tmps.getD t Go.undef = a.tmps.getD t Go.undef) → RegTo P b ops l Q a' w') : RegTo P b ops (i :: l) Q a w := by
  obtain ⟨R, h1, h2, h3, h4⟩ := h.st
  refine RegTo.op TOK GOK ho hg h3 he hn (fun k hk' => by rw [h.size]; exact (hk k hk').1) fun a' w' h5 h6 => hnext a' w' ⟨h.new, h6.size.trans h.size, h6.defers.trans h.defers, (h6.tmps d (fun hd => (hk d hd).2 rfl)).trans h.slot, R, h1, h2, h5, h4⟩ (fun t ht => h6.tmps t ht)
theorem Hd.move {i k : Nat} {o : Oper} (h : Hd R0 c obj n d s a w) (ho : ops[i]? = some o) (hg : o.guard = none) (hop : o.op = .move (.tmp d)) (hdst : o.dst = some k) (hl : s.look k = .undef) (hk : k < n) (hd : d ≠ k)
    (hnext : ∀ a', Hd R0 c obj n d s a' w → a'.tmps.getD k Go.undef = .chan (some c) → RegTo P b ops l Q a' w) : RegTo P b ops (i :: l) Q a w := by
  refine RegTo.value (v := .chan (some c)) (w' := w) ho hg ?_ ?_
  · have he : a.eval (.tmp d) = .chan (some c) := h.slot
    unfold execOp
    rw [hop]
    simp only [he]
    rfl
  · rw [hdst]
    exact hnext _ (h.undef hl hk hd) (put_at (by rw [h.size]; exact hk))
theorem Hd.send {i k cap sn rn : Nat} {buf : Array Value} {tm : Bool} {y : Operand} {o : Oper} (h : Hd R0 c (.chan cap buf false sn rn tm) n d s a w) (ho : ops[i]? = some o) (hg : o.guard = none) (hb : b.kind ≠ .early) (hop : o.op = .send (.tmp k) y) (hdst : o.dst = none) (hx : a.tmps.getD k Go.undef = .chan (some c)) (hroom : buf.size < cap)
    (hnext : ∀ v w', Hd R0 c (.chan cap (buf.push v) false (sn + 1) rn tm) n d s a w' → RegTo P b ops l Q a w') : RegTo P b ops (i :: l) Q a w := by
  refine RegTo.send ho hg hb hop hx rfl h.heap hroom ?_
  rw [hdst]
  exact hnext _ _ h.set
theorem Hd.select {i k x et cap sn rn : Nat} {buf : Array Value} {tm : Bool} {z : Value} {o : Oper} (h : Hd R0 c (.chan cap buf false sn rn tm) n d s a w) (ho : ops[i]? = some o) (hg : o.guard = none) (hb : b.kind ≠ .early) (hop : o.op = .select #[⟨.tmp x, none, et⟩] false) (hdst : o.dst = some k) (hx : a.tmps.getD x Go.undef = .chan (some c))
    (hz : (zeroValue et).run P w = .ok z w) (hk : k < n) (hd : d ≠ k)
    (hnext : ∀ buf' rn' a' w', Hd R0 c (.chan cap buf' false sn rn' tm) n d (s.put k (.tup [.val (.int .i64) (if buf.isEmpty = true then (-1 : Int) else 0), .undef, .undef])) a' w' → RegTo P b ops l Q a' w') : RegTo P b ops (i :: l) Q a w := by
  have hex : (execOp a.eval o).run P w = .ok (.comm #[rcase c z] false .select) w := by
    have he : a.eval (.tmp x) = .chan (some c) := hx
    unfold execOp
    rw [hop]
    simp [he, hz, rcase]
  have rel : ∀ (m : Int) (e1 e2 : Value) (M : Mem), IntKind.i64.has m → RelV M (.tup [.val (.int .i64) m, .undef, .undef]) (.tuple #[.int .i64 m, e1, e2]) := by
    intro m e1 e2 M hm
    exact ⟨_, rfl, ⟨[.int .i64 m], ⟨rfl, hm⟩, rfl⟩, trivial, trivial, trivial⟩
  by_cases he : buf = #[]
  · subst he
    refine RegTo.select_none ho hg hb hex h.heap ?_
    rw [hdst]
    exact hnext #[] rn _ _ (h.known (fun M => rel (-1) _ _ M (by simp [IntKind.has, IntKind.min, IntKind.max, IntKind.bits, IntKind.signed])) hk hd)
  · have hs : 0 < buf.size := Nat.pos_of_ne_zero (fun e => he (Array.size_eq_zero_iff.1 e))
    refine RegTo.select_recv ho hg hb hex h.heap hs ?_
    rw [hdst]
    have hm : (if buf.isEmpty = true then (-1 : Int) else 0) = 0 := by simp [he]
    rw [hm] at hnext
    exact hnext _ _ _ _ (Hd.known h.set (fun M => rel 0 _ _ M (by simp [IntKind.has, IntKind.min, IntKind.max, IntKind.bits, IntKind.signed])) hk hd)
def calmL (n d : Nat) (cs : List Code) : Bool := cs.all fun x => (loopsOf x).isEmpty && (writes x).all fun t => Nat.blt t n && !(Nat.beq t d)
theorem calmL_lam {cs : List Code} (h : calmL n d cs = true) : ∀ x ∈ cs, LamOK C x := fun x hx => by
  unfold calmL at h
  rw [List.all_eq_true] at h
  have h1 := h x hx
  rw [Bool.and_eq_true] at h1
  have h2 : loopsOf x = [] := by simpa using h1.1
  exact lam_of x fun id body hm => by rw [h2] at hm; cases hm
theorem calmL_wr {cs : List Code} (h : calmL n d cs = true) : ∀ x ∈ cs, ∀ t ∈ writes x, t < n ∧ t ≠ d := fun x hx t ht => by
  unfold calmL at h
  rw [List.all_eq_true] at h
  have h1 := h x hx
  rw [Bool.and_eq_true, List.all_eq_true] at h1
  have h2 := h1.2 t ht
  rw [Bool.and_eq_true, Nat.blt_eq] at h2
  exact ⟨h2.1, fun e => by subst e; simp at h2⟩
theorem Hd.piece (TOK : TysOK P C.τ) (GC : CtrsOK P C.Γ) (hmix : P.follows .mixedOrders = true) {fn : Func} {res : List GTy} {ts : List (Nat × Sh)} {bs : List (Nat × BSh)} {rest cs : List Code} {G : Option (dens res) × Option (ShT ts × ShB bs) → Prop} (h : Hd R0 c obj n d s a w) (hcalm : calmL n d cs = true) (hG : (pieceT C fn res ts bs cs s).holds G)
    (hret : ∀ y s' a' w', G (some y, none) → IsSt R0 s' a' w' → a'.defers = [] → (evRes C fn res (.normal, s')).holds (fun z => z = y) → Q .ret a' w')
    (hgo : ∀ x a' w', G (none, some x) → Hd R0 c obj n d (mkS ts bs x) a' w' → LTo P b rest Q a' w')
    (hbad : ¬ G (none, none)) : LTo P b (cs ++ rest) Q a w := by
  obtain ⟨R, h1, h2, h3, h4⟩ := h.st
  have hsz := calmL_wr hcalm
  refine piece_to TOK GC hmix (calmL_lam hcalm) (fun x hx t ht => by rw [h.size]; exact (hsz x hx t ht).1) h3 hG ?_ ?_ hbad
  · intro y s' a' w' k1 k2 k3 k4
    exact hret y s' a' w' k1 (h4 _ _ _ k2) (k3.trans h.defers) k4
  · intro x a' w' k1 k2 k3 k4 k5
    exact hgo x a' w' k1 ⟨h.new, k3.trans h.size, k4.trans h.defers, (k5 d (fun x hx ht => (hsz x hx d ht).2 rfl)).trans h.slot, R, h1, h2, k2, h4⟩
theorem dst_ok {o : Oper} {m n d : Nat} (h : o.dst = some m) (hm : (Nat.blt m n && !(Nat.beq m d)) = true) : ∀ k, o.dst = some k → k < n ∧ k ≠ d := by
  intro k hk
  rw [h] at hk
  have e : m = k := Option.some.inj hk
  subst e
  rw [Bool.and_eq_true, Nat.blt_eq] at hm
  exact ⟨hm.1, fun e => by subst e; simp at hm⟩

/-- A call is at its end, and this is what it answers. -/
def finQ (C : Ctx) (fn : Func) (res : List GTy) (R0 : Ref) (y : dens res) (e : Exit) (a' : Act) (w' : World) : Prop :=
  (e = .normal ∨ e = .ret) ∧ a'.defers = [] ∧ ∃ s', IsSt R0 s' a' w' ∧ (evRes C fn res (.normal, s')).holds (fun z => z = y)

theorem ctr_of_to (TOK : TysOK P C.τ) {f : Nat} {k : Ctr} (hf : (P.funcs[f]?).isSome = true) (hname : ((fnOf P f).name == "runtime.NumGoroutine") = false) (hbody : (fnOf P f).body.isSome = true) (hn : ∀ x, (resL k.args x).length ≤ (fnOf P f).ntmps)
    (h : ∀ (R0 : Ref) (b : Frame) (x : dens k.args) (a : Act), b.kind ≠ .early → wtD k.args x → (∀ p, k.pre = some p → p x) → IsSt R0 { tmps := number 0 (resL k.args x), boxes := [] } a R0.w0 → a.tmps.size = (fnOf P f).ntmps → a.defers = [] →
      LTo P b (seqs (bodyOf (fnOf P f))) (finQ C (fnOf P f) k.res R0 (k.fn x)) a R0.w0) : CtrOK P f k := by
  refine ⟨⟨_, fnOf_eq hf, by rw [bodyOf_eq hbody]; rfl, hname⟩, fun w S us x hS hT henc hpre => ?_⟩
  have h0 := start_st (n := (fnOf P f).ntmps) hS hT henc
  have hlen := (resL_rel (M := ⟨w, S, fun _ => undef, []⟩) henc).length
  have hx := hn x
  refine calls_of_to (fnOf_eq hf) (bodyOf_eq hbody) ?_
  refine CodeTo.mono (CodeTo.seqs (h ⟨w, fun _ => False, S, hT⟩ _ x _ (fun e => by cases e) henc.wt hpre h0 (by simp; omega) rfl)) ?_
  rintro e a' w' ⟨he, hd, s', h1, h2⟩
  exact ⟨he, hd, finish_st TOK h1 h2⟩
end
end Go.Ev
