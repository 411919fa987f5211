/- How a typed value lies in memory. -/
import Derived.Test.YtohodbfoeejbjaaEvDef
import Derived.Below
import Derived.Laws.AppendOwn
import Derived.Laws.OwnMore
import Derived.Laws.MakeOwn
import Derived.Laws.Cells
import Derived.Laws.Rows
import Derived.Orders
namespace Go.Ev

abbrev Stab := Nat → Nat → Prop

def encL {α : Type} (f : α → List Value → Prop) : List α → List Value → Prop
  | [], cs => cs = []
  | x :: xs, cs => ∃ c d, cs = c ++ d ∧ f x c ∧ encL f xs d

def Enc (w : World) (S : Stab) : (g : GTy) → den g → List Value → Prop
  | .bool, b, cs => cs = [.bool b]
  | .int k, n, cs => cs = [.int k n] ∧ k.has n
  | .str, s, cs => cs = [.string ⟨⟨s⟩⟩] ∧ List.length (α := UInt8) s ≤ maxStr
  | .unit, _, cs => cs = []
  | .prod a b, x, cs => ∃ c d, cs = c ++ d ∧ Enc w S a x.1 c ∧ Enc w S b x.2 d
  | .arr n a, xs, cs => List.length (α := den a) xs = n ∧ encL (Enc w S a) xs cs
  | .sl a, xs, cs => ∃ ad cap, cs = [.slice ad (List.length (α := den a) xs) cap] ∧ List.length (α := den a) xs ≤ cap ∧ List.length (α := den a) xs * lbytes a ≤ maxRow ∧ List.length (α := den a) xs ≤ maxRow ∧
      ((xs : List (den a)) = [] ∨ ∃ blk off ds, ad = some ⟨blk, off, none⟩ ∧ encL (Enc w S a) xs ds ∧ ∀ j v, ds[j]? = some v → w.cell? ⟨blk, off + j, none⟩ = some v ∧ S blk (off + j))

def toVal (g : GTy) (cs : List Value) : Value :=
  match isAgg g with
  | true => .agg cs.toArray
  | false => cs.headD undef

/-- Whatever is stable stays so, and holds what it held. -/
def Keeps (S S' : Stab) (w w' : World) : Prop := ∀ b o, S b o → S' b o ∧ w'.cell? ⟨b, o, none⟩ = w.cell? ⟨b, o, none⟩

theorem Keeps.refl (S : Stab) (w : World) : Keeps S S w w := fun _ _ h => ⟨h, rfl⟩
theorem Keeps.trans {S S' S'' : Stab} {w w' w'' : World} (h : Keeps S S' w w') (k : Keeps S' S'' w' w'') : Keeps S S'' w w'' :=
  fun b o hs => ⟨(k b o (h b o hs).1).1, ((k b o (h b o hs).1).2).trans (h b o hs).2⟩

theorem encL_mono {α : Type} {f f' : α → List Value → Prop} (h : ∀ x c, f x c → f' x c) : ∀ {xs : List α} {cs : List Value}, encL f xs cs → encL f' xs cs
  | [], _, e => e
  | _ :: _, _, ⟨c, d, e, a, b⟩ => ⟨c, d, e, h _ _ a, encL_mono h b⟩

theorem Enc.keeps {S S' : Stab} {w w' : World} (h : Keeps S S' w w') : ∀ {g : GTy} {x : den g} {cs : List Value}, Enc w S g x cs → Enc w' S' g x cs
  | .bool, _, _, e => e
  | .int _, _, _, e => e
  | .str, _, _, e => e
  | .unit, _, _, e => e
  | .prod _ _, _, _, ⟨c, d, e, a, b⟩ => ⟨c, d, e, Enc.keeps h a, Enc.keeps h b⟩
  | .arr _ _, _, _, ⟨e, a⟩ => ⟨e, encL_mono (fun _ _ => Enc.keeps h) a⟩
  | .sl _, _, _, ⟨ad, cap, e, h1, h2, h3, h4⟩ => ⟨ad, cap, e, h1, h2, h3, h4.imp id fun ⟨blk, off, ds, e1, e2, e3⟩ =>
      ⟨blk, off, ds, e1, encL_mono (fun _ _ => Enc.keeps h) e2, fun j v hv => ⟨((h _ _ (e3 j v hv).2).2).trans (e3 j v hv).1, (h _ _ (e3 j v hv).2).1⟩⟩⟩

theorem encL_len {α : Type} {f : α → List Value → Prop} {n : Nat} (h : ∀ x c, f x c → c.length = n) : ∀ {xs : List α} {cs : List Value}, encL f xs cs → cs.length = xs.length * n
  | [], _, e => by simp [show _ = _ from e]
  | x :: xs, _, ⟨c, d, e, a, b⟩ => by
    rw [e, List.length_append, h _ _ a, encL_len h b, List.length_cons, Nat.add_mul, Nat.one_mul, Nat.add_comm]

theorem Enc.len {w : World} {S : Stab} : ∀ {g : GTy} {x : den g} {cs : List Value}, Enc w S g x cs → cs.length = ncell g
  | .bool, _, _, e => by rw [show _ = _ from e]; rfl
  | .int _, _, _, e => by rw [e.1]; rfl
  | .str, _, _, e => by rw [e.1]; rfl
  | .unit, _, _, e => by rw [show _ = _ from e]; rfl
  | .prod _ _, _, _, ⟨c, d, e, a, b⟩ => by rw [e, List.length_append, Enc.len a, Enc.len b]; rfl
  | .arr n a, xs, _, ⟨e, h⟩ => by rw [encL_len (fun _ _ => Enc.len) h, e]; rfl
  | .sl _, _, _, ⟨_, _, e, _⟩ => by rw [e]; rfl

theorem encL_one {α : Type} {f : α → List Value → Prop} {p : Value → Prop} (h : ∀ x c, f x c → ∀ v ∈ c, p v) : ∀ {xs : List α} {cs : List Value}, encL f xs cs → ∀ v ∈ cs, p v
  | [], _, e, v, hv => by rw [show _ = _ from e] at hv; cases hv
  | _ :: _, _, ⟨c, d, e, a, b⟩, v, hv => by
    rw [e, List.mem_append] at hv
    exact hv.elim (h _ _ a v) (encL_one h b v)

theorem Enc.one {w : World} {S : Stab} : ∀ {g : GTy} {x : den g} {cs : List Value}, Enc w S g x cs → ∀ v ∈ cs, v.oneCell' = true
  | .bool, _, _, e, v, hv => by rw [show _ = _ from e] at hv; simp at hv; rw [hv]; rfl
  | .int _, _, _, e, v, hv => by rw [e.1] at hv; simp at hv; rw [hv]; rfl
  | .str, _, _, e, v, hv => by rw [e.1] at hv; simp at hv; rw [hv]; rfl
  | .unit, _, _, e, v, hv => by rw [show _ = _ from e] at hv; cases hv
  | .prod _ _, _, _, ⟨c, d, e, a, b⟩, v, hv => by
    rw [e, List.mem_append] at hv
    exact hv.elim (Enc.one a v) (Enc.one b v)
  | .arr _ _, _, _, ⟨_, h⟩, v, hv => encL_one (fun _ _ => Enc.one) h v hv
  | .sl _, _, _, ⟨_, _, e, _⟩, v, hv => by rw [e] at hv; simp at hv; rw [hv]; rfl

/-- The cells of a value as the machine hands it round. -/
theorem toVal_cells {w : World} {S : Stab} {g : GTy} {x : den g} {cs : List Value} (h : Enc w S g x cs) : (toVal g cs).cells.toList = cs := by
  unfold toVal
  cases hg : isAgg g with
  | true => simp [Value.cells]
  | false =>
    have hl := h.len
    have h1 : cs.length = 1 := by cases g <;> simp [isAgg] at hg <;> simpa [ncell] using hl
    match cs, h1 with
    | [c], _ =>
      have := h.one c (by simp)
      simp only [List.headD_cons]
      cases c <;> simp_all [Value.cells, Value.oneCell']

/-- Element i of a row. -/
theorem encL_get {α : Type} {f : α → List Value → Prop} {n : Nat} (hn : ∀ x c, f x c → c.length = n) : ∀ {xs : List α} {cs : List Value} (i : Nat) (x : α), encL f xs cs → xs[i]? = some x →
    ∃ a c b, cs = a ++ c ++ b ∧ a.length = i * n ∧ f x c
  | y :: xs, _, 0, x, ⟨c, d, e, a, b⟩, hx => by
    simp at hx
    subst hx
    exact ⟨[], c, d, by simpa using e, by simp, a⟩
  | y :: xs, _, i + 1, x, ⟨c, d, e, a, b⟩, hx => by
    obtain ⟨p, q, r, h1, h2, h3⟩ := encL_get hn i x b (by simpa using hx)
    refine ⟨c ++ p, q, r, by rw [e, h1]; simp, ?_, h3⟩
    rw [List.length_append, h2, hn _ _ a, Nat.add_mul, Nat.one_mul, Nat.add_comm]
  | [], _, _, _, _, hx => by cases hx

theorem encL_set {α : Type} {f : α → List Value → Prop} {n : Nat} (hn : ∀ x c, f x c → c.length = n) : ∀ {xs : List α} {cs a c b : List Value} (i : Nat) (y : α) (d : List Value), encL f xs cs → i < xs.length →
    cs = a ++ c ++ b → a.length = i * n → c.length = n → f y d → encL f (xs.set i y) (a ++ d ++ b)
  | x :: xs, cs, a, c, b, 0, y, d, ⟨p, q, e, hp, hq⟩, _, he, ha, hc, hy => by
    have ha0 : a = [] := List.eq_nil_of_length_eq_zero (by simpa using ha)
    subst ha0
    simp only [List.nil_append] at he
    rw [e] at he
    have hpc := List.append_inj he (by rw [hn _ _ hp, hc])
    refine ⟨d, b, by simp, hy, ?_⟩
    rw [← hpc.2]; exact hq
  | x :: xs, cs, a, c, b, i + 1, y, d, ⟨p, q, e, hp, hq⟩, hi, he, ha, hc, hy => by
    have hlen : p.length ≤ a.length := by rw [hn _ _ hp, ha, Nat.add_mul, Nat.one_mul]; omega
    rw [e, List.append_assoc] at he
    have hpre : p = a.take p.length := by
      have := congrArg (List.take p.length) he
      rwa [List.take_left' rfl, List.take_append_of_le_length hlen] at this
    have hq' : q = a.drop p.length ++ c ++ b := by
      have := congrArg (List.drop p.length) he
      rw [List.drop_left' rfl, List.drop_append_of_le_length hlen] at this
      rw [this, List.append_assoc]
    refine ⟨p, a.drop p.length ++ d ++ b, ?_, hp, encL_set hn i y d hq (by simpa using hi) hq' ?_ hc hy⟩
    · conv => lhs; rw [show a = p ++ a.drop p.length from by conv => lhs; rw [← List.take_append_drop p.length a, ← hpre]]
      simp
    · rw [List.length_drop, ha, hn _ _ hp, Nat.add_mul, Nat.one_mul]; omega
  | [], _, _, _, _, _, _, _, _, hi, _, _, _, _ => by cases hi

/-- A path within bounds. -/
def inB : GTy → List PStep → Prop
  | _, [] => True
  | .prod a _, .fst :: p => inB a p
  | .prod _ b, .snd :: p => inB b p
  | .arr n a, .idx i :: p => i < n ∧ inB a p
  | _, _ => False

theorem getD_some {α : Type} (xs : List α) (i : Nat) (d : α) (h : i < xs.length) : xs[i]? = some (xs.getD i d) := by
  simp [List.getD, h]

/-- Where a path leads, its cells lie. -/
theorem Enc.sub {w : World} {S : Stab} : ∀ {g : GTy} {x : den g} {cs : List Value} (p : List PStep) {h : GTy} {y : den h}, Enc w S g x cs → Ev.sub g x p = some ⟨h, y⟩ → inB g p →
    ∃ a c b, cs = a ++ c ++ b ∧ a.length = offs g p ∧ Enc w S h y c
  | g, x, cs, [], h, y, e, hs, _ => by
    simp only [Ev.sub, Option.some.injEq, Sigma.mk.injEq] at hs
    obtain ⟨rfl, hy⟩ := hs
    cases eq_of_heq hy
    exact ⟨[], cs, [], by simp, by cases g <;> rfl, e⟩
  | .prod a b, x, cs, .fst :: p, h, y, ⟨c, d, e, e1, e2⟩, hs, hb => by
    obtain ⟨p1, p2, p3, h1, h2, h3⟩ := Enc.sub p e1 (by simpa [Ev.sub] using hs) (by simpa [inB] using hb)
    exact ⟨p1, p2, p3 ++ d, by rw [e, h1]; simp, by rw [h2]; rfl, h3⟩
  | .prod a b, x, cs, .snd :: p, h, y, ⟨c, d, e, e1, e2⟩, hs, hb => by
    obtain ⟨p1, p2, p3, h1, h2, h3⟩ := Enc.sub p e2 (by simpa [Ev.sub] using hs) (by simpa [inB] using hb)
    exact ⟨c ++ p1, p2, p3, by rw [e, h1]; simp, by rw [List.length_append, h2, e1.len]; rfl, h3⟩
  | .arr n a, x, cs, .idx i :: p, h, y, ⟨e, e1⟩, hs, hb => by
    simp only [inB] at hb
    have hg := getD_some (α := den a) x i (zero a) (by rw [e]; exact hb.1)
    obtain ⟨q1, q2, q3, h1, h2, h3⟩ := encL_get (fun _ _ => Enc.len) i _ e1 hg
    obtain ⟨p1, p2, p3, k1, k2, k3⟩ := Enc.sub p h3 (by simpa [Ev.sub] using hs) hb.2
    exact ⟨q1 ++ p1, p2, p3 ++ q3, by rw [h1, k1]; simp, by rw [List.length_append, h2, k2]; rfl, k3⟩
  | .prod _ _, _, _, .idx _ :: _, _, _, _, hs, _ => by simp [Ev.sub] at hs
  | .arr _ _, _, _, .fst :: _, _, _, _, hs, _ => by simp [Ev.sub] at hs
  | .arr _ _, _, _, .snd :: _, _, _, _, hs, _ => by simp [Ev.sub] at hs
  | .bool, _, _, _ :: _, _, _, _, hs, _ => by simp [Ev.sub] at hs
  | .int _, _, _, _ :: _, _, _, _, hs, _ => by simp [Ev.sub] at hs
  | .str, _, _, _ :: _, _, _, _, hs, _ => by simp [Ev.sub] at hs
  | .unit, _, _, _ :: _, _, _, _, hs, _ => by simp [Ev.sub] at hs
  | .sl _, _, _, _ :: _, _, _, _, hs, _ => by simp [Ev.sub] at hs

/-- Another value at a path: its cells in the place of the old ones. -/
theorem Enc.upd {w : World} {S : Stab} : ∀ {g : GTy} {x : den g} {cs : List Value} (p : List PStep) {h : GTy} {v : den h} {z : den g} {d : List Value}, Enc w S g x cs → Ev.upd g x p ⟨h, v⟩ = some z → inB g p → Enc w S h v d →
    ∃ a c b, cs = a ++ c ++ b ∧ a.length = offs g p ∧ c.length = ncell h ∧ Enc w S g z (a ++ d ++ b)
  | g, x, cs, [], h, v, z, d, e, hs, _, hv => by
    simp only [Ev.upd] at hs
    split at hs
    · rename_i hg _
      subst hg
      simp only [Option.some.injEq] at hs
      subst hs
      exact ⟨[], cs, [], by simp, by cases h <;> rfl, e.len, by simpa using hv⟩
    · cases hs
  | .prod a b, x, cs, .fst :: p, h, v, z, d, ⟨c1, c2, e, e1, e2⟩, hs, hb, hv => by
    simp only [Ev.upd] at hs
    split at hs
    · rename_i y hy
      simp only [Option.some.injEq] at hs
      subst hs
      obtain ⟨p1, p2, p3, h1, h2, h3, h4⟩ := Enc.upd p e1 hy (by simpa [inB] using hb) hv
      exact ⟨p1, p2, p3 ++ c2, by rw [e, h1]; simp, by rw [h2]; rfl, h3, p1 ++ d ++ p3, c2, by simp, h4, e2⟩
    · cases hs
  | .prod a b, x, cs, .snd :: p, h, v, z, d, ⟨c1, c2, e, e1, e2⟩, hs, hb, hv => by
    simp only [Ev.upd] at hs
    split at hs
    · rename_i y hy
      simp only [Option.some.injEq] at hs
      subst hs
      obtain ⟨p1, p2, p3, h1, h2, h3, h4⟩ := Enc.upd p e2 hy (by simpa [inB] using hb) hv
      exact ⟨c1 ++ p1, p2, p3, by rw [e, h1]; simp, by rw [List.length_append, h2, e1.len]; rfl, h3, c1, p1 ++ d ++ p3, by simp, e1, h4⟩
    · cases hs
  | .arr n a, x, cs, .idx i :: p, h, v, z, d, ⟨e, e1⟩, hs, hb, hv => by
    simp only [Ev.upd] at hs
    simp only [inB] at hb
    split at hs
    · rename_i y hy
      simp only [Option.some.injEq] at hs
      subst hs
      have hi : i < List.length (α := den a) x := by rw [e]; exact hb.1
      have hg := getD_some (α := den a) x i (zero a) hi
      obtain ⟨q1, q2, q3, h1, h2, h3⟩ := encL_get (fun _ _ => Enc.len) i _ e1 hg
      obtain ⟨p1, p2, p3, k1, k2, k3, k4⟩ := Enc.upd p h3 hy hb.2 hv
      refine ⟨q1 ++ p1, p2, p3 ++ q3, by rw [h1, k1]; simp, by rw [List.length_append, h2, k2]; rfl, k3, ?_, ?_⟩
      · show List.length (List.set _ _ _) = n
        rw [List.length_set]; exact e
      · have := encL_set (fun _ _ => Enc.len) i y (p1 ++ d ++ p3) e1 hi h1 h2 h3.len k4
        simpa using this
    · cases hs
  | .prod _ _, _, _, .idx _ :: _, _, _, _, _, _, hs, _, _ => by simp [Ev.upd] at hs
  | .arr _ _, _, _, .fst :: _, _, _, _, _, _, hs, _, _ => by simp [Ev.upd] at hs
  | .arr _ _, _, _, .snd :: _, _, _, _, _, _, hs, _, _ => by simp [Ev.upd] at hs
  | .bool, _, _, _ :: _, _, _, _, _, _, hs, _, _ => by simp [Ev.upd] at hs
  | .int _, _, _, _ :: _, _, _, _, _, _, hs, _, _ => by simp [Ev.upd] at hs
  | .str, _, _, _ :: _, _, _, _, _, _, hs, _, _ => by simp [Ev.upd] at hs
  | .unit, _, _, _ :: _, _, _, _, _, _, hs, _, _ => by simp [Ev.upd] at hs
  | .sl _, _, _, _ :: _, _, _, _, _, _, hs, _, _ => by simp [Ev.upd] at hs

/-! Paths -/

theorem pathTy_sub : ∀ {g : GTy} {x : den g} {p : List PStep} {h : GTy} {y : den h}, Ev.sub g x p = some ⟨h, y⟩ → pathTy g p = some h
  | g, x, [], h, y, hs => by
    simp only [Ev.sub, Option.some.injEq, Sigma.mk.injEq] at hs
    cases g <;> simp [pathTy, hs.1]
  | .prod a b, x, .fst :: p, h, y, hs => by simp only [pathTy]; exact pathTy_sub (g := a) (x := x.1) (by simpa [Ev.sub] using hs)
  | .prod a b, x, .snd :: p, h, y, hs => by simp only [pathTy]; exact pathTy_sub (g := b) (x := x.2) (by simpa [Ev.sub] using hs)
  | .arr n a, x, .idx i :: p, h, y, hs => by simp only [pathTy]; exact pathTy_sub (g := a) (x := List.getD x i (zero a)) (by simpa [Ev.sub] using hs)
  | .prod _ _, _, .idx _ :: _, _, _, hs => by simp [Ev.sub] at hs
  | .arr _ _, _, .fst :: _, _, _, hs => by simp [Ev.sub] at hs
  | .arr _ _, _, .snd :: _, _, _, hs => by simp [Ev.sub] at hs
  | .bool, _, _ :: _, _, _, hs => by simp [Ev.sub] at hs
  | .int _, _, _ :: _, _, _, hs => by simp [Ev.sub] at hs
  | .str, _, _ :: _, _, _, hs => by simp [Ev.sub] at hs
  | .unit, _, _ :: _, _, _, hs => by simp [Ev.sub] at hs
  | .sl _, _, _ :: _, _, _, hs => by simp [Ev.sub] at hs

theorem inB_append : ∀ {g h : GTy} {p q : List PStep}, pathTy g p = some h → inB g p → inB h q → inB g (p ++ q)
  | g, h, [], q, hp, _, hq => by
    have : g = h := by cases g <;> simpa [pathTy] using hp
    subst this; simpa using hq
  | .prod a b, h, .fst :: p, q, hp, h1, hq => by simp only [List.cons_append, inB]; exact inB_append (g := a) (by simpa [pathTy] using hp) (by simpa [inB] using h1) hq
  | .prod a b, h, .snd :: p, q, hp, h1, hq => by simp only [List.cons_append, inB]; exact inB_append (g := b) (by simpa [pathTy] using hp) (by simpa [inB] using h1) hq
  | .arr n a, h, .idx i :: p, q, hp, h1, hq => by
    simp only [List.cons_append, inB] at h1 ⊢
    exact ⟨h1.1, inB_append (g := a) (by simpa [pathTy] using hp) h1.2 hq⟩
  | .prod _ _, _, .idx _ :: _, _, hp, _, _ => by simp [pathTy] at hp
  | .arr _ _, _, .fst :: _, _, hp, _, _ => by simp [pathTy] at hp
  | .arr _ _, _, .snd :: _, _, hp, _, _ => by simp [pathTy] at hp
  | .bool, _, _ :: _, _, hp, _, _ => by simp [pathTy] at hp
  | .int _, _, _ :: _, _, hp, _, _ => by simp [pathTy] at hp
  | .str, _, _ :: _, _, hp, _, _ => by simp [pathTy] at hp
  | .unit, _, _ :: _, _, hp, _, _ => by simp [pathTy] at hp
  | .sl _, _, _ :: _, _, hp, _, _ => by simp [pathTy] at hp

theorem offs_append : ∀ {g h : GTy} {p q : List PStep}, pathTy g p = some h → offs g (p ++ q) = offs g p + offs h q
  | g, h, [], q, hp => by
    have : g = h := by cases g <;> simpa [pathTy] using hp
    subst this
    have : offs g [] = 0 := by cases g <;> rfl
    simp [this]
  | .prod a b, h, .fst :: p, q, hp => by simp only [List.cons_append, offs]; exact offs_append (g := a) (by simpa [pathTy] using hp)
  | .prod a b, h, .snd :: p, q, hp => by simp only [List.cons_append, offs]; rw [offs_append (g := b) (h := h) (by simpa [pathTy] using hp)]; omega
  | .arr n a, h, .idx i :: p, q, hp => by simp only [List.cons_append, offs]; rw [offs_append (g := a) (h := h) (by simpa [pathTy] using hp)]; omega
  | .prod _ _, _, .idx _ :: _, _, hp => by simp [pathTy] at hp
  | .arr _ _, _, .fst :: _, _, hp => by simp [pathTy] at hp
  | .arr _ _, _, .snd :: _, _, hp => by simp [pathTy] at hp
  | .bool, _, _ :: _, _, hp => by simp [pathTy] at hp
  | .int _, _, _ :: _, _, hp => by simp [pathTy] at hp
  | .str, _, _ :: _, _, hp => by simp [pathTy] at hp
  | .unit, _, _ :: _, _, hp => by simp [pathTy] at hp
  | .sl _, _, _ :: _, _, hp => by simp [pathTy] at hp
end Go.Ev
