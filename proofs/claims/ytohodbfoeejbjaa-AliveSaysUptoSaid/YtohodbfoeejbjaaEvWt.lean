/- Values in range. -/
import Derived.Test.YtohodbfoeejbjaaEvTake
set_option linter.unusedVariables false
set_option linter.unusedSimpArgs false
namespace Go.Ev

def wt : (g : GTy) → den g → Prop
  | .bool, _ => True
  | .int k, n => k.has n
  | .str, s => List.length (α := UInt8) s ≤ maxStr
  | .unit, _ => True
  | .prod a b, x => wt a x.1 ∧ wt b x.2
  | .arr n a, xs => List.length (α := den a) xs = n ∧ ∀ x : den a, x ∈ (show List (den a) from xs) → wt a x
  | .sl a, xs => List.length (α := den a) xs ≤ maxRow ∧ List.length (α := den a) xs * lbytes a ≤ maxRow ∧ ∀ x : den a, x ∈ (show List (den a) from xs) → wt a x

/-- Texts and slices that are not long. -/
def small : (g : GTy) → den g → Prop
  | .bool, _ => True
  | .int _, _ => True
  | .str, s => List.length (α := UInt8) s ≤ 1048576
  | .unit, _ => True
  | .prod a b, x => small a x.1 ∧ small b x.2
  | .arr n a, xs => ∀ x : den a, x ∈ (show List (den a) from xs) → small a x
  | .sl a, xs => List.length (α := den a) xs ≤ 1048576 ∧ ∀ x : den a, x ∈ (show List (den a) from xs) → small a x

theorem encL_all {α : Type} {f : α → List Value → Prop} {p : α → Prop} (h : ∀ x c, f x c → p x) : ∀ {xs : List α} {cs : List Value}, encL f xs cs → ∀ x, x ∈ xs → p x
  | [], _, _, x, hx => by cases hx
  | y :: ys, _, ⟨c, d, _, a, b⟩, x, hx => by
    rcases List.mem_cons.1 hx with rfl | hx
    · exact h _ _ a
    · exact encL_all h b x hx

theorem Enc.wt {w : World} {S : Stab} : ∀ {g : GTy} {x : den g} {cs : List Value}, Enc w S g x cs → Ev.wt g x
  | .bool, _, _, _ => trivial
  | .int _, _, _, e => e.2
  | .str, _, _, e => e.2
  | .unit, _, _, _ => trivial
  | .prod _ _, _, _, ⟨c, d, e, a, b⟩ => ⟨Enc.wt a, Enc.wt b⟩
  | .arr _ a, xs, _, ⟨e, h⟩ => ⟨e, fun x hx => encL_all (f := Enc w S a) (p := Ev.wt a) (fun _ _ k => Enc.wt k) h x hx⟩
  | .sl a, xs, _, ⟨ad, cap, e, h1, h2, h3, h4⟩ => ⟨h3, h2, by
      rcases h4 with h4 | ⟨blk, off, ds, e1, e2, e3⟩
      · intro x hx
        rw [show (show List (den a) from xs) = [] from h4] at hx
        cases hx
      · exact fun x hx => encL_all (f := Enc w S a) (p := Ev.wt a) (fun _ _ k => Enc.wt k) e2 x hx⟩

def wtD : (gs : List GTy) → dens gs → Prop
  | [], _ => True
  | [g], x => wt g x
  | g :: h :: gs, x => wt g x.1 ∧ wtD (h :: gs) x.2

def smallD : (gs : List GTy) → dens gs → Prop
  | [], _ => True
  | [g], x => small g x
  | g :: h :: gs, x => small g x.1 ∧ smallD (h :: gs) x.2

theorem EncD.wt {w : World} {S : Stab} : ∀ {gs : List GTy} {x : dens gs} {us : List Value}, EncD w S gs x us → wtD gs x
  | [], _, _, _ => trivial
  | [_], _, _, ⟨cs, h1, _⟩ => h1.wt
  | _ :: _ :: _, _, _, ⟨cs, us', h1, _, h3⟩ => ⟨h1.wt, EncD.wt h3⟩
end Go.Ev
