/- Frames: what is wrapped is opened; one byte that is another one is told. -/
import Derived.Test.YtohodbfoeejbjaaTextFrameKinds7

set_option linter.unusedVariables false
set_option linter.unusedSimpArgs false
namespace Go.Ev
theorem seal_len (t : List UInt8) : (sealF t).length = t.length + 4 := by unfold sealF; rw [List.length_append, numF_len4]
theorem sum_tail (t : List UInt8) : (bigN (numF (IntKind.wrap IntKind.u64 (sumF t)) 4) : Int) = sumF t := by
  obtain ⟨h0, h1⟩ := sum_rng t
  rw [u64_id (by omega) (by omega)]
  obtain ⟨m, hm⟩ := Int.eq_ofNat_of_zero_le h0
  have e : numF (sumF t) 4 = numB 4 m := by
    rw [hm]
    show numB 4 _ = _
    simp
  rw [e, bigN_num, Nat.mod_eq_of_lt (by omega)]
  omega
/-- What a text with four bytes behind it is. -/
theorem unseal_at (t d : List UInt8) (hd : d.length = 4) : unsealF (t ++ d) = bif IntKind.wrap IntKind.u64 (sumF t) != (bigN d : Int) then ([], 5) else (t, 0) := by
  unfold unsealF
  have hl : (t ++ d).length - 4 = t.length := by rw [List.length_append]; omega
  have h4 : decide (((t ++ d).length : Int) < 4) = false := by
    have : (t ++ d).length = t.length + 4 := by rw [List.length_append]; omega
    simp
    omega
  rw [hl, h4, List.take_left, List.drop_left]
  rfl
theorem unseal_seal (t : List UInt8) : unsealF (sealF t) = (t, 0) := by
  show unsealF (t ++ numF (IntKind.wrap IntKind.u64 (sumF t)) 4) = _
  rw [unseal_at _ _ (numF_len4 _), sum_tail]
  obtain ⟨h0, h1⟩ := sum_rng t
  rw [u64_id (by omega) (by omega)]
  simp
theorem total_set : ∀ (t : List UInt8) (i : Nat) (c : UInt8) (h : i < t.length), total (t.set i c) + t[i].toNat = total t + c.toNat
  | x :: t, 0, c, _ => by simp [total]; omega
  | x :: t, i + 1, c, h => by
    have := total_set t i c (by simpa using h)
    have e1 : total ((x :: t).set (i + 1) c) = x.toNat + total (t.set i c) := by simp [total]
    have e2 : total (x :: t) = x.toNat + total t := by simp [total]
    rw [e1, e2]
    simp only [List.getElem_cons_succ]
    omega
theorem sum_low (t : List UInt8) : ∃ a : Int, sumF t = a * 65536 + (1 + total t) % 65521 := by
  have h1 : inS (startS 1) := start_in (by omega)
  have h := tell_num (all_in (s := t) h1)
  rw [all_low t h1] at h
  exact ⟨_, h⟩
theorem sum_set (t : List UInt8) (i : Nat) (c : UInt8) (h : i < t.length) (hc : t[i] ≠ c) : sumF (t.set i c) ≠ sumF t := by
  obtain ⟨a, ha⟩ := sum_low t
  obtain ⟨b, hb⟩ := sum_low (t.set i c)
  have ht := total_set t i c h
  have hn : t[i].toNat ≠ c.toNat := fun e => hc (UInt8.toNat_inj.1 e)
  have h1 := t[i].toNat_lt
  have h2 := c.toNat_lt
  rw [ha, hb]
  generalize total t = m at *
  generalize total (t.set i c) = n at *
  generalize t[i].toNat = x at *
  generalize c.toNat = y at *
  omega
theorem bigN_inj {k : Nat} {l m : List UInt8} (hl : l.length = k) (hm : m.length = k) (h : bigN l = bigN m) : l = m := by
  rw [← num_bigN k l hl, ← num_bigN k m hm, h]
theorem unseal_set (t : List UInt8) (i : Nat) (c : UInt8) (h : i < (sealF t).length) (hc : (sealF t)[i] ≠ c) : unsealF ((sealF t).set i c) = ([], 5) := by
  have key : ∀ (d : List UInt8) (hd : d.length = 4) (h : i < (t ++ d).length), (t ++ d)[i] ≠ c → (bigN d : Int) = sumF t → unsealF ((t ++ d).set i c) = ([], 5) := by
    intro d hd h hc hb
    by_cases hi : i < t.length
    · rw [List.set_append_left _ _ hi, unseal_at _ _ hd, hb]
      rw [List.getElem_append_left hi] at hc
      have := sum_set t i c hi hc
      obtain ⟨h0, h1⟩ := sum_rng (t.set i c)
      rw [u64_id (by omega) (by omega)]
      have : (sumF (t.set i c) != sumF t) = true := by simpa using this
      rw [this]; rfl
    · have hi' : t.length ≤ i := by omega
      rw [List.set_append_right _ _ hi', unseal_at _ _ (by simpa using hd)]
      rw [List.getElem_append_right hi'] at hc
      obtain ⟨h0, h1⟩ := sum_rng t
      rw [u64_id (by omega) (by omega), ← hb]
      have hj : i - t.length < d.length := by rw [List.length_append] at h; omega
      have : bigN d ≠ bigN (d.set (i - t.length) c) := by
        intro e
        have := bigN_inj hd (by simpa using hd) e
        have e2 := congrArg (fun l => l[i - t.length]?) this
        simp [hj] at e2
        exact hc e2
      have : ((bigN d : Int) != (bigN (d.set (i - t.length) c) : Int)) = true := by
        simp
        omega
      rw [this]; rfl
  exact key _ (numF_len4 _) h hc (sum_tail t)
def frameT (k : Int) (s : List UInt8) : List UInt8 := (([70] : List UInt8) ++ numF (IntKind.wrap IntKind.u64 k) 1) ++ s
theorem frameT_len (k : Int) (s : List UInt8) : (frameT k s).length = s.length + 2 := by
  unfold frameT
  rw [List.length_append, List.length_append, numF_len1]
  simp
  omega
theorem wrap_in {k : Int} (h1 : 1 ≤ k) (h4 : k ≤ 4) {s : List UInt8} (hs : s.length ≤ 250) : wrapF k s = (sealF (frameT k s), 0) := by
  unfold wrapF
  have e1 : decide (k < 1) = false := by simp; omega
  have e2 : decide (k > 4) = false := by simp; omega
  have e3 : decide ((s.length : Int) > 250) = false := by simp; omega
  rw [e1, e2, e3]
  rfl
theorem open_in {k : Int} (h1 : 1 ≤ k) (h4 : k ≤ 4) {s : List UInt8} (hs : s.length ≤ 250) : openF (sealF (frameT k s)) = (k, s, 0) := by
  unfold openF
  rw [unseal_seal, seal_len, frameT_len]
  have e1 : decide (((s.length + 2 + 4 : Nat) : Int) > 256) = false := by simp; omega
  have e2 : decide (((s.length + 2 : Nat) : Int) < 2) = false := by simp; omega
  rw [e1, e2]
  have hk : k = 1 ∨ k = 2 ∨ k = 3 ∨ k = 4 := by omega
  rcases hk with rfl | rfl | rfl | rfl
  · rw [show frameT 1 s = 70 :: 1 :: s from by unfold frameT; rw [show numF (IntKind.wrap IntKind.u64 1) 1 = [1] by decide]; rfl]; rfl
  · rw [show frameT 2 s = 70 :: 2 :: s from by unfold frameT; rw [show numF (IntKind.wrap IntKind.u64 2) 1 = [2] by decide]; rfl]; rfl
  · rw [show frameT 3 s = 70 :: 3 :: s from by unfold frameT; rw [show numF (IntKind.wrap IntKind.u64 3) 1 = [3] by decide]; rfl]; rfl
  · rw [show frameT 4 s = 70 :: 4 :: s from by unfold frameT; rw [show numF (IntKind.wrap IntKind.u64 4) 1 = [4] by decide]; rfl]; rfl
theorem open_set {t : List UInt8} {i : Nat} {c : UInt8} (ht : t.length ≤ 252) (h : i < (sealF t).length) (hc : (sealF t)[i] ≠ c) : openF ((sealF t).set i c) = (0, [], 5) := by
  unfold openF
  rw [unseal_set t i c h hc, List.length_set, seal_len]
  have e1 : decide (((t.length + 4 : Nat) : Int) > 256) = false := by simp; omega
  rw [e1]
  rfl
end Go.Ev
/- What is said in frames, kind by kind. -/
set_option linter.unusedVariables false
set_option linter.unusedSimpArgs false
namespace Go.Ev
abbrev gHello : GTy := .prod (.int .i64) gPair
abbrev gAck : GTy := .prod (.int .i64) (.prod gPair (.prod (.int .i64) (.int .i64)))
abbrev gKinds : GTy := .prod gPart (.prod gAck gParcel)
abbrev DHello := Int × DPair
abbrev DAck := Int × DPair × Int × Int
def hokF (h : DHello) : Bool := bif rightF h.1 then !noneF h.2.1 else false
def helloB (h : DHello) : List UInt8 := numF (IntKind.wrap IntKind.u64 h.1) 1 ++ pairB h.2
def helloF (h : DHello) : List UInt8 × Int := bif !hokF h then ([], 1) else (helloB h, 0)
def nearF (n : Int) : Bool := bif decide (n ≥ 0) then decide (n ≤ 65535) else false
def aokF (a : DAck) : Bool := bif bif bif rightF a.1 then nearF a.2.2.1 else false then decide (a.2.2.2 ≥ 0) else false then decide (a.2.2.2 ≤ 255) else false
def ackB (a : DAck) : List UInt8 := ((numF (IntKind.wrap IntKind.u64 a.1) 1 ++ pairB a.2.1) ++ numF (IntKind.wrap IntKind.u64 a.2.2.1) 2) ++ numF (IntKind.wrap IntKind.u64 a.2.2.2) 1
def ackF (a : DAck) : List UInt8 × Int := bif !aokF a then ([], 1) else (ackB a, 0)
def blobF (s : List UInt8) : List UInt8 × Int := bif decide ((s.length : Int) > 255) then ([], 4) else (numF (s.length : Int) 1 ++ s, 0)
def endsF (p : DParcel) : Int := IntKind.wrap IntKind.u64 (IntKind.wrap IntKind.i64 (IntKind.wrap IntKind.i64 (16 * p.2.2.1) + p.2.2.2.1))
def parcelB (p : DParcel) : List UInt8 := (((numF (IntKind.wrap IntKind.u64 p.1) 1 ++ pairB p.2.1) ++ numF (endsF p) 1) ++ numF (IntKind.wrap IntKind.u64 p.2.2.2.2.1) 1) ++ (numF (p.2.2.2.2.2.length : Int) 1 ++ p.2.2.2.2.2)
def parcelF (p : DParcel) : List UInt8 × Int := bif !prightF p then ([], 1) else (parcelB p, 0)
def unblobF (s : List UInt8) : List UInt8 × List UInt8 × Int :=
  bif decide ((s.length : Int) < 1) then ([], [], 2) else bif decide (((s.drop 1).length : Int) < (bigN (s.take 1) : Int)) then ([], [], 2) else ((s.drop 1).take (bigN (s.take 1)), (s.drop 1).drop (bigN (s.take 1)), 0)
theorem pright_body {p : DParcel} (h : prightF p = true) : p.2.2.2.2.2.length ≤ 64 := by
  unfold prightF at h
  by_cases hl : (p.2.2.2.2.2.length : Int) ≤ 64
  · omega
  · rw [decide_eq_false hl] at h
    generalize (bif bif bif bif rightF p.1 then rightF p.2.2.1 else false then rightF p.2.2.2.1 else false then decide (p.2.2.2.2.1 ≥ 1) else false then decide (p.2.2.2.2.1 ≤ 64) else false) = b at h
    cases b <;> cases h
end Go.Ev
/- Loops told by their steps: round after round, till one does not go on. -/
set_option linter.unusedVariables false
namespace Go.Ev
/-- So many rounds at most. -/
def runF {σ : Type} (stp : σ → Ex × σ) : Nat → σ → Ex × σ
  | 0, x => (.normal, x)
  | n + 1, x => match stp x with
    | (.normal, y) => runF stp n y
    | p => p
theorem runF_go {σ : Type} {stp : σ → Ex × σ} {n : Nat} {x y : σ} (h : stp x = (.normal, y)) : runF stp (n + 1) x = runF stp n y := by
  show (match stp x with | (.normal, y) => runF stp n y | p => p) = _
  rw [h]
theorem runF_end {σ : Type} {stp : σ → Ex × σ} {n : Nat} {x : σ} (h : (stp x).1 ≠ .normal) : runF stp (n + 1) x = stp x := by
  show (match stp x with | (.normal, y) => runF stp n y | p => p) = _
  split
  · rename_i y hy
    rw [hy] at h
    exact absurd rfl h
  · rfl
/-- Enough rounds are enough. -/
theorem runF_fuel {σ : Type} {stp : σ → Ex × σ} {pre : σ → Prop} {μ : σ → Nat} (h : ∀ x, pre x → (stp x).1 = .normal → pre (stp x).2 ∧ μ (stp x).2 < μ x) : ∀ n m x, pre x → μ x < n → μ x < m → runF stp n x = runF stp m x
  | 0, _, _, _, h1, _ => by omega
  | _ + 1, 0, _, _, _, h1 => by omega
  | n + 1, m + 1, x, hp, h1, h2 => by
    by_cases hn : (stp x).1 = .normal
    · have e : stp x = (.normal, (stp x).2) := Prod.ext hn rfl
      obtain ⟨h3, h4⟩ := h x hp hn
      rw [runF_go e, runF_go e]
      exact runF_fuel h n m _ h3 (by omega) (by omega)
    · rw [runF_end hn, runF_end hn]
/-- What holds at each round's head, and what comes of it. -/
theorem runF_inv {σ : Type} {stp : σ → Ex × σ} {J : σ → Prop} {Post : Ex × σ → Prop} {μ : σ → Nat} (h : ∀ x, J x → ((stp x).1 = .normal → J (stp x).2 ∧ μ (stp x).2 < μ x) ∧ ((stp x).1 ≠ .normal → Post (stp x))) : ∀ n x, J x → μ x < n → Post (runF stp n x)
  | 0, _, _, h1 => by omega
  | n + 1, x, hp, h1 => by
    obtain ⟨h2, h3⟩ := h x hp
    by_cases hn : (stp x).1 = .normal
    · have e : stp x = (.normal, (stp x).2) := Prod.ext hn rfl
      obtain ⟨h4, h5⟩ := h2 hn
      rw [runF_go e]
      exact runF_inv h n _ h4 (by omega)
    · rw [runF_end hn]
      exact h3 hn
def isRet : Ex → Bool
  | .ret => true
  | _ => false
/-- A loop that ends in one way. -/
def out1 {σ : Type} (id : Nat) (p : Ex × σ) : Tree (Ex × σ) := .leaf (.exit id, p.2)
/-- A loop that ends, or leaves the function. -/
def out2 {σ : Type} (id : Nat) (p : Ex × σ) : Tree (Ex × σ) := .br (isRet p.1) (.leaf (.ret, p.2)) (.leaf (.exit id, p.2))
section
variable {C : Ctx} {body : Code} {D : LoopD}
theorem loopF_ok {T : ShT D.ts × ShB D.bs → Tree (Ex × Option (ShT D.ts × ShB D.bs))} (hstep : ∀ x, roundOf C D body x = T x) (stp : ShT D.ts × ShB D.bs → Ex × (ShT D.ts × ShB D.bs)) (μ : ShT D.ts × ShB D.bs → Nat)
    (O : Ex × (ShT D.ts × ShB D.bs) → Tree (Ex × (ShT D.ts × ShB D.bs))) (hD : ∀ x, D.out x = O (runF stp (μ x + 1) x)) (hO : ∀ x, D.pre x → (stp x).1 ≠ .normal → ∀ G, (O (stp x)).holds G → G (stp x))
    (h : ∀ x, D.pre x → ((T x).holds fun p => p = ((stp x).1, some (stp x).2)) ∧ ((stp x).1 = .normal → D.pre (stp x).2 ∧ μ (stp x).2 < μ x)) : LoopOK C D.spec body :=
  loopD_ok hstep μ fun x hp => by
    obtain ⟨h1, h2⟩ := h x hp
    refine holds_mono ?_ h1
    rintro p rfl
    refine ⟨(stp x).2, rfl, ?_⟩
    by_cases hn : (stp x).1 = .normal
    · obtain ⟨h3, h4⟩ := h2 hn
      have e : stp x = (.normal, (stp x).2) := Prod.ext hn rfl
      simp only [hn]
      refine ⟨h3, h4, fun G hG => ?_⟩
      rw [hD, runF_go e, runF_fuel (pre := D.pre) (μ := μ) (fun y hy => (h y hy).2) (μ x) (μ (stp x).2 + 1) _ h3 h4 (by omega)] at hG
      rw [hD]
      exact hG
    · have hfin : ∀ G, (D.out x).holds G → G ((stp x).1, (stp x).2) := fun G hG => by
        rw [hD, runF_end hn] at hG
        exact hO x hp hn G hG
      cases he : (stp x).1 with
      | normal => exact absurd he hn
      | exit k => rw [he] at hfin; exact hfin
      | ret => rw [he] at hfin; exact hfin
      | die v => rw [he] at hfin; exact hfin
/-- … that ends in one way. -/
theorem loopF1_ok {T : ShT D.ts × ShB D.bs → Tree (Ex × Option (ShT D.ts × ShB D.bs))} (hstep : ∀ x, roundOf C D body x = T x) {id : Nat} (stp : ShT D.ts × ShB D.bs → Ex × (ShT D.ts × ShB D.bs)) (μ : ShT D.ts × ShB D.bs → Nat) (hD : ∀ x, D.out x = out1 id (runF stp (μ x + 1) x))
    (he : ∀ x, (stp x).1 = .normal ∨ (stp x).1 = .exit id) (h : ∀ x, D.pre x → ((T x).holds fun p => p = ((stp x).1, some (stp x).2)) ∧ ((stp x).1 = .normal → D.pre (stp x).2 ∧ μ (stp x).2 < μ x)) : LoopOK C D.spec body :=
  loopF_ok hstep stp μ (out1 id) hD (fun x _ hn G hG => by
    have h1 := (he x).resolve_left hn
    have e : stp x = (.exit id, (stp x).2) := Prod.ext h1 rfl
    rw [e]
    exact hG) h
theorem loopF2_ok {T : ShT D.ts × ShB D.bs → Tree (Ex × Option (ShT D.ts × ShB D.bs))} (hstep : ∀ x, roundOf C D body x = T x) {id : Nat} (stp : ShT D.ts × ShB D.bs → Ex × (ShT D.ts × ShB D.bs)) (μ : ShT D.ts × ShB D.bs → Nat) (hD : ∀ x, D.out x = out2 id (runF stp (μ x + 1) x))
    (he : ∀ x, (stp x).1 = .normal ∨ (stp x).1 = .exit id ∨ (stp x).1 = .ret) (h : ∀ x, D.pre x → ((T x).holds fun p => p = ((stp x).1, some (stp x).2)) ∧ ((stp x).1 = .normal → D.pre (stp x).2 ∧ μ (stp x).2 < μ x)) : LoopOK C D.spec body :=
  loopF_ok hstep stp μ (out2 id) hD (fun x _ hn G hG => by
    rcases (he x).resolve_left hn with h1 | h1
    · have e : stp x = (.exit id, (stp x).2) := Prod.ext h1 rfl
      rw [e] at hG ⊢
      exact hG.2 rfl
    · have e : stp x = (.ret, (stp x).2) := Prod.ext h1 rfl
      rw [e] at hG ⊢
      exact hG.1 rfl) h
end
end Go.Ev
/- The document's list of items, in bytes. -/
set_option linter.unusedVariables false
set_option linter.unusedSimpArgs false
namespace Go.Ev
abbrev AlS := (List UInt8 × Int × List UInt8 × List DItem × Int × Int × Unit) × Unit
def alStp : AlS → Ex × AlS
  | ((a, b, o, l, n, i, _), _) => bif decide (i < n) then
      bif (itemF (l.getD i.toNat (0, 0, 0, 0))).2 != (0 : Int) then (.ret, (([], (itemF (l.getD i.toNat (0, 0, 0, 0))).2, o, l, n, i, ()), ()))
      else bif decide (i ≥ (48 : Int)) then (.ret, (([], 4, o, l, n, i, ()), ()))
      else (.normal, ((a, b, o ++ (itemF (l.getD i.toNat (0, 0, 0, 0))).1, l, n, i + 1, ()), ()))
    else (.exit 0, ((a, b, o, l, n, i, ()), ()))
def alMu (x : AlS) : Nat := (x.1.2.2.2.2.1 - x.1.2.2.2.2.2.1).toNat
def alPre (x : AlS) : Prop := 0 ≤ x.1.2.2.2.2.2.1 ∧ x.1.2.2.2.2.2.1 ≤ x.1.2.2.2.2.1 ∧ x.1.2.2.2.2.1 = x.1.2.2.2.1.length ∧ x.1.2.2.2.2.2.1 ≤ 48 ∧ (x.1.2.2.1.length : Int) ≤ 6 * x.1.2.2.2.2.2.1
theorem alStp_ends (x : AlS) : (alStp x).1 = .normal ∨ (alStp x).1 = .exit 0 ∨ (alStp x).1 = .ret := by
  obtain ⟨⟨a, b, o, l, n, i, ⟨⟩⟩, ⟨⟩⟩ := x
  unfold alStp
  simp only
  cases decide (i < n) <;> cases (itemF (l.getD i.toNat (0, 0, 0, 0))).2 != (0 : Int) <;> cases decide (i ≥ (48 : Int)) <;> simp
theorem al_go {x : AlS} (hp : alPre x) (h : (alStp x).1 = .normal) : alPre (alStp x).2 ∧ alMu (alStp x).2 < alMu x := by
  obtain ⟨⟨a, b, o, l, n, i, ⟨⟩⟩, ⟨⟩⟩ := x
  obtain ⟨h1, h2, h3, h4, h5⟩ := hp
  simp only at h1 h2 h3 h4 h5
  unfold alStp at h ⊢
  simp only at h ⊢
  cases hl : decide (i < n) with
  | false => rw [hl] at h; cases h
  | true =>
    have hlt := of_decide_eq_true hl
    rw [hl] at h
    simp only [cond_true] at h ⊢
    cases he : (itemF (l.getD i.toNat (0, 0, 0, 0))).2 != (0 : Int) with
    | true => rw [he] at h; cases h
    | false =>
      rw [he] at h
      simp only [cond_false] at h ⊢
      cases h48 : decide (i ≥ (48 : Int)) with
      | true => rw [h48] at h; cases h
      | false =>
        have hi := of_decide_eq_false h48
        have hb := itemF_len (l.getD i.toNat (0, 0, 0, 0))
        refine ⟨⟨?_, ?_, h3, ?_, ?_⟩, ?_⟩
        · show 0 ≤ i + 1; omega
        · show i + 1 ≤ n; omega
        · show i + 1 ≤ 48; omega
        · show ((o ++ (itemF (l.getD i.toNat (0, 0, 0, 0))).1).length : Int) ≤ 6 * (i + 1)
          rw [List.length_append]; omega
        · show (n - (i + 1)).toNat < (n - i).toNat; omega
theorem als_all : ∀ (k : Nat) (x : AlS), alPre x → alMu x < k → (isRet (runF alStp k x).1 = true → ((runF alStp k x).2.1.1, (runF alStp k x).2.1.2.1) = allG x.1.2.2.1 x.1.2.2.2.2.2.1.toNat (x.1.2.2.2.1.drop x.1.2.2.2.2.2.1.toNat)) ∧ (isRet (runF alStp k x).1 = false → ((runF alStp k x).2.1.2.2.1, (0 : Int)) = allG x.1.2.2.1 x.1.2.2.2.2.2.1.toNat (x.1.2.2.2.1.drop x.1.2.2.2.2.2.1.toNat))
  | 0, _, _, h => by omega
  | k + 1, x, hp, hk => by
    by_cases hn : (alStp x).1 = .normal
    · obtain ⟨g1, g2⟩ := al_go hp hn
      have e : alStp x = (.normal, (alStp x).2) := Prod.ext hn rfl
      rw [runF_go e]
      have ih := als_all k _ g1 (by omega)
      have hx : allG x.1.2.2.1 x.1.2.2.2.2.2.1.toNat (x.1.2.2.2.1.drop x.1.2.2.2.2.2.1.toNat) = allG (alStp x).2.1.2.2.1 (alStp x).2.1.2.2.2.2.2.1.toNat ((alStp x).2.1.2.2.2.1.drop (alStp x).2.1.2.2.2.2.2.1.toNat) := by
        obtain ⟨⟨a, b, o, l, n, i, ⟨⟩⟩, ⟨⟩⟩ := x
        obtain ⟨h1, h2, h3, h4, h5⟩ := hp
        simp only at h1 h2 h3 h4 h5
        unfold alStp at hn ⊢
        simp only at hn ⊢
        cases hl : decide (i < n) with
        | false => rw [hl] at hn; cases hn
        | true =>
          have hlt := of_decide_eq_true hl
          rw [hl] at hn
          simp only [cond_true] at hn ⊢
          cases he : (itemF (l.getD i.toNat (0, 0, 0, 0))).2 != (0 : Int) with
          | true => rw [he] at hn; cases hn
          | false =>
            rw [he] at hn
            simp only [cond_false] at hn ⊢
            cases h48 : decide (i ≥ (48 : Int)) with
            | true => rw [h48] at hn; cases hn
            | false =>
              simp only [cond_false]
              have hi := of_decide_eq_false h48
              rw [drop_item h1 (by omega), allG, he, show (i + 1).toNat = i.toNat + 1 by omega]
              simp only [cond_false]
              rw [decide_eq_false (by omega)]
              rfl
      rw [hx]
      exact ih
    · rw [runF_end hn]
      obtain ⟨⟨a, b, o, l, n, i, ⟨⟩⟩, ⟨⟩⟩ := x
      obtain ⟨h1, h2, h3, h4, h5⟩ := hp
      simp only at h1 h2 h3 h4 h5
      unfold alStp at hn ⊢
      simp only at hn ⊢
      cases hl : decide (i < n) with
      | false =>
        have hge := of_decide_eq_false hl
        simp only [cond_false]
        refine ⟨nofun, fun _ => ?_⟩
        rw [List.drop_eq_nil_of_le (by omega)]
        rfl
      | true =>
        have hlt := of_decide_eq_true hl
        rw [hl] at hn
        simp only [cond_true] at hn ⊢
        rw [drop_item h1 (by omega), allG]
        cases he : (itemF (l.getD i.toNat (0, 0, 0, 0))).2 != (0 : Int) with
        | true => exact ⟨fun _ => rfl, nofun⟩
        | false =>
          rw [he] at hn
          simp only [cond_false] at hn ⊢
          cases h48 : decide (i ≥ (48 : Int)) with
          | false => rw [h48] at hn; exact absurd rfl hn
          | true =>
            have hi := of_decide_eq_true h48
            rw [decide_eq_true (by omega)]
            exact ⟨fun _ => rfl, nofun⟩
end Go.Ev
/- A parcel read: what comes of it. -/
set_option linter.unusedVariables false
set_option linter.unusedSimpArgs false
namespace Go.Ev
def midF (x : List UInt8) : DPair × List UInt8 × Int := readF ((x.take 19).drop 1)
def pmkF (x : List UInt8) : DParcel :=
  (IntKind.wrap IntKind.i64 (UInt8.toNat (x.getD 0 0) : Int), (midF x).1, IntKind.wrap IntKind.i64 (Int.tdiv (IntKind.wrap IntKind.i64 (UInt8.toNat ((midF x).2.1.getD 0 0) : Int)) 16), Int.tmod (IntKind.wrap IntKind.i64 (UInt8.toNat ((midF x).2.1.getD 0 0) : Int)) 16, IntKind.wrap IntKind.i64 (UInt8.toNat ((midF x).2.1.getD 1 0) : Int), (unblobF (x.drop 19)).1)
def pbadF (x : List UInt8) : Bool := bif (bif decide (((unblobF (x.drop 19)).2.1.length : Int) > 0) then (3 : Int) else 0) != (0 : Int) then true else !prightF (pmkF x)
def preadF (x : List UInt8) : DParcel × Int :=
  bif decide ((x.length : Int) < 20) then (parcel0, 2) else bif (unblobF (x.drop 19)).2.2 != (0 : Int) then (parcel0, (unblobF (x.drop 19)).2.2) else bif pbadF x then (parcel0, 3) else (pmkF x, 0)
theorem mid_in {x : List UInt8} (h : 20 ≤ x.length) : (midF x).2.2 = 0 ∧ (midF x).2.1.length = 2 := by
  unfold midF readF
  have hl : ((x.take 19).drop 1).length = 18 := by rw [List.length_drop, List.length_take]; omega
  rw [hl, decide_eq_false (by omega)]
  simp only [cond_false]
  exact ⟨trivial, by rw [List.length_drop, hl]⟩
end Go.Ev
/- A parcel in bytes, read back. -/
set_option linter.unusedVariables false
set_option linter.unusedSimpArgs false
namespace Go.Ev
theorem num_one {n : Int} (h0 : 0 ≤ n) (h1 : n < 256) : numF n 1 = [UInt8.ofNat n.toNat] := by
  show numB 1 n.toNat = _
  simp only [numB, List.nil_append]
  rw [Nat.mod_eq_of_lt (by omega)]
theorem byte_of {n : Int} (h0 : 0 ≤ n) (h1 : n < 256) : ((UInt8.ofNat n.toNat).toNat : Int) = n := by
  rw [UInt8.toNat_ofNat', Nat.mod_eq_of_lt (by omega)]
  omega
theorem pright_in {p : DParcel} (h : prightF p = true) : (0 ≤ p.1 ∧ p.1 < 16) ∧ (0 ≤ p.2.2.1 ∧ p.2.2.1 < 16) ∧ (0 ≤ p.2.2.2.1 ∧ p.2.2.2.1 < 16) ∧ (1 ≤ p.2.2.2.2.1 ∧ p.2.2.2.2.1 ≤ 64) ∧ p.2.2.2.2.2.length ≤ 64 := by
  have hb := pright_body h
  unfold prightF at h
  cases h1 : rightF p.1 with
  | false => rw [h1] at h; cases h
  | true =>
    cases h2 : rightF p.2.2.1 with
    | false => rw [h1, h2] at h; cases h
    | true =>
      cases h3 : rightF p.2.2.2.1 with
      | false => rw [h1, h2, h3] at h; cases h
      | true =>
        by_cases h4 : p.2.2.2.2.1 ≥ 1
        · by_cases h5 : p.2.2.2.2.1 ≤ 64
          · exact ⟨rightF_iff.1 h1, rightF_iff.1 h2, rightF_iff.1 h3, ⟨h4, h5⟩, hb⟩
          · rw [h1, h2, h3, decide_eq_true h4, decide_eq_false h5] at h; cases h
        · rw [h1, h2, h3, decide_eq_false h4] at h; cases h
theorem parcel_parts {p : DParcel} (h : prightF p = true) : parcelB p = UInt8.ofNat p.1.toNat :: (pairB p.2.1 ++ (UInt8.ofNat (16 * p.2.2.1 + p.2.2.2.1).toNat :: UInt8.ofNat p.2.2.2.2.1.toNat :: UInt8.ofNat p.2.2.2.2.2.length :: p.2.2.2.2.2)) := by
  obtain ⟨h1, h2, h3, h4, h5⟩ := pright_in h
  have e : endsF p = 16 * p.2.2.1 + p.2.2.2.1 := by
    unfold endsF
    rw [show IntKind.wrap IntKind.i64 (16 * p.2.2.1) = 16 * p.2.2.1 from i64_id (by omega) (by omega), show IntKind.wrap IntKind.i64 (16 * p.2.2.1 + p.2.2.2.1) = 16 * p.2.2.1 + p.2.2.2.1 from i64_id (by omega) (by omega)]
    exact u64_id (by omega) (by omega)
  unfold parcelB
  rw [e, u64_id h1.1 (by omega), u64_id (n := p.2.2.2.2.1) (by omega) (by omega), num_one h1.1 (by omega), num_one (n := 16 * p.2.2.1 + p.2.2.2.1) (by omega) (by omega), num_one (n := p.2.2.2.2.1) (by omega) (by omega), num_one (n := (p.2.2.2.2.2.length : Int)) (by omega) (by omega), Int.toNat_natCast]
  simp
theorem parcel_back {p : DParcel} (hw : wt gPair p.2.1) (h : prightF p = true) : preadF (parcelB p) = (p, 0) := by
  obtain ⟨h1, h2, h3, h4, h5⟩ := pright_in h
  have hx := parcel_parts h
  have hpl : (pairB p.2.1).length = 16 := pairB_len _
  generalize hb : UInt8.ofNat (16 * p.2.2.1 + p.2.2.2.1).toNat = b at hx
  generalize hc : UInt8.ofNat p.2.2.2.2.1.toNat = c at hx
  generalize hd : UInt8.ofNat p.2.2.2.2.2.length = d at hx
  generalize ha : UInt8.ofNat p.1.toNat = a at hx
  have va : ((a.toNat : Nat) : Int) = p.1 := by rw [← ha]; exact byte_of h1.1 (by omega)
  have vb : ((b.toNat : Nat) : Int) = 16 * p.2.2.1 + p.2.2.2.1 := by rw [← hb]; exact byte_of (by omega) (by omega)
  have vc : ((c.toNat : Nat) : Int) = p.2.2.2.2.1 := by rw [← hc]; exact byte_of (by omega) (by omega)
  have vd : d.toNat = p.2.2.2.2.2.length := by rw [← hd, UInt8.toNat_ofNat', Nat.mod_eq_of_lt (by omega)]
  rw [hx]
  have t19 : ((a :: (pairB p.2.1 ++ (b :: c :: d :: p.2.2.2.2.2))).take 19).drop 1 = pairB p.2.1 ++ [b, c] := by
    rw [List.take_succ_cons, List.drop_succ_cons, List.drop_zero, List.take_append, hpl, List.take_of_length_le (by omega)]
    rfl
  have d19 : (a :: (pairB p.2.1 ++ (b :: c :: d :: p.2.2.2.2.2))).drop 19 = d :: p.2.2.2.2.2 := by
    rw [List.drop_succ_cons, List.drop_append, hpl, List.drop_eq_nil_of_le (by omega)]
    rfl
  have hmid : midF (a :: (pairB p.2.1 ++ (b :: c :: d :: p.2.2.2.2.2))) = (p.2.1, [b, c], 0) := by
    unfold midF
    rw [t19]
    exact read_pair hw [b, c]
  have hun : unblobF (d :: p.2.2.2.2.2) = (p.2.2.2.2.2, [], 0) := by
    have hbig : bigN [d] = p.2.2.2.2.2.length := by simp [bigN]; exact vd
    unfold unblobF
    rw [decide_eq_false (by simp only [List.length_cons]; omega)]
    simp only [cond_false, List.drop_succ_cons, List.drop_zero, List.take_succ_cons, List.take_zero]
    rw [hbig, decide_eq_false (by omega)]
    simp
  have hmk : pmkF (a :: (pairB p.2.1 ++ (b :: c :: d :: p.2.2.2.2.2))) = p := by
    unfold pmkF
    rw [hmid, d19, hun]
    simp only [List.getD_cons_zero, List.getD_cons_succ]
    rw [va, vb, vc, i64_id (n := p.1) (by omega) (by omega), i64_id (n := 16 * p.2.2.1 + p.2.2.2.1) (by omega) (by omega), i64_id (n := p.2.2.2.2.1) (by omega) (by omega), Int.tdiv_eq_ediv_of_nonneg (by omega), Int.tmod_eq_emod_of_nonneg (by omega), show (16 * p.2.2.1 + p.2.2.2.1) / 16 = p.2.2.1 by omega, show (16 * p.2.2.1 + p.2.2.2.1) % 16 = p.2.2.2.1 by omega, i64_id (n := p.2.2.1) (by omega) (by omega)]
  unfold preadF pbadF
  rw [d19, hun, hmk, h]
  have hlen : ¬ ((a :: (pairB p.2.1 ++ (b :: c :: d :: p.2.2.2.2.2))).length : Int) < 20 := by
    simp only [List.length_cons, List.length_append]; omega
  rw [decide_eq_false hlen]
  rfl
end Go.Ev
/- Equality of values, told as equality. -/
set_option linter.unusedVariables false
namespace Go.Ev
theorem geq_go_self {α : Type} {f : α → α → Bool} (h : ∀ x, f x x = true) : ∀ l : List α, geq.go f l l = true
  | [] => rfl
  | x :: l => by rw [geq_go_cons, h, geq_go_self h l]; rfl
theorem geq_self : ∀ (g : GTy) (x : den g), cmp g = true → geq g x x = true
  | .bool, x, _ => by simp [geq]
  | .int _, x, _ => by simp [geq]
  | .str, x, _ => by simp [geq]
  | .unit, _, _ => rfl
  | .prod a b, x, h => by
    have h' : (cmp a && cmp b) = true := h
    rw [Bool.and_eq_true] at h'
    show (geq a x.1 x.1 && geq b x.2 x.2) = true
    rw [geq_self a _ h'.1, geq_self b _ h'.2]; rfl
  | .arr n a, x, h => geq_go_self (fun y => geq_self a y h) x
  | .sl _, _, h => by cases h
  | .err, _, h => by cases h
theorem geq_go_eq {α : Type} {f : α → α → Bool} {p : α → Prop} (h : ∀ x y, p x → p y → f x y = true → x = y) :
    ∀ l m : List α, l.length = m.length → (∀ x ∈ l, p x) → (∀ x ∈ m, p x) → geq.go f l m = true → l = m
  | [], [], _, _, _, _ => rfl
  | [], _ :: _, e, _, _, _ => by cases e
  | _ :: _, [], e, _, _, _ => by cases e
  | x :: l, y :: m, e, hl, hm, g => by
    rw [geq_go_cons, Bool.and_eq_true] at g
    rw [h x y (hl x (List.mem_cons_self ..)) (hm y (List.mem_cons_self ..)) g.1,
      geq_go_eq h l m (by simpa using e) (fun z hz => hl z (List.mem_cons_of_mem _ hz)) (fun z hz => hm z (List.mem_cons_of_mem _ hz)) g.2]
theorem geq_eq : ∀ (g : GTy) (x y : den g), cmp g = true → wt g x → wt g y → geq g x y = true → x = y
  | .bool, x, y, _, _, _, h => by simpa [geq] using h
  | .int _, x, y, _, _, _, h => by simpa [geq] using h
  | .str, x, y, _, _, _, h => by simpa [geq] using h
  | .unit, _, _, _, _, _, _ => rfl
  | .prod a b, x, y, c, hx, hy, h => by
    have c' : (cmp a && cmp b) = true := c
    rw [Bool.and_eq_true] at c'
    have h' : (geq a x.1 y.1 && geq b x.2 y.2) = true := h
    rw [Bool.and_eq_true] at h'
    exact Prod.ext (geq_eq a _ _ c'.1 hx.1 hy.1 h'.1) (geq_eq b _ _ c'.2 hx.2 hy.2 h'.2)
  | .arr n a, x, y, c, hx, hy, h => geq_go_eq (p := wt a) (fun u v hu hv g => geq_eq a u v c hu hv g) x y (hx.1.trans hy.1.symm) hx.2 hy.2 h
  | .sl _, _, _, c, _, _, _ => by cases c
  | .err, _, _, c, _, _, _ => by cases c
end Go.Ev
