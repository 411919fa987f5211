/- All comes: the region in which a frame is lost. -/
import Derived.Test.YtohodbfoeejbjaaTextMrlCarries10

set_option linter.unusedVariables false
set_option linter.unusedSimpArgs false
namespace Go.Ev.P
open Go.Proofs Go.Conc
def wX (b : Bool) (d : Nat) (v : Value) : List (Nat × Value) := match b with | true => [(d, v)] | false => []
theorem mem_wX {p : Nat × Value} {b : Bool} {d : Nat} {v : Value} : p ∈ wX b d v ↔ b = true ∧ p = (d, v) := by cases b <;> simp [wX]
def wSl (vw : Value) (n : Int) (p1 p2 q5 q6 q7 : Bool) : List (Nat × Value) := (10, vw) :: (19, .int .i64 n) :: (wX p1 157 vw ++ (wX p2 158 (.int .i64 n) ++ (wX q5 161 vw ++ (wX q6 162 (.int .i64 n) ++ wX q7 163 (.int .i64 (IntKind.i64.wrap (n + 1)))))))
theorem mem_wSl {vw : Value} {n : Int} {p1 p2 q5 q6 q7 : Bool} {p : Nat × Value} : p ∈ wSl vw n p1 p2 q5 q6 q7 ↔ p = (10, vw) ∨ p = (19, .int .i64 n) ∨ (p1 = true ∧ p = (157, vw)) ∨ (p2 = true ∧ p = (158, .int .i64 n)) ∨ (q5 = true ∧ p = (161, vw)) ∨ (q6 = true ∧ p = (162, .int .i64 n)) ∨ (q7 = true ∧ p = (163, .int .i64 (IntKind.i64.wrap (n + 1)))) := by
  unfold wSl
  simp only [List.mem_cons, List.mem_append, mem_wX]
theorem wSl_ne {vw : Value} {n : Int} {p1 p2 q5 q6 q7 : Bool} {d : Nat} (h1 : d ≠ 10) (h2 : d ≠ 19) (h3 : p1 = true → d ≠ 157) (h4 : p2 = true → d ≠ 158) (h5 : q5 = true → d ≠ 161) (h6 : q6 = true → d ≠ 162) (h7 : q7 = true → d ≠ 163) : ∀ p ∈ wSl vw n p1 p2 q5 q6 q7, p.1 ≠ d := by
  intro p hp
  rw [mem_wSl] at hp
  rcases hp with rfl | rfl | ⟨h, rfl⟩ | ⟨h, rfl⟩ | ⟨h, rfl⟩ | ⟨h, rfl⟩ | ⟨h, rfl⟩
  · exact fun e => h1 e.symm
  · exact fun e => h2 e.symm
  · exact fun e => h3 h e.symm
  · exact fun e => h4 h e.symm
  · exact fun e => h5 h e.symm
  · exact fun e => h6 h e.symm
  · exact fun e => h7 h e.symm
theorem wSl_in {vw : Value} {n : Int} {p1 p2 q5 q6 q7 : Bool} {l : List (Nat × Value)} (h1 : (10, vw) ∈ l) (h2 : (19, Value.int .i64 n) ∈ l) (h3 : p1 = true → (157, vw) ∈ l) (h4 : p2 = true → (158, Value.int .i64 n) ∈ l) (h5 : q5 = true → (161, vw) ∈ l) (h6 : q6 = true → (162, Value.int .i64 n) ∈ l) (h7 : q7 = true → (163, Value.int .i64 (IntKind.i64.wrap (n + 1))) ∈ l) : ∀ p ∈ wSl vw n p1 p2 q5 q6 q7, p ∈ l := by
  intro p hp
  rw [mem_wSl] at hp
  rcases hp with rfl | rfl | ⟨h, rfl⟩ | ⟨h, rfl⟩ | ⟨h, rfl⟩ | ⟨h, rfl⟩ | ⟨h, rfl⟩
  · exact h1
  · exact h2
  · exact h3 h
  · exact h4 h
  · exact h5 h
  · exact h6 h
  · exact h7 h
theorem rel_i64 {n : Int} (hn : IntKind.i64.has n) (M : Mem) : RelV M (.val (.int .i64) n) (.int .i64 n) := by
  simp only [RelV]
  exact ⟨[.int .i64 n], ⟨rfl, hn⟩, rfl⟩
theorem w_ready : ∀ (c : Nat), c ≤ 4 → ∀ (p1 p2 q5 q6 q7 q8 : Bool), Region.ready .any (rOps (mcW 0)) (wA c p1 p2 q5 q6 q7 q8) = wN c p1 p2 q5 q6 q7 q8
  | 0, _ => w_ready_0
  | 1, _ => w_ready_1
  | 2, _ => w_ready_2
  | 3, _ => w_ready_3
  | 4, _ => w_ready_4
  | c + 5, h => by omega
theorem w_e8 (x : McW) : ∀ (c : Nat), c ≤ 4 → opEff tys (fun f => lk f []) ((wOp 8).dst.getD 0) (wOp 8) ((wS8 x c).args (wOp 8)) = some (wE8 x)
  | 0, _ => w_e8_0 x
  | 1, _ => w_e8_1 x
  | 2, _ => w_e8_2 x
  | 3, _ => w_e8_3 x
  | 4, _ => w_e8_4 x
  | c + 5, h => by omega
theorem w_r8 (x : McW) : ∀ (c : Nat), c ≤ 4 → restrict (wKeep c true) ((wS8 x c).after (wOp 8) (wE8 x)) = some (wS x c true)
  | 0, _ => w_r8_0 x
  | 1, _ => w_r8_1 x
  | 2, _ => w_r8_2 x
  | 3, _ => w_r8_3 x
  | 4, _ => w_r8_4 x
  | c + 5, h => by omega
theorem w_r0 (x : McW) : ∀ (c : Nat) (q8 : Bool), c = 0 ∨ c = 2 → restrict (wKeep (c + 1) q8) ((wS x c q8).after (wOp 0) wE0) = some (wS x (c + 1) q8)
  | 0, false, _ => w_r0_0_false x
  | 0, true, _ => w_r0_0_true x
  | 2, false, _ => w_r0_2_false x
  | 2, true, _ => w_r0_2_true x
  | 1, _, h => by omega
  | c + 3, _, h => by omega
theorem w_e3 (x : McW) : ∀ (c : Nat) (q8 : Bool), c = 0 ∨ c = 1 → opEff tys (fun f => lk f []) ((wOp 3).dst.getD 0) (wOp 3) ((wS3 x c q8).args (wOp 3)) = some (wE3 x)
  | 0, false, _ => w_e3_0_false x
  | 0, true, _ => w_e3_0_true x
  | 1, false, _ => w_e3_1_false x
  | 1, true, _ => w_e3_1_true x
  | c + 2, _, h => by omega
theorem w_r3 (x : McW) : ∀ (c : Nat) (q8 : Bool), c = 0 ∨ c = 1 → restrict (wKeep (c + 2) q8) ((wS3 x c q8).after (wOp 3) (wE3 x)) = some (wS x (c + 2) q8)
  | 0, false, _ => w_r3_0_false x
  | 0, true, _ => w_r3_0_true x
  | 1, false, _ => w_r3_1_false x
  | 1, true, _ => w_r3_1_true x
  | c + 2, _, h => by omega
theorem w_e4 (x : McW) : ∀ (q8 : Bool), opEff tys (fun f => lk f []) ((wOp 4).dst.getD 0) (wOp 4) ((wS x 3 q8).args (wOp 4)) = some (wE4 x)
  | false => w_e4_3_false x
  | true => w_e4_3_true x
theorem w_r4 (x : McW) : ∀ (q8 : Bool), restrict (wKeep 4 q8) ((wS x 3 q8).after (wOp 4) (wE4 x)) = some (wS x 4 q8)
  | false => w_r4_3_false x
  | true => w_r4_3_true x
theorem wA_0 (p1 p2 q5 q6 q7 q8 : Bool) : ∀ c, c = 0 ∨ c = 2 → (wA c p1 p2 q5 q6 q7 q8).setIfInBounds 0 true = wA (c + 1) p1 p2 q5 q6 q7 q8
  | 0, _ => rfl
  | 2, _ => rfl
  | 1, h => by omega
  | c + 3, h => by omega
theorem wA_3 (p1 p2 q5 q6 q7 q8 : Bool) : ∀ c, c = 0 ∨ c = 1 → (wA c p1 p2 q5 q6 q7 q8).setIfInBounds 3 true = wA (c + 2) p1 p2 q5 q6 q7 q8
  | 0, _ => rfl
  | 1, _ => rfl
  | c + 2, h => by omega
theorem wA_1 (p1 p2 q5 q6 q7 q8 : Bool) : ∀ c, c ≤ 4 → (wA c p1 p2 q5 q6 q7 q8).setIfInBounds 1 true = wA c true p2 q5 q6 q7 q8
  | 0, _ | 1, _ | 2, _ | 3, _ | 4, _ => rfl
  | c + 5, h => by omega
theorem wA_2 (p1 p2 q5 q6 q7 q8 : Bool) : ∀ c, c ≤ 4 → (wA c p1 p2 q5 q6 q7 q8).setIfInBounds 2 true = wA c p1 true q5 q6 q7 q8
  | 0, _ | 1, _ | 2, _ | 3, _ | 4, _ => rfl
  | c + 5, h => by omega
theorem wA_5 (p1 p2 q5 q6 q7 q8 : Bool) : ∀ c, c ≤ 4 → (wA c p1 p2 q5 q6 q7 q8).setIfInBounds 5 true = wA c p1 p2 true q6 q7 q8
  | 0, _ | 1, _ | 2, _ | 3, _ | 4, _ => rfl
  | c + 5, h => by omega
theorem wA_6 (p1 p2 q5 q6 q7 q8 : Bool) : ∀ c, c ≤ 4 → (wA c p1 p2 q5 q6 q7 q8).setIfInBounds 6 true = wA c p1 p2 q5 true q7 q8
  | 0, _ | 1, _ | 2, _ | 3, _ | 4, _ => rfl
  | c + 5, h => by omega
theorem wA_7 (p1 p2 q5 q6 q7 q8 : Bool) : ∀ c, c ≤ 4 → (wA c p1 p2 q5 q6 q7 q8).setIfInBounds 7 true = wA c p1 p2 q5 q6 true q8
  | 0, _ | 1, _ | 2, _ | 3, _ | 4, _ => rfl
  | c + 5, h => by omega
theorem wA_8 (p1 p2 q5 q6 q7 q8 : Bool) : ∀ c, c ≤ 4 → (wA c p1 p2 q5 q6 q7 q8).setIfInBounds 8 true = wA c p1 p2 q5 q6 q7 true
  | 0, _ | 1, _ | 2, _ | 3, _ | 4, _ => rfl
  | c + 5, h => by omega
attribute [local irreducible] fnOf bodyOf
inductive WPhi (R0 : Ref) (W : Nat → Option Obj) (D : List Deferred) (x : McW) (vw : Value) : Array Bool → Act → World → Prop
  | mid (c : Nat) (p1 p2 q5 q6 q7 q8 : Bool) (a : Act) (w : World) (hc : c ≤ 4) (hp : 2 ≤ c → p1 = true ∧ p2 = true) (h7 : q7 = true → q6 = true) (h8 : q8 = true → q5 = true ∧ q7 = true) (h : Kd R0 (fun _ => False) W 280 (wSl vw (wK x) p1 p2 q5 q6 q7) (wS x c q8) a w D) : WPhi R0 W D x vw (wA c p1 p2 q5 q6 q7 q8) a w
  | nine (a : Act) (w : World) (h : Kd R0 (fun _ => False) W 280 [] (wS9 x) a w D) : WPhi R0 W D x vw #[true, true, true, true, true, true, true, true, true, true, false] a w
  | ten (a : Act) (w : World) (h : Kd R0 (fun _ => False) W 280 [] (wEnd x) a w D) : WPhi R0 W D x vw #[true, true, true, true, true, true, true, true, true, true, true] a w
theorem w_region {R0 : Ref} {b : Frame} {Q : Exit → Act → World → Prop} {W : Nat → Option Obj} {x : McW} {a : Act} {w : World} {D : List Deferred} (h0 : 0 ≤ wK x) (h1 : wK x < x.1.2.1.length) (hlen : x.1.2.1.length ≤ 100000)
    (h : Kd R0 (fun _ => False) W 280 [] (mkS (mcTw []) mcMw x) a w D) (hQ : ∀ a' w', Kd R0 (fun _ => False) W 280 [] (wEnd x) a' w' D → Q .normal a' w') : CodeTo Try.prog b (mcW 0) Q a w := by
  have hw1 : IntKind.i64.wrap (wK x + 1) = wK x + 1 := i64_id (by omega) (by omega)
  have hkr : IntKind.i64.has (wK x) := (has_i64 _).2 ⟨by omega, by omega⟩
  have hkr1 : IntKind.i64.has (IntKind.i64.wrap (wK x + 1)) := by rw [hw1]; exact (has_i64 _).2 ⟨by omega, by omega⟩
  rw [w_1]
  have k0 := h.drew.hold (t := 10)
  have e19 : a.tmps.getD 19 undef = .int .i64 (wK x) := known_i64 h.old rfl
  have k1 := k0.hold (t := 19)
  rw [e19] at k1
  generalize a.tmps.getD 10 undef = vw at k1
  have k2 : Kd R0 (fun _ => False) W 280 (wSl vw (wK x) false false false false false) (wS x 0 false) a w.drew D := k1.less (wSl_in (by simp) (by simp) (fun h => by cases h) (fun h => by cases h) (fun h => by cases h) (fun h => by cases h) (fun h => by cases h))
  refine CodeTo.of_wp (region_any mixed (WPhi R0 W D x vw) ?_ ?_ ?_)
  · have e : Array.replicate (rOps (mcW 0)).size false = wA 0 false false false false false false := by kernel_rfl
    rw [e]
    exact .mid 0 false false false false false false a w.drew (by omega) (fun h => by omega) (fun h => by cases h) (fun h => by cases h) k2
  · intro listed a w i o hs hΦ hr ho
    cases hΦ with
    | nine a w h =>
      rw [w_ready_nine] at hr
      have hi : i = 10 := by simpa using hr
      subst hi
      have ho' : (rOps (mcW 0))[10]? = some (wOp 10) := by kernel_rfl
      have e : o = wOp 10 := Option.some.inj (ho.symm.trans ho')
      subst e
      refine ⟨by kernel_rfl, h.opw (C := mkC tys [] []) tysOK ctrs_nil (w_e10 x) (fun p hp => by cases hp) (fun k hk => ?_) fun a' w' h' => ?_⟩
      · rw [show (wOp 10).dst = some 10 by kernel_rfl] at hk
        cases hk
        exact ⟨(show (10 : Nat) < 280 by decide), fun p hp => by cases hp⟩
      · exact .ten a' w' (h'.restr (w_r10 x))
    | ten a w h =>
      rw [w_ready_ten] at hr
      cases hr
    | mid c p1 p2 q5 q6 q7 q8 a w hc hp h7 h8 h =>
      have s10 : a.tmps.getD 10 undef = vw := h.slots (10, vw) (mem_wSl.2 (.inl rfl))
      have s19 : a.tmps.getD 19 undef = .int .i64 (wK x) := h.slots (19, .int .i64 (wK x)) (mem_wSl.2 (.inr (.inl rfl)))
      obtain ⟨u157, u158, u161, u162⟩ := w_undef x c q8 hc
      obtain ⟨l10, l19⟩ := w_10 x c q8 hc
      rw [w_ready c hc] at hr
      unfold wN at hr
      simp only [List.mem_append, mem_nx, Bool.or_eq_true, Bool.and_eq_true, Bool.not_eq_true', Nat.beq_eq] at hr
      have in10 : ∀ {p1 p2 q5 q6 q7 : Bool}, (10, vw) ∈ wSl vw (wK x) p1 p2 q5 q6 q7 := mem_wSl.2 (.inl rfl)
      have in19 : ∀ {p1 p2 q5 q6 q7 : Bool}, (19, Value.int .i64 (wK x)) ∈ wSl vw (wK x) p1 p2 q5 q6 q7 := mem_wSl.2 (.inr (.inl rfl))
      have in157 : ∀ {p1 p2 q5 q6 q7 : Bool}, p1 = true → (157, vw) ∈ wSl vw (wK x) p1 p2 q5 q6 q7 := fun h => mem_wSl.2 (.inr (.inr (.inl ⟨h, rfl⟩)))
      have in158 : ∀ {p1 p2 q5 q6 q7 : Bool}, p2 = true → (158, Value.int .i64 (wK x)) ∈ wSl vw (wK x) p1 p2 q5 q6 q7 := fun h => mem_wSl.2 (.inr (.inr (.inr (.inl ⟨h, rfl⟩))))
      have in161 : ∀ {p1 p2 q5 q6 q7 : Bool}, q5 = true → (161, vw) ∈ wSl vw (wK x) p1 p2 q5 q6 q7 := fun h => mem_wSl.2 (.inr (.inr (.inr (.inr (.inl ⟨h, rfl⟩)))))
      have in162 : ∀ {p1 p2 q5 q6 q7 : Bool}, q6 = true → (162, Value.int .i64 (wK x)) ∈ wSl vw (wK x) p1 p2 q5 q6 q7 := fun h => mem_wSl.2 (.inr (.inr (.inr (.inr (.inr (.inl ⟨h, rfl⟩))))))
      have in163 : ∀ {p1 p2 q5 q6 q7 : Bool}, q7 = true → (163, Value.int .i64 (IntKind.i64.wrap (wK x + 1))) ∈ wSl vw (wK x) p1 p2 q5 q6 q7 := fun h => mem_wSl.2 (.inr (.inr (.inr (.inr (.inr (.inr ⟨h, rfl⟩))))))
      rcases hr with ⟨g, rfl⟩ | ⟨g, rfl⟩ | ⟨g, rfl⟩ | ⟨⟨⟨g, g1⟩, g2⟩, rfl⟩ | ⟨g, rfl⟩ | ⟨g, rfl⟩ | ⟨g, rfl⟩ | ⟨⟨g, g1⟩, rfl⟩ | ⟨⟨⟨g, g1⟩, g2⟩, rfl⟩ | ⟨⟨g, g1⟩, rfl⟩
      · have ho' : (rOps (mcW 0))[0]? = some (wOp 0) := by kernel_rfl
        have e : o = wOp 0 := Option.some.inj (ho.symm.trans ho')
        subst e
        refine ⟨by kernel_rfl, h.opw (C := mkC tys [] []) tysOK ctrs_nil (w_e0 _) (fun p hp => by cases hp) (fun k hk => ?_) fun a' w' h' => ?_⟩
        · rw [show (wOp 0).dst = some 156 by kernel_rfl] at hk
          cases hk
          exact ⟨(show (156 : Nat) < 280 by decide), wSl_ne (d := 156) (by decide) (by decide) (fun _ => by decide) (fun _ => by decide) (fun _ => by decide) (fun _ => by decide) (fun _ => by decide)⟩
        · rw [wA_0 _ _ _ _ _ _ c g]
          exact .mid (c + 1) p1 p2 q5 q6 q7 q8 a' w' (by omega) (fun hh => hp (by omega)) h7 h8 (h'.restr (w_r0 x c q8 g))
      · have ho' : (rOps (mcW 0))[1]? = some (wOp 1) := by kernel_rfl
        have e : o = wOp 1 := Option.some.inj (ho.symm.trans ho')
        subst e
        subst g
        have hrun : (execOp a.eval (wOp 1)).run Try.prog w = .ok (.value (vw)) w := by
          have := run_move (P := Try.prog) (ρ := a.eval) (o := wOp 1) (x := .tmp 10) (w := w) (.inl (by kernel_rfl))
          rw [show a.eval (.tmp 10) = vw from s10] at this
          exact this
        refine ⟨by kernel_rfl, op_value hrun ?_⟩
        rw [show (wOp 1).dst = some 157 by kernel_rfl, wA_1 _ _ _ _ _ _ c hc]
        have k3 := h.keep (k := 157) (v := vw) u157 (by omega) (wSl_ne (by omega) (by omega) (fun h => by cases h) (fun _ => by omega) (fun _ => by omega) (fun _ => by omega) (fun _ => by omega))
        exact .mid c true p2 q5 q6 q7 q8 _ w hc (fun hh => ⟨rfl, (hp hh).2⟩) h7 h8 (k3.less (wSl_in (List.mem_cons_of_mem _ in10) (List.mem_cons_of_mem _ in19) (fun _ => List.mem_cons_self ..) (fun h => List.mem_cons_of_mem _ (in158 h)) (fun h => List.mem_cons_of_mem _ (in161 h)) (fun h => List.mem_cons_of_mem _ (in162 h)) (fun h => List.mem_cons_of_mem _ (in163 h))))
      · have ho' : (rOps (mcW 0))[2]? = some (wOp 2) := by kernel_rfl
        have e : o = wOp 2 := Option.some.inj (ho.symm.trans ho')
        subst e
        subst g
        have hrun : (execOp a.eval (wOp 2)).run Try.prog w = .ok (.value (.int .i64 (wK x))) w := by
          have := run_move (P := Try.prog) (ρ := a.eval) (o := wOp 2) (x := .tmp 19) (w := w) (.inl (by kernel_rfl))
          rw [show a.eval (.tmp 19) = .int .i64 (wK x) from s19] at this
          exact this
        refine ⟨by kernel_rfl, op_value hrun ?_⟩
        rw [show (wOp 2).dst = some 158 by kernel_rfl, wA_2 _ _ _ _ _ _ c hc]
        have k3 := h.keep (k := 158) (v := .int .i64 (wK x)) u158 (by omega) (wSl_ne (by omega) (by omega) (fun _ => by omega) (fun h => by cases h) (fun _ => by omega) (fun _ => by omega) (fun _ => by omega))
        exact .mid c p1 true q5 q6 q7 q8 _ w hc (fun hh => ⟨(hp hh).1, rfl⟩) h7 h8 (k3.less (wSl_in (List.mem_cons_of_mem _ in10) (List.mem_cons_of_mem _ in19) (fun h => List.mem_cons_of_mem _ (in157 h)) (fun _ => List.mem_cons_self ..) (fun h => List.mem_cons_of_mem _ (in161 h)) (fun h => List.mem_cons_of_mem _ (in162 h)) (fun h => List.mem_cons_of_mem _ (in163 h))))
      · have ho' : (rOps (mcW 0))[3]? = some (wOp 3) := by kernel_rfl
        have e : o = wOp 3 := Option.some.inj (ho.symm.trans ho')
        subst e
        have s157 : a.tmps.getD 157 undef = vw := h.slots (157, vw) (in157 g1)
        have s158 : a.tmps.getD 158 undef = .int .i64 (wK x) := h.slots (158, .int .i64 (wK x)) (in158 g2)
        have k3 := h.same (d := 157) (t := 10) (s157.trans s10.symm)
        rw [l10] at k3
        have k4 := k3.knows (d := 158) (v := .int .i64 (wK x)) (av := .val (.int .i64) (wK x)) s158 (rel_i64 hkr)
        refine ⟨by kernel_rfl, Kd.opw (C := mkC tys [] []) tysOK ctrs_nil (s := wS3 x c q8) k4 (w_e3 x c q8 g) (fun p hp => ?_) (fun k hk => ?_) fun a' w' h' => ?_⟩
        · cases hp
          exact ⟨h0, by omega⟩
        · rw [show (wOp 3).dst = some 159 by kernel_rfl] at hk
          cases hk
          exact ⟨(show (159 : Nat) < 280 by decide), wSl_ne (d := 159) (by decide) (by decide) (fun _ => by decide) (fun _ => by decide) (fun _ => by decide) (fun _ => by decide) (fun _ => by decide)⟩
        · rw [wA_3 _ _ _ _ _ _ c g]
          exact .mid (c + 2) p1 p2 q5 q6 q7 q8 a' w' (by omega) (fun _ => ⟨g1, g2⟩) h7 h8 (h'.restr (w_r3 x c q8 g))
      · have ho' : (rOps (mcW 0))[4]? = some (wOp 4) := by kernel_rfl
        have e : o = wOp 4 := Option.some.inj (ho.symm.trans ho')
        subst e
        subst g
        refine ⟨by kernel_rfl, h.opw (C := mkC tys [] []) tysOK ctrs_nil (w_e4 x q8) (fun p hp => ?_) (fun k hk => ?_) fun a' w' h' => ?_⟩
        · cases hp
          have : (wL x).length ≤ 100000 := by unfold wL; rw [List.length_take]; omega
          show (0 + (wL x).length) * 16 ≤ maxRow
          unfold maxRow
          omega
        · rw [show (wOp 4).dst = some 160 by kernel_rfl] at hk
          cases hk
          exact ⟨(show (160 : Nat) < 280 by decide), wSl_ne (d := 160) (by decide) (by decide) (fun _ => by decide) (fun _ => by decide) (fun _ => by decide) (fun _ => by decide) (fun _ => by decide)⟩
        · exact .mid 4 p1 p2 q5 q6 q7 q8 a' w' (by omega) (fun _ => hp (by omega)) h7 h8 (h'.restr (w_r4 x q8))
      · have ho' : (rOps (mcW 0))[5]? = some (wOp 5) := by kernel_rfl
        have e : o = wOp 5 := Option.some.inj (ho.symm.trans ho')
        subst e
        subst g
        have hrun : (execOp a.eval (wOp 5)).run Try.prog w = .ok (.value (vw)) w := by
          have := run_move (P := Try.prog) (ρ := a.eval) (o := wOp 5) (x := .tmp 10) (w := w) (.inl (by kernel_rfl))
          rw [show a.eval (.tmp 10) = vw from s10] at this
          exact this
        refine ⟨by kernel_rfl, op_value hrun ?_⟩
        rw [show (wOp 5).dst = some 161 by kernel_rfl, wA_5 _ _ _ _ _ _ c hc]
        have k3 := h.keep (k := 161) (v := vw) u161 (by omega) (wSl_ne (by omega) (by omega) (fun _ => by omega) (fun _ => by omega) (fun h => by cases h) (fun _ => by omega) (fun _ => by omega))
        exact .mid c p1 p2 true q6 q7 q8 _ w hc hp h7 (fun hh => ⟨rfl, (h8 hh).2⟩) (k3.less (wSl_in (List.mem_cons_of_mem _ in10) (List.mem_cons_of_mem _ in19) (fun h => List.mem_cons_of_mem _ (in157 h)) (fun h => List.mem_cons_of_mem _ (in158 h)) (fun _ => List.mem_cons_self ..) (fun h => List.mem_cons_of_mem _ (in162 h)) (fun h => List.mem_cons_of_mem _ (in163 h))))
      · have ho' : (rOps (mcW 0))[6]? = some (wOp 6) := by kernel_rfl
        have e : o = wOp 6 := Option.some.inj (ho.symm.trans ho')
        subst e
        subst g
        have hrun : (execOp a.eval (wOp 6)).run Try.prog w = .ok (.value (.int .i64 (wK x))) w := by
          have := run_move (P := Try.prog) (ρ := a.eval) (o := wOp 6) (x := .tmp 19) (w := w) (.inl (by kernel_rfl))
          rw [show a.eval (.tmp 19) = .int .i64 (wK x) from s19] at this
          exact this
        refine ⟨by kernel_rfl, op_value hrun ?_⟩
        rw [show (wOp 6).dst = some 162 by kernel_rfl, wA_6 _ _ _ _ _ _ c hc]
        have k3 := h.keep (k := 162) (v := .int .i64 (wK x)) u162 (by omega) (wSl_ne (by omega) (by omega) (fun _ => by omega) (fun _ => by omega) (fun _ => by omega) (fun h => by cases h) (fun _ => by omega))
        exact .mid c p1 p2 q5 true q7 q8 _ w hc hp (fun _ => rfl) h8 (k3.less (wSl_in (List.mem_cons_of_mem _ in10) (List.mem_cons_of_mem _ in19) (fun h => List.mem_cons_of_mem _ (in157 h)) (fun h => List.mem_cons_of_mem _ (in158 h)) (fun h => List.mem_cons_of_mem _ (in161 h)) (fun _ => List.mem_cons_self ..) (fun h => List.mem_cons_of_mem _ (in163 h))))
      · have ho' : (rOps (mcW 0))[7]? = some (wOp 7) := by kernel_rfl
        have e : o = wOp 7 := Option.some.inj (ho.symm.trans ho')
        subst e
        have s162 : a.tmps.getD 162 undef = .int .i64 (wK x) := h.slots (162, .int .i64 (wK x)) (in162 g)
        have k3 := h.knows (d := 162) (v := .int .i64 (wK x)) (av := .val (.int .i64) (wK x)) s162 (rel_i64 hkr)
        subst g1
        refine ⟨by kernel_rfl, Kd.opw (C := mkC tys [] []) tysOK ctrs_nil (s := wS7 x c q8) k3 (w_e7 x c q8 hc) (fun p hp => by cases hp) (fun k hk => ?_) fun a' w' h' => ?_⟩
        · rw [show (wOp 7).dst = some 163 by kernel_rfl] at hk
          cases hk
          exact ⟨(show (163 : Nat) < 280 by decide), wSl_ne (d := 163) (by decide) (by decide) (fun _ => by decide) (fun _ => by decide) (fun _ => by decide) (fun _ => by decide) (fun h => by cases h)⟩
        · have e163 := known_i64 h'.old (w_l7 x c q8 hc)
          have k4 := h'.hold (t := 163)
          rw [e163] at k4
          rw [wA_7 _ _ _ _ _ _ c hc]
          exact .mid c p1 p2 q5 q6 true q8 a' w' hc hp (fun _ => g) (fun hh => ⟨(h8 hh).1, rfl⟩) ((k4.restr (w_r7 x c q8 hc)).less (wSl_in (List.mem_cons_of_mem _ in10) (List.mem_cons_of_mem _ in19) (fun h => List.mem_cons_of_mem _ (in157 h)) (fun h => List.mem_cons_of_mem _ (in158 h)) (fun h => List.mem_cons_of_mem _ (in161 h)) (fun h => List.mem_cons_of_mem _ (in162 h)) (fun _ => List.mem_cons_self ..)))
      · have ho' : (rOps (mcW 0))[8]? = some (wOp 8) := by kernel_rfl
        have e : o = wOp 8 := Option.some.inj (ho.symm.trans ho')
        subst e
        have s161 : a.tmps.getD 161 undef = vw := h.slots (161, vw) (in161 g)
        have s163 : a.tmps.getD 163 undef = .int .i64 (IntKind.i64.wrap (wK x + 1)) := h.slots (163, .int .i64 (IntKind.i64.wrap (wK x + 1))) (in163 g1)
        subst g2
        have k3 := h.same (d := 161) (t := 10) (s161.trans s10.symm)
        rw [l10] at k3
        have k4 := k3.knows (d := 163) (v := .int .i64 (IntKind.i64.wrap (wK x + 1))) (av := .val (.int .i64) (IntKind.i64.wrap (wK x + 1))) s163 (rel_i64 hkr1)
        refine ⟨by kernel_rfl, Kd.opw (C := mkC tys [] []) tysOK ctrs_nil (s := wS8 x c) k4 (w_e8 x c hc) (fun p hp => ?_) (fun k hk => ?_) fun a' w' h' => ?_⟩
        · cases hp
          rw [hw1]
          exact ⟨by omega, by omega⟩
        · rw [show (wOp 8).dst = some 164 by kernel_rfl] at hk
          cases hk
          exact ⟨(show (164 : Nat) < 280 by decide), wSl_ne (d := 164) (by decide) (by decide) (fun _ => by decide) (fun _ => by decide) (fun _ => by decide) (fun _ => by decide) (fun _ => by decide)⟩
        · rw [wA_8 _ _ _ _ _ _ c hc]
          exact .mid c p1 p2 q5 q6 q7 true a' w' hc hp h7 (fun _ => ⟨g, g1⟩) (h'.restr (w_r8 x c hc))
      · have ho' : (rOps (mcW 0))[9]? = some (wOp 9) := by kernel_rfl
        have e : o = wOp 9 := Option.some.inj (ho.symm.trans ho')
        subst e
        subst g g1
        obtain ⟨rfl, rfl⟩ := hp (by omega)
        obtain ⟨rfl, rfl⟩ := h8 rfl
        have := h7 rfl
        subst this
        refine ⟨by kernel_rfl, h.opw (C := mkC tys [] []) tysOK ctrs_nil (w_e9 x) (fun p hp => ?_) (fun k hk => ?_) fun a' w' h' => ?_⟩
        · cases hp
          have e1 : (wL x).length ≤ 100000 := by unfold wL; rw [List.length_take]; omega
          have e2 : (wR x).length ≤ 100000 := by unfold wR; rw [List.length_drop]; omega
          show ((wL x).length + (wR x).length) * 16 ≤ maxRow
          unfold maxRow
          omega
        · rw [show (wOp 9).dst = some 165 by kernel_rfl] at hk
          cases hk
          exact ⟨(show (165 : Nat) < 280 by decide), wSl_ne (d := 165) (by decide) (by decide) (fun _ => by decide) (fun _ => by decide) (fun _ => by decide) (fun _ => by decide) (fun _ => by decide)⟩
        · exact .nine a' w' ((h'.restr (w_r9 x)).less (fun p hp => by cases hp))
  · intro listed a w hs hΦ hr
    cases hΦ with
    | nine a w h => rw [w_ready_nine] at hr; cases hr
    | ten a w h => exact hQ a w h
    | mid c p1 p2 q5 q6 q7 q8 a w hc hp h7 h8 h =>
      exfalso
      rw [w_ready c hc] at hr
      have hm : ∀ i, i ∈ wN c p1 p2 q5 q6 q7 q8 → False := fun i hi => by rw [hr] at hi; cases hi
      unfold wN at hm
      simp only [List.mem_append, mem_nx, Bool.or_eq_true, Bool.and_eq_true, Bool.not_eq_true', Nat.beq_eq] at hm
      have n1 : p1 = true := by cases hb : p1 with | true => rfl | false => exact (hm 1 (.inr (.inl ⟨hb, rfl⟩))).elim
      have n2 : p2 = true := by cases hb : p2 with | true => rfl | false => exact (hm 2 (.inr (.inr (.inl ⟨hb, rfl⟩)))).elim
      have n5 : q5 = true := by cases hb : q5 with | true => rfl | false => exact (hm 5 (.inr (.inr (.inr (.inr (.inr (.inl ⟨hb, rfl⟩))))))).elim
      have n6 : q6 = true := by cases hb : q6 with | true => rfl | false => exact (hm 6 (.inr (.inr (.inr (.inr (.inr (.inr (.inl ⟨hb, rfl⟩)))))))).elim
      have n7 : q7 = true := by cases hb : q7 with | true => rfl | false => exact (hm 7 (.inr (.inr (.inr (.inr (.inr (.inr (.inr (.inl ⟨⟨n6, hb⟩, rfl⟩))))))))).elim
      have n8 : q8 = true := by cases hb : q8 with | true => rfl | false => exact (hm 8 (.inr (.inr (.inr (.inr (.inr (.inr (.inr (.inr (.inl ⟨⟨⟨n5, n7⟩, hb⟩, rfl⟩)))))))))).elim
      have c0 : c ≠ 0 := fun e => hm 0 (.inl ⟨.inl e, rfl⟩)
      have c2 : c ≠ 2 := fun e => hm 0 (.inl ⟨.inr e, rfl⟩)
      have c1 : c ≠ 1 := fun e => hm 3 (.inr (.inr (.inr (.inl ⟨⟨⟨.inr e, n1⟩, n2⟩, rfl⟩))))
      have c3 : c ≠ 3 := fun e => hm 4 (.inr (.inr (.inr (.inr (.inl ⟨e, rfl⟩)))))
      have c4 : c ≠ 4 := fun e => hm 9 (.inr (.inr (.inr (.inr (.inr (.inr (.inr (.inr (.inr ⟨⟨e, n8⟩, rfl⟩)))))))))
      omega
end Go.Ev.P
/- All comes: a round of luck. -/
set_option linter.unusedVariables false
set_option linter.unusedSimpArgs false
namespace Go.Ev.P
open Go.Proofs Go.Conc
theorem mc_loop : seqs (loopB 2 (bodyOf (fnOf Try.prog 12))) = [mcL 0, mcL 1, mcL 2, mcL 3] := by kernel_rfl
theorem mc_l1 : mcL 1 = .cond (.tmp 68) .skip (.exit 2) := by kernel_rfl
theorem mc_l2 : mcL 2 = .block 3 (rIn (mcL 2)) := by kernel_rfl
theorem mc_in : seqs (rIn (mcL 2)) = [mcI 0, mcI 1, mcI 2, mcI 3, mcI 4, mcI 5, mcI 6] := by kernel_rfl
theorem mc_i2 : mcI 2 = .cond (.tmp 75) (rThen (mcI 2)) .skip := by kernel_rfl
theorem mc_s : seqs (rThen (mcI 2)) = [mcS 0, mcS 1, mcS 2, mcS 3, mcS 4] := by kernel_rfl
theorem mc_i4 : mcI 4 = .cond (.tmp 103) (rThen (mcI 4)) .skip := by kernel_rfl
theorem mc_h : seqs (rThen (mcI 4)) = [mcH 0, mcH 1, mcH 2, mcH 3, mcH 4] := by kernel_rfl
theorem mc_h2 : mcH 2 = .cond (.tmp 113) (rThen (mcH 2)) .skip := by kernel_rfl
theorem mc_x : seqs (rThen (mcH 2)) = [mcX 0, mcX 1, mcX 2, mcX 3, mcX 4, mcX 5, mcX 6] := by kernel_rfl
theorem mc_h4 : mcH 4 = .cond (.tmp 155) (rThen (mcH 4)) .skip := by kernel_rfl
theorem mc_w : seqs (rThen (mcH 4)) = [mcW 0] := by kernel_rfl
theorem mc_i6 : mcI 6 = .cond (.tmp 173) (rThen (mcI 6)) .skip := by kernel_rfl
theorem mc_a : seqs (rThen (mcI 6)) = [mcA 0, mcA 1, mcA 2, mcA 3] := by kernel_rfl
attribute [local irreducible] fnOf bodyOf
def mcSt (y : McS) (r : DRules) : McM := (r, y.1, y.2.1, y.2.2.1, y.2.2.2.1, y.2.2.2.2.1, y.2.2.2.2.2, ())
section
variable {R0 : Ref} {b : Frame} {Q : Exit → Act → World → Prop} {W : Nat → Option Obj} {a : Act} {w : World} {l : List (List DItem)} {luck : List Int} {j : Int} {y : McS}
theorem mc_sends {n15 : Int} {rest : List Code} (h0 : 0 ≤ j) (h1 : j < l.length) (hl : l.length ≤ 1000) (hw : ∀ x ∈ l, ∀ i ∈ x, wtI i) {kb : Nat} (hc : CarS j.toNat kb y)
    (h : Kd R0 (fun _ => False) W 280 [] (mkS (mcT mcX1) mcM ((l, luck, (luck.length : Int), j, j, n15, ()), mcSt y rules19)) a w)
    (hgo : ∀ a' w', Kd R0 (fun _ => False) W 280 [] (mkS (mcT mcX2) mcM ((l, luck, (luck.length : Int), j, n15, ()), mcSt (sendS (l.getD j.toNat []) y) rules19)) a' w' → LTo Try.prog b rest Q a' w') :
    LTo Try.prog b ([mcS 0, mcS 1, mcS 2, mcS 3, mcS 4] ++ rest) Q a w := by
  have hm : l.getD j.toNat [] ∈ l := elt_mem [] h0 h1
  obtain ⟨c1, c2⟩ := car_send hc (by omega) (hw _ hm)
  obtain ⟨p1, p2, p3, p4⟩ := car_pre hc
  obtain ⟨n1, n2, n3, n4⟩ := car_len hc
  refine h.piece (C := mkC tys carG []) tysOK carG_ok mixed (fn := fnOf Try.prog 12) (res := [.bool]) (ts := mcT mcX2) (bs := mcM) (G := fun z => z = (none, some ((l, luck, (luck.length : Int), j, n15, ()), mcSt (sendS (l.getD j.toNat []) y) rules19))) (by kernel_rfl) (by kernel_rfl) ?_ ?_ ?_ (fun h => by cases h)
  · have k8 : pieceT (mkC tys carG []) (fnOf Try.prog 12) [.bool] (mcT mcX2) mcM [mcS 0, mcS 1, mcS 2, mcS 3, mcS 4] (mkS (mcT mcX1) mcM ((l, luck, (luck.length : Int), j, j, n15, ()), mcSt y rules19)) = _ := congrFun mcs_tree ((l, luck, (luck.length : Int), j, j, n15, ()), mcSt y rules19)
    refine (congrArg (Tree.holds _) k8).mpr ?_
    exact ⟨⟨h0, h1⟩, ⟨by show (0 : Int) ≤ 1; omega, by show (1 : Int) < 16; omega, p2, p3, by show (1 : Int) ≤ 2; omega, p4⟩, fun _ => ⟨h0, h1⟩, fun _ => by show (y.2.2.2.2.1.length + 1) * 24 ≤ 140737488355328; omega, by show (y.2.2.1.length + (sendF y.1 (meH 1) (l.getD j.toNat []) rules19).2.1.length) * 16 ≤ 140737488355328; omega, rfl⟩
  · intro z s' a' w' hy; cases hy
  · intro z a' w' hz k1
    have hz' := Option.some.inj (Prod.mk.inj hz).2
    subst hz'
    exact hgo a' w' k1
theorem mc_hears {n15 k : Int} {rest : List Code} {K kb : Nat} (hK : K ≤ 1000) (hkb : kb ≤ 1000) (h0 : 0 ≤ k) (h1 : k < y.2.2.1.length) (hc : CarS K kb y)
    (h : Kd R0 (fun _ => False) W 280 [] (mkS (mcT mcX3) mcM ((l, luck, (luck.length : Int), j, n15, k, ()), mcSt y rules19)) a w)
    (hgo : ∀ a' w', Kd R0 (fun _ => False) W 280 [] (mkS (mcT mcX3) mcM ((l, luck, (luck.length : Int), j, n15, k, ()), mcSt (hearS (y.2.2.1.getD k.toNat []) y) rules19)) a' w' → LTo Try.prog b rest Q a' w') :
    LTo Try.prog b ([mcX 0, mcX 1, mcX 2, mcX 3, mcX 4, mcX 5, mcX 6] ++ rest) Q a w := by
  have hm : y.2.2.1.getD k.toNat [] ∈ y.2.2.1 := elt_mem [] h0 h1
  obtain ⟨c1, c2, c3⟩ := car_hear hc hm
  obtain ⟨n1, n2, n3, n4⟩ := car_len hc
  obtain ⟨m1, m2, m3, m4⟩ := car_len c3
  have hwin := car_win hc
  refine h.piece (C := mkC tys carG []) tysOK carG_ok mixed (fn := (fnOf Try.prog 12)) (res := [.bool]) (ts := mcT mcX3) (bs := mcM) (G := fun z => z = (none, some ((l, luck, (luck.length : Int), j, n15, k, ()), mcSt (hearS (y.2.2.1.getD k.toNat []) y) rules19))) (by kernel_rfl) (by kernel_rfl) ?_ ?_ ?_ (fun h => by cases h)
  · have k8 : pieceT (mkC tys carG []) (fnOf Try.prog 12) [.bool] (mcT mcX3) mcM [mcX 0, mcX 1, mcX 2, mcX 3, mcX 4, mcX 5, mcX 6] (mkS (mcT mcX3) mcM ((l, luck, (luck.length : Int), j, n15, k, ()), mcSt y rules19)) = _ := congrFun mcx_tree ((l, luck, (luck.length : Int), j, n15, k, ()), mcSt y rules19)
    refine (congrArg (Tree.holds _) k8).mpr ?_
    refine ⟨⟨h0, h1⟩, hwin, fun g => ?_, fun _ => ⟨?_, ?_, rfl⟩⟩
    · exfalso
      have g' : (bif !(toldF (y.2.2.1.getD k.toNat [])).2 then true else bif bif (hearF y.2.1 (meH 2) (toldF (y.2.2.1.getD k.toNat [])).1).2.2.2 != (0 : Int) then (hearF y.2.1 (meH 2) (toldF (y.2.2.1.getD k.toNat [])).1).2.2.2 != (6 : Int) else false then (hearF y.2.1 (meH 2) (toldF (y.2.2.1.getD k.toNat [])).1).2.2.2 != (8 : Int) else false) = true := g
      rw [c1] at g'
      rcases c2 with c2 | c2 | c2 <;> rw [c2] at g' <;> cases g'
    · have : (y.2.2.2.2.2 ++ (hearF y.2.1 (meH 2) (toldF (y.2.2.1.getD k.toNat [])).1).2.2.1).length ≤ 8 * K := m2
      rw [List.length_append] at this
      show (y.2.2.2.2.2.length + (hearF y.2.1 (meH 2) (toldF (y.2.2.1.getD k.toNat [])).1).2.2.1.length) * 24 ≤ 140737488355328
      omega
    · show (y.2.2.2.1.length + 1) * 16 ≤ 140737488355328
      omega
  · intro z s' a' w' hy; cases hy
  · intro z a' w' hz k1
    have hz' := Option.some.inj (Prod.mk.inj hz).2
    subst hz'
    exact hgo a' w' k1
theorem mc_drops {n15 k : Int} {K kb : Nat} (hK : K ≤ 1000) (h0 : 0 ≤ k) (h1 : k < y.2.2.1.length) (hc : CarS K kb y)
    (h : Kd R0 (fun _ => False) W 280 [] (mkS (mcT mcX3) mcM ((l, luck, (luck.length : Int), j, n15, k, ()), mcSt y rules19)) a w)
    (hgo : ∀ y' a' w', CarS K kb y' → Kd R0 (fun _ => False) W 280 [] (mkS (mcT mcX2) mcM ((l, luck, (luck.length : Int), j, n15, ()), mcSt y' rules19)) a' w' → Q .normal a' w') :
    LTo Try.prog b [mcH 3, mcH 4] Q a w := by
  obtain ⟨n1, n2, n3, n4⟩ := car_len hc
  show LTo Try.prog b ([mcH 3] ++ [mcH 4]) Q a w
  refine h.piece (C := mkC tys [] []) tysOK ctrs_nil mixed (fn := (fnOf Try.prog 12)) (res := [.bool]) (ts := mcT ((15, .val (.int .i64)) :: (19, .val (.int .i64)) :: [(155, .val .bool)])) (bs := mcM) (G := fun z => z = (none, some ((l, luck, (luck.length : Int), j, n15, k, bitsOp BinOp.and IntKind.i64 n15 (24 : Int) != (0 : Int), ()), mcSt y rules19))) (by kernel_rfl) (by kernel_rfl) ?_ ?_ ?_ (fun h => by cases h)
  · have k8 : pieceT (mkC tys [] []) (fnOf Try.prog 12) [.bool] (mcT ((15, .val (.int .i64)) :: (19, .val (.int .i64)) :: [(155, .val .bool)])) mcM [mcH 3] (mkS (mcT mcX3) mcM ((l, luck, (luck.length : Int), j, n15, k, ()), mcSt y rules19)) = _ := congrFun mch3_tree ((l, luck, (luck.length : Int), j, n15, k, ()), mcSt y rules19)
    exact (congrArg (Tree.holds _) k8).mpr rfl
  · intro z s' a' w' hy; cases hy
  intro z a1 w1 hz k1
  have hz' := Option.some.inj (Prod.mk.inj hz).2
  subst hz'
  refine LTo.cons ?_
  rw [mc_h4]
  refine CodeTo.cond (t := bitsOp BinOp.and IntKind.i64 n15 (24 : Int) != (0 : Int)) (k1.old.bool rfl) ?_
  cases bitsOp BinOp.and IntKind.i64 n15 (24 : Int) != (0 : Int) with
  | false =>
    rw [if_neg (by simp)]
    refine CodeTo.skip ?_
    exact hgo y a1 w1 hc (k1.restr (L := { prom := [], keep := (mcT mcX2).map (·.1), boxes := mcM.map (·.1), sum := fun _ => .stuck }) (by kernel_rfl))
  | true =>
    rw [if_pos rfl]
    refine CodeTo.seqs ?_
    rw [mc_w]
    have k2 := k1.freeze (t := 10) (c := 1010) (e := 9) (d := false) (fz := false) (g := .str) (xs := y.2.2.1) (by kernel_rfl) (by kernel_rfl)
    have k3 := k2.restr (L := { prom := [], keep := (mcTw []).map (·.1), boxes := mcMw.map (·.1), sum := fun _ => .stuck }) (s' := mkS (mcTw []) mcMw ((l, y.2.2.1, luck, (luck.length : Int), j, n15, k, ()), (rules19, y.1, y.2.1, y.2.2.2.1, y.2.2.2.2.1, y.2.2.2.2.2, ()))) (by kernel_rfl)
    refine LTo.cons ?_
    refine w_region (x := ((l, y.2.2.1, luck, (luck.length : Int), j, n15, k, ()), (rules19, y.1, y.2.1, y.2.2.2.1, y.2.2.2.2.1, y.2.2.2.2.2, ()))) h0 h1 (by show y.2.2.1.length ≤ 100000; omega) k3 fun a2 w2 k4 => ?_
    have k5 := k4.rekey (t := 10) (c := 156) (c' := 1010) (d := false) (B := .row 9 .str (([] ++ y.2.2.1.take k.toNat) ++ y.2.2.1.drop (IntKind.i64.wrap (k + 1)).toNat) false) (by kernel_rfl) (by kernel_rfl) (by kernel_rfl) (by kernel_rfl)
    have k6 := k5.restr (L := { prom := [], keep := (mcT mcX2).map (·.1), boxes := mcM.map (·.1), sum := fun _ => .stuck }) (s' := mkS (mcT mcX2) mcM ((l, luck, (luck.length : Int), j, n15, ()), mcSt (y.1, y.2.1, ([] ++ y.2.2.1.take k.toNat) ++ y.2.2.1.drop (IntKind.i64.wrap (k + 1)).toNat, y.2.2.2) rules19)) (by kernel_rfl)
    refine hgo _ a2 w2 (car_drop hc _ (fun s hs => ?_) ?_) k6
    · rcases List.mem_append.1 hs with hs | hs
      · exact List.mem_of_mem_take hs
      · exact List.mem_of_mem_drop hs
    · rw [i64_id (n := k + 1) (by omega) (by omega), List.nil_append, List.length_append, List.length_take, List.length_drop]
      omega
theorem mc_mod {n : Int} {m : Nat} (hm : 0 < m) (hl : m ≤ 100000) : 0 ≤ IntKind.i64.wrap (Int.tmod (IntKind.u64.wrap n) (IntKind.u64.wrap (m : Int))) ∧ IntKind.i64.wrap (Int.tmod (IntKind.u64.wrap n) (IntKind.u64.wrap (m : Int))) < m ∧ IntKind.u64.wrap (m : Int) ≠ 0 := by
  have e : IntKind.u64.wrap (m : Int) = m := u64_id (by omega) (by omega)
  rw [e]
  have hw : 0 ≤ IntKind.u64.wrap n := by rw [wrap_u64]; omega
  have h1 := Int.tmod_nonneg (m : Int) hw
  have h2 := Int.tmod_lt_of_pos (IntKind.u64.wrap n) (b := (m : Int)) (by omega)
  rw [i64_id (by omega) (by omega)]
  exact ⟨h1, h2, by omega⟩
theorem mc_ways {n15 : Int} {K kb : Nat} (hK : K ≤ 1000) (hkb : kb ≤ 1000) (h1 : 0 < y.2.2.1.length) (hc : CarS K kb y)
    (h : Kd R0 (fun _ => False) W 280 [] (mkS (mcT mcX2) mcM ((l, luck, (luck.length : Int), j, n15, ()), mcSt y rules19)) a w)
    (hgo : ∀ y' a' w', CarS K (kb + 1) y' → Kd R0 (fun _ => False) W 280 [] (mkS (mcT mcX2) mcM ((l, luck, (luck.length : Int), j, n15, ()), mcSt y' rules19)) a' w' → Q .normal a' w') :
    LTo Try.prog b [mcH 0, mcH 1, mcH 2, mcH 3, mcH 4] Q a w := by
  obtain ⟨n1, n2, n3, n4⟩ := car_len hc
  obtain ⟨m1, m2, m3⟩ := mc_mod (n := n15) h1 (by omega)
  show LTo Try.prog b ([mcH 0, mcH 1] ++ [mcH 2, mcH 3, mcH 4]) Q a w
  generalize hkk : IntKind.i64.wrap (Int.tmod (IntKind.u64.wrap n15) (IntKind.u64.wrap (y.2.2.1.length : Int))) = k at m1 m2
  refine h.piece (C := mkC tys [] []) tysOK ctrs_nil mixed (fn := (fnOf Try.prog 12)) (res := [.bool]) (ts := mcT ((15, .val (.int .i64)) :: (19, .val (.int .i64)) :: [(113, .val .bool)])) (bs := mcM) (G := fun z => z = (none, some ((l, luck, (luck.length : Int), j, n15, k, decide (bitsOp BinOp.and IntKind.i64 n15 (7 : Int) > (1 : Int)), ()), mcSt y rules19))) (by kernel_rfl) (by kernel_rfl) ?_ ?_ ?_ (fun h => by cases h)
  · have k8 : pieceT (mkC tys [] []) (fnOf Try.prog 12) [.bool] (mcT ((15, .val (.int .i64)) :: (19, .val (.int .i64)) :: [(113, .val .bool)])) mcM [mcH 0, mcH 1] (mkS (mcT mcX2) mcM ((l, luck, (luck.length : Int), j, n15, ()), mcSt y rules19)) = _ := congrFun mch0_tree ((l, luck, (luck.length : Int), j, n15, ()), mcSt y rules19)
    refine (congrArg (Tree.holds _) k8).mpr ⟨m3, ?_⟩
    rw [← hkk]
    rfl
  · intro z s' a' w' hy; cases hy
  intro z a1 w1 hz k1
  have hz' := Option.some.inj (Prod.mk.inj hz).2
  subst hz'
  refine LTo.cons ?_
  rw [mc_h2]
  refine CodeTo.cond (t := decide (bitsOp BinOp.and IntKind.i64 n15 (7 : Int) > (1 : Int))) (k1.old.bool rfl) ?_
  have k2 := k1.restr (L := { prom := [], keep := (mcT mcX3).map (·.1), boxes := mcM.map (·.1), sum := fun _ => .stuck }) (s' := mkS (mcT mcX3) mcM ((l, luck, (luck.length : Int), j, n15, k, ()), mcSt y rules19)) (by kernel_rfl)
  cases decide (bitsOp BinOp.and IntKind.i64 n15 (7 : Int) > (1 : Int)) with
  | false =>
    rw [if_neg (by simp)]
    refine CodeTo.skip ?_
    exact mc_drops hK m1 m2 (hc.more (Nat.le_refl K) (Nat.le_succ kb)) k2 hgo
  | true =>
    rw [if_pos rfl]
    refine CodeTo.seqs ?_
    rw [mc_x]
    show LTo Try.prog b ([mcX 0, mcX 1, mcX 2, mcX 3, mcX 4, mcX 5, mcX 6] ++ []) _ a1 w1
    refine mc_hears hK hkb m1 m2 hc k2 fun a2 w2 k3 => ?_
    exact mc_drops (y := hearS (y.2.2.1.getD k.toNat []) y) hK m1 m2 (car_hear hc (elt_mem [] m1 m2)).2.2 k3 hgo
theorem mc_backs {n15 : Int} {K kb : Nat} (hK : K ≤ 1000) (hkb : kb ≤ 1000) (hc : CarS K kb y)
    (h : Kd R0 (fun _ => False) W 280 [] (mkS (mcT mcX2) mcM ((l, luck, (luck.length : Int), j, n15, ()), mcSt y rules19)) a w)
    (hgo : ∀ y' a' w', CarS K kb y' → Kd R0 (fun _ => False) W 280 [] (mkS (mcT []) mcM ((l, luck, (luck.length : Int), j, ()), mcSt y' rules19)) a' w' → Q .normal a' w') :
    LTo Try.prog b [mcI 5, mcI 6] Q a w := by
  obtain ⟨n1, n2, n3, n4⟩ := car_len hc
  obtain ⟨p1, p2, p3, p4⟩ := car_pre hc
  show LTo Try.prog b ([mcI 5] ++ [mcI 6]) Q a w
  generalize hbb : (bif decide ((y.2.2.2.1.length : Int) > 0) then bitsOp BinOp.and IntKind.i64 n15 (32 : Int) != (0 : Int) else false) = bb
  refine h.piece (C := mkC tys [] []) tysOK ctrs_nil mixed (fn := (fnOf Try.prog 12)) (res := [.bool]) (ts := mcT [(173, .val .bool)]) (bs := mcM) (G := fun z => z = (none, some ((l, luck, (luck.length : Int), j, bb, ()), mcSt y rules19))) (by kernel_rfl) (by kernel_rfl) ?_ ?_ ?_ (fun h => by cases h)
  · have k8 : pieceT (mkC tys [] []) (fnOf Try.prog 12) [.bool] (mcT [(173, .val .bool)]) mcM [mcI 5] (mkS (mcT mcX2) mcM ((l, luck, (luck.length : Int), j, n15, ()), mcSt y rules19)) = _ := congrFun mci5_tree ((l, luck, (luck.length : Int), j, n15, ()), mcSt y rules19)
    refine (congrArg (Tree.holds _) k8).mpr ?_
    rw [← hbb]
    rfl
  · intro z s' a' w' hy; cases hy
  intro z a1 w1 hz k1
  have hz' := Option.some.inj (Prod.mk.inj hz).2
  subst hz'
  refine LTo.cons ?_
  rw [mc_i6]
  refine CodeTo.cond (t := bb) (k1.old.bool rfl) ?_
  have k2 := k1.restr (L := { prom := [], keep := (mcT []).map (·.1), boxes := mcM.map (·.1), sum := fun _ => .stuck }) (s' := mkS (mcT []) mcM ((l, luck, (luck.length : Int), j, ()), mcSt y rules19)) (by kernel_rfl)
  cases bb with
  | false =>
    rw [if_neg (by simp)]
    refine CodeTo.skip ?_
    exact hgo y a1 w1 hc k2
  | true =>
    have hpos : 0 < y.2.2.2.1.length := by
      cases hd : decide ((y.2.2.2.1.length : Int) > 0) with
      | true => have := of_decide_eq_true hd; omega
      | false => rw [hd] at hbb; cases hbb
    have hwr : IntKind.i64.wrap ((y.2.2.2.1.length : Int) - 1) = (y.2.2.2.1.length : Int) - 1 := i64_id (by omega) (by omega)
    have hm : y.2.2.2.1.getD ((y.2.2.2.1.length : Int) - 1).toNat [] ∈ y.2.2.2.1 := elt_mem [] (by omega) (by omega)
    have hca := car_ack hc hm
    rw [if_pos rfl]
    refine CodeTo.seqs ?_
    rw [mc_a]
    show LTo Try.prog b ([mcA 0, mcA 1, mcA 2, mcA 3] ++ []) _ a1 w1
    generalize hs : y.2.2.2.1.getD ((y.2.2.2.1.length : Int) - 1).toNat [] = s at hca
    refine k2.piece (C := mkC tys carG []) tysOK carG_ok mixed (fn := (fnOf Try.prog 12)) (res := [.bool]) (ts := mcTb) (bs := mcMb) (G := fun z => z = (none, some ((l, luck, (luck.length : Int), j, ()), (rules19, (bif (cameF s).2 then leftM y.1 (cameF s).1 else y.1), y.2.1, y.2.2.1, y.2.2.2.2.1, y.2.2.2.2.2, ())))) (by kernel_rfl) (by kernel_rfl) ?_ ?_ ?_ (fun h => by cases h)
    · have k8 : pieceT (mkC tys carG []) (fnOf Try.prog 12) [.bool] mcTb mcMb [mcA 0, mcA 1, mcA 2, mcA 3] (mkS (mcT []) mcM ((l, luck, (luck.length : Int), j, ()), mcSt y rules19)) = _ := congrFun mca_tree ((l, luck, (luck.length : Int), j, ()), mcSt y rules19)
      refine (congrArg (Tree.holds _) k8).mpr ?_
      have e : (mcSt y rules19).2.2.2.2.1 = y.2.2.2.1 := rfl
      simp only [Tree.holds, e, hwr, hs]
      exact ⟨⟨by omega, by omega⟩, fun _ => by show y.1.2.1.length ≤ 100000; omega, rfl⟩
    · intro z s' a' w' hy; cases hy
    intro z a2 w2 hz k3
    have hz' := Option.some.inj (Prod.mk.inj hz).2
    subst hz'
    exact hgo _ a2 w2 hca (k3.rows (l := [(11, 1011, 9, .str)]) (L := { prom := [], keep := (mcT []).map (·.1), boxes := mcM.map (·.1), sum := fun _ => .stuck }) (by kernel_rfl))
theorem mc_round (hl : l.length ≤ 20) (hlk : luck.length ≤ 60) (hw : ∀ x ∈ l, ∀ i ∈ x, wtI i) (h0 : 0 ≤ j) (h1 : j ≤ luck.length) (hc : CarS j.toNat j.toNat y)
    (h : Kd R0 (fun _ => False) W 280 [] (mkS (mcT []) mcM ((l, luck, (luck.length : Int), j, ()), mcSt y rules19)) a w)
    (hgo : j < luck.length → ∀ y' a' w', CarS (j + 1).toNat (j + 1).toNat y' → Kd R0 (fun _ => False) W 280 [] (mkS (mcT []) mcM ((l, luck, (luck.length : Int), j + 1, ()), mcSt y' rules19)) a' w' → Q .normal a' w')
    (hend : ¬ j < luck.length → ∀ a' w', Kd R0 (fun _ => False) W 280 [] (mkS (mcT []) mcM ((l, luck, (luck.length : Int), j, ()), mcSt y rules19)) a' w' → Q (.exit 2) a' w') :
    CodeTo Try.prog b (loopB 2 (bodyOf (fnOf Try.prog 12))) Q a w := by
  refine CodeTo.seqs ?_
  rw [mc_loop]
  show LTo Try.prog b ([mcL 0] ++ [mcL 1, mcL 2, mcL 3]) _ a w
  refine h.piece (C := mkC tys [] []) tysOK ctrs_nil mixed (fn := (fnOf Try.prog 12)) (res := [.bool]) (ts := mcT [(68, .val .bool)]) (bs := mcM) (G := fun z => z = (none, some ((l, luck, (luck.length : Int), j, decide (j < luck.length), ()), mcSt y rules19))) (by kernel_rfl) (by kernel_rfl) ?_ ?_ ?_ (fun h => by cases h)
  · have k8 : pieceT (mkC tys [] []) (fnOf Try.prog 12) [.bool] (mcT [(68, .val .bool)]) mcM [mcL 0] (mkS (mcT []) mcM ((l, luck, (luck.length : Int), j, ()), mcSt y rules19)) = _ := congrFun mcl0_tree ((l, luck, (luck.length : Int), j, ()), mcSt y rules19)
    exact (congrArg (Tree.holds _) k8).mpr rfl
  · intro z s' a' w' hy; cases hy
  intro z a1 w1 hz k1
  have hz' := Option.some.inj (Prod.mk.inj hz).2
  subst hz'
  refine LTo.cons ?_
  rw [mc_l1]
  refine CodeTo.cond (t := decide (j < luck.length)) (k1.old.bool rfl) ?_
  have k2 := k1.restr (L := { prom := [], keep := (mcT []).map (·.1), boxes := mcM.map (·.1), sum := fun _ => .stuck }) (s' := mkS (mcT []) mcM ((l, luck, (luck.length : Int), j, ()), mcSt y rules19)) (by kernel_rfl)
  cases hlt : decide (j < luck.length) with
  | false =>
    rw [if_neg (by simp)]
    refine CodeTo.exit ?_
    exact hend (of_decide_eq_false hlt) a1 w1 k2
  | true =>
    have hlt' := of_decide_eq_true hlt
    rw [if_pos rfl]
    refine CodeTo.skip ?_
    refine LTo.cons ?_
    rw [mc_l2]
    refine CodeTo.block ?_
    refine CodeTo.seqs ?_
    rw [mc_in]
    have ej : (j + 1).toNat = j.toNat + 1 := by omega
    have last : ∀ (y' : McS) (a' : Act) (w' : World), CarS (j + 1).toNat (j + 1).toNat y' → Kd R0 (fun _ => False) W 280 [] (mkS (mcT []) mcM ((l, luck, (luck.length : Int), j, ()), mcSt y' rules19)) a' w' → LTo Try.prog b [mcL 3] Q a' w' := by
      intro y' a' w' hc' k
      show LTo Try.prog b ([mcL 3] ++ []) _ a' w'
      refine k.piece (C := mkC tys [] []) tysOK ctrs_nil mixed (fn := (fnOf Try.prog 12)) (res := [.bool]) (ts := mcT []) (bs := mcM) (G := fun z => z = (none, some ((l, luck, (luck.length : Int), j + 1, ()), mcSt y' rules19))) (by kernel_rfl) (by kernel_rfl) ?_ ?_ ?_ (fun h => by cases h)
      · have k8 : pieceT (mkC tys [] []) (fnOf Try.prog 12) [.bool] (mcT []) mcM [mcL 3] (mkS (mcT []) mcM ((l, luck, (luck.length : Int), j, ()), mcSt y' rules19)) = _ := congrFun mcl3_tree ((l, luck, (luck.length : Int), j, ()), mcSt y' rules19)
        refine (congrArg (Tree.holds _) k8).mpr ?_
        show (none, some ((l, luck, (luck.length : Int), IntKind.i64.wrap (j + 1), ()), mcSt y' rules19)) = _
        rw [i64_id (n := j + 1) (by omega) (by omega)]
      · intro z s' a' w' hy; cases hy
      · intro z a2 w2 hz k3
        have hz' := Option.some.inj (Prod.mk.inj hz).2
        subst hz'
        exact hgo hlt' y' a2 w2 hc' k3
    have tail : ∀ (n15 : Int) (y' : McS) (a' : Act) (w' : World) (Q' : Exit → Act → World → Prop), CarS (j + 1).toNat j.toNat y' → Kd R0 (fun _ => False) W 280 [] (mkS (mcT mcX2) mcM ((l, luck, (luck.length : Int), j, n15, ()), mcSt y' rules19)) a' w' → (∀ y'' a'' w'', CarS (j + 1).toNat (j + 1).toNat y'' → Kd R0 (fun _ => False) W 280 [] (mkS (mcT []) mcM ((l, luck, (luck.length : Int), j, ()), mcSt y'' rules19)) a'' w'' → Q' .normal a'' w'') → LTo Try.prog b [mcI 3, mcI 4, mcI 5, mcI 6] Q' a' w' := by
      intro n15 y' a' w' Q' hc' k hQ'
      show LTo Try.prog b ([mcI 3] ++ [mcI 4, mcI 5, mcI 6]) _ a' w'
      refine k.piece (C := mkC tys [] []) tysOK ctrs_nil mixed (fn := (fnOf Try.prog 12)) (res := [.bool]) (ts := mcT ((15, .val (.int .i64)) :: [(103, .val .bool)])) (bs := mcM) (G := fun z => z = (none, some ((l, luck, (luck.length : Int), j, n15, decide ((y'.2.2.1.length : Int) > 0), ()), mcSt y' rules19))) (by kernel_rfl) (by kernel_rfl) ?_ ?_ ?_ (fun h => by cases h)
      · have k8 : pieceT (mkC tys [] []) (fnOf Try.prog 12) [.bool] (mcT ((15, .val (.int .i64)) :: [(103, .val .bool)])) mcM [mcI 3] (mkS (mcT mcX2) mcM ((l, luck, (luck.length : Int), j, n15, ()), mcSt y' rules19)) = _ := congrFun mci3_tree ((l, luck, (luck.length : Int), j, n15, ()), mcSt y' rules19)
        exact (congrArg (Tree.holds _) k8).mpr rfl
      · intro z s' a' w' hy; cases hy
      intro z a2 w2 hz k3
      have hz' := Option.some.inj (Prod.mk.inj hz).2
      subst hz'
      refine LTo.cons ?_
      rw [mc_i4]
      refine CodeTo.cond (t := decide ((y'.2.2.1.length : Int) > 0)) (k3.old.bool rfl) ?_
      have k4 := k3.restr (L := { prom := [], keep := (mcT mcX2).map (·.1), boxes := mcM.map (·.1), sum := fun _ => .stuck }) (s' := mkS (mcT mcX2) mcM ((l, luck, (luck.length : Int), j, n15, ()), mcSt y' rules19)) (by kernel_rfl)
      cases hp : decide ((y'.2.2.1.length : Int) > 0) with
      | false =>
        rw [if_neg (by simp)]
        refine CodeTo.skip ?_
        exact mc_backs (by omega) (by omega) (hc'.more (Nat.le_refl _) (by omega)) k4 hQ'
      | true =>
        have hp' := of_decide_eq_true hp
        rw [if_pos rfl]
        refine CodeTo.seqs ?_
        rw [mc_h]
        refine mc_ways (by omega) (by omega) (by omega) hc' k4 fun y3 a3 w3 hc3 k5 => ?_
        exact mc_backs (by omega) (by omega) (hc3.more (Nat.le_refl _) (by omega)) k5 hQ'
    show LTo Try.prog b ([mcI 0, mcI 1] ++ [mcI 2, mcI 3, mcI 4, mcI 5, mcI 6]) _ a1 w1
    refine k2.piece (C := mkC tys [] []) tysOK ctrs_nil mixed (fn := (fnOf Try.prog 12)) (res := [.bool]) (ts := mcT ((14, .val (.int .i64)) :: (15, .val (.int .i64)) :: [(75, .val .bool)])) (bs := mcM) (G := fun z => z = (none, some ((l, luck, (luck.length : Int), j, j, luck.getD j.toNat 0, decide (j < l.length), ()), mcSt y rules19))) (by kernel_rfl) (by kernel_rfl) ?_ ?_ ?_ (fun h => by cases h)
    · have k8 : pieceT (mkC tys [] []) (fnOf Try.prog 12) [.bool] (mcT ((14, .val (.int .i64)) :: (15, .val (.int .i64)) :: [(75, .val .bool)])) mcM [mcI 0, mcI 1] (mkS (mcT []) mcM ((l, luck, (luck.length : Int), j, ()), mcSt y rules19)) = _ := congrFun mci0_tree ((l, luck, (luck.length : Int), j, ()), mcSt y rules19)
      exact (congrArg (Tree.holds _) k8).mpr ⟨⟨h0, hlt'⟩, rfl⟩
    · intro z s' a' w' hy; cases hy
    intro z a2 w2 hz k3
    have hz' := Option.some.inj (Prod.mk.inj hz).2
    subst hz'
    refine LTo.cons ?_
    rw [mc_i2]
    refine CodeTo.cond (t := decide (j < l.length)) (k3.old.bool rfl) ?_
    cases hp : decide (j < (l.length : Int)) with
    | false =>
      rw [if_neg (by simp)]
      refine CodeTo.skip ?_
      have k4 := k3.restr (L := { prom := [], keep := (mcT mcX2).map (·.1), boxes := mcM.map (·.1), sum := fun _ => .stuck }) (s' := mkS (mcT mcX2) mcM ((l, luck, (luck.length : Int), j, luck.getD j.toNat 0, ()), mcSt y rules19)) (by kernel_rfl)
      exact tail _ y a2 w2 _ (hc.more (by omega) (Nat.le_refl _)) k4 last
    | true =>
      have hp' := of_decide_eq_true hp
      have k4 := k3.restr (L := { prom := [], keep := (mcT mcX1).map (·.1), boxes := mcM.map (·.1), sum := fun _ => .stuck }) (s' := mkS (mcT mcX1) mcM ((l, luck, (luck.length : Int), j, j, luck.getD j.toNat 0, ()), mcSt y rules19)) (by kernel_rfl)
      rw [if_pos rfl]
      refine CodeTo.seqs ?_
      rw [mc_s]
      show LTo Try.prog b ([mcS 0, mcS 1, mcS 2, mcS 3, mcS 4] ++ []) _ a2 w2
      refine mc_sends h0 hp' (by omega) hw hc k4 fun a3 w3 k5 => ?_
      have hc2 := (car_send hc (by omega) (hw _ (elt_mem [] h0 hp'))).1
      rw [← ej] at hc2
      exact tail _ _ a3 w3 _ hc2 k5 last
end
end Go.Ev.P
/- All comes: the whole. -/
set_option linter.unusedVariables false
set_option linter.unusedSimpArgs false
namespace Go.Ev.P
open Go.Proofs Go.Conc
theorem m0Stp_ends (x : M0S) : (m0Stp x).1 = .normal ∨ (m0Stp x).1 = .exit 0 ∨ (m0Stp x).1 = .ret := by
  unfold m0Stp
  cases decide (x.1.2.2.2.2.2.1 < x.1.2.2.2.2.1) <;> cases decide (((x.1.2.2.2.1.getD x.1.2.2.2.2.2.1.toNat []).length : Int) > 20) <;> simp
theorem m0_go {x : M0S} (hp : m0Pre x) (hn : (m0Stp x).1 = .normal) : m0Pre (m0Stp x).2 ∧ m0Mu (m0Stp x).2 < m0Mu x := by
  obtain ⟨h1, h2, h3, h4⟩ := hp
  unfold m0Stp at hn ⊢
  cases hlt : decide (x.1.2.2.2.2.2.1 < x.1.2.2.2.2.1) with
  | false => rw [hlt] at hn; cases hn
  | true =>
    have hlt' := of_decide_eq_true hlt
    cases he : decide (((x.1.2.2.2.1.getD x.1.2.2.2.2.2.1.toNat []).length : Int) > 20) with
    | true => rw [hlt, he] at hn; cases hn
    | false =>
      simp only [cond_true, cond_false]
      exact ⟨⟨by show 0 ≤ x.1.2.2.2.2.2.1 + 1; omega, by show x.1.2.2.2.2.2.1 + 1 ≤ x.1.2.2.2.2.1; omega, h3, h4⟩, by show (x.1.2.2.2.2.1 - (x.1.2.2.2.2.2.1 + 1)).toNat < (x.1.2.2.2.2.1 - x.1.2.2.2.2.2.1).toNat; omega⟩
theorem m0_loop : LoopOK (mkC tys carG [(0, m0D.spec)]) m0D.spec (loopB 0 (bodyOf (fnOf Try.prog 12))) :=
  loopF2_ok (id := 0) (D := m0D) (fun x => congrFun m0_round x) m0Stp m0Mu (fun _ => rfl) m0Stp_ends fun (x : M0S) hp => by
    refine ⟨?_, fun hn => m0_go hp hn⟩
    obtain ⟨h1, h2, h3, h4⟩ := hp
    simp only [Tree.holds]
    unfold m0Stp
    refine ⟨fun h => ?_, fun h => by rw [h]; rfl⟩
    have hlt := of_decide_eq_true h
    refine ⟨⟨h1, by omega⟩, fun g => by rw [h, g]; rfl, fun g => ?_⟩
    rw [h, g, i64_id (n := x.1.2.2.2.2.2.1 + 1) (by omega) (by omega)]
    rfl
theorem m0_run : ∀ (n : Nat) (x : M0S), m0Pre x → m0Mu x < n → ((runF m0Stp n x).1 = .ret ∧ (runF m0Stp n x).2.1.2.2.1 = true) ∨ ((runF m0Stp n x).1 = .exit 0 ∧ (runF m0Stp n x).2.1.1 = x.1.1 ∧ (runF m0Stp n x).2.1.2.1 = x.1.2.1)
  | 0, _, _, h => by omega
  | n + 1, x, hp, hn => by
    cases hlt : decide (x.1.2.2.2.2.2.1 < x.1.2.2.2.2.1) with
    | false =>
      have e : m0Stp x = (.exit 0, x) := by unfold m0Stp; rw [hlt]; rfl
      rw [runF_end (by rw [e]; simp), e]
      exact .inr ⟨rfl, rfl, rfl⟩
    | true =>
      cases he : decide (((x.1.2.2.2.1.getD x.1.2.2.2.2.2.1.toNat []).length : Int) > 20) with
      | true =>
        have e : m0Stp x = (.ret, ((x.1.1, x.1.2.1, true, x.1.2.2.2), ())) := by unfold m0Stp; rw [hlt, he]; rfl
        rw [runF_end (by rw [e]; simp), e]
        exact .inl ⟨rfl, rfl⟩
      | false =>
        have e : m0Stp x = (.normal, ((x.1.1, x.1.2.1, x.1.2.2.1, x.1.2.2.2.1, x.1.2.2.2.2.1, x.1.2.2.2.2.2.1 + 1, ()), ())) := by unfold m0Stp; rw [hlt, he]; rfl
        obtain ⟨g1, g2⟩ := m0_go hp (by rw [e])
        have ih := m0_run n _ g1 (by omega)
        rw [e] at ih
        rw [runF_go e]
        exact ih
theorem m8_loop : LoopOK (mkC tys carG [(8, m8D.spec)]) m8D.spec (loopB 8 (bodyOf (fnOf Try.prog 12))) :=
  loopD_ok1 (fun _ => rfl) (fun x => congrFun m8_round x) (fun (x : M8S) => (x.1.1 - x.1.2.1).toNat) fun (x : M8S) hp => by
    obtain ⟨⟨len, i, ⟨⟩⟩, a, b, sent, got, ⟨⟩⟩ := x
    obtain ⟨h1, h2, h3, h4, h5⟩ := hp
    simp only at h1 h2 h3 h4 h5
    subst h1
    simp only [Tree.holds]
    refine ⟨fun h => ?_, fun h => ?_⟩
    · have h' : i < len := of_decide_eq_true h
      rw [i64_id (n := i + 1) (by omega) (by omega)]
      refine ⟨⟨h2, by omega⟩, ⟨h2, by omega⟩, rfl, fun g => (by cases g), fun _ => ⟨_, rfl, ⟨rfl, by show 0 ≤ i + 1; omega, by show i + 1 ≤ len; omega, h4, h5⟩, by show (len - (i + 1)).toNat < (len - i).toNat; omega, rfl⟩⟩
    · have h' : ¬ i < len := of_decide_eq_false h
      have hi : i = len := by omega
      subst hi
      exact ⟨_, rfl, rfl⟩
theorem mc_nd : nodupN ((loopsOf (bodyOf (fnOf Try.prog 12))).map (·.1)) = true := by kernel_rfl
theorem mc_all : seqs (bodyOf (fnOf Try.prog 12)) = [mcB 0, mcB 1, mcB 2, mcB 3, mcB 4, mcB 5, mcB 6, mcB 7, mcB 8, mcB 9, mcB 10, mcB 11, mcB 12, mcB 13, mcB 14, mcB 15, mcB 16, mcB 17, mcB 18] := by kernel_rfl
theorem mc_n : (fnOf Try.prog 12).ntmps = 280 := by kernel_rfl
theorem mc_10 : mcB 10 = .block 2 (.loop (loopB 2 (bodyOf (fnOf Try.prog 12)))) := by kernel_rfl
theorem mc_12 : mcB 12 = .block 4 (.loop (loopB 4 (bodyOf (fnOf Try.prog 12)))) := by kernel_rfl
theorem mv_loop : seqs (loopB 4 (bodyOf (fnOf Try.prog 12))) = [mcV 0, mcV 1, mcV 2, mcV 3] := by kernel_rfl
theorem mv_1 : mcV 1 = .cond (.tmp 193) .skip (.exit 4) := by kernel_rfl
theorem mv_2 : mcV 2 = .block 5 (rIn (mcV 2)) := by kernel_rfl
theorem mv_in : seqs (rIn (mcV 2)) = [mcVI 0, mcVI 1, mcVI 2, mcVI 3] := by kernel_rfl
theorem mv_3 : mcVI 3 = .block 6 (.loop (loopB 6 (bodyOf (fnOf Try.prog 12)))) := by kernel_rfl
theorem my_loop : seqs (loopB 6 (bodyOf (fnOf Try.prog 12))) = [mcY 0, mcY 1, mcY 2, mcY 3] := by kernel_rfl
theorem my_1 : mcY 1 = .cond (.tmp 205) .skip (.exit 6) := by kernel_rfl
theorem my_2 : mcY 2 = .block 7 (rIn (mcY 2)) := by kernel_rfl
theorem my_in : seqs (rIn (mcY 2)) = [mcYI 0, mcYI 1, mcYI 2, mcYI 3, mcYI 4, mcYI 5, mcYI 6, mcYI 7, mcYI 8, mcYI 9] := by kernel_rfl
attribute [local irreducible] fnOf bodyOf
abbrev McT := DMrl × DMrl × List (List DItem) × List (List DItem)
def mcTt (x : McT) : McUM := (x.1, x.2.1, x.2.2.1, x.2.2.2, ())
section
variable {R0 : Ref} {b : Frame} {Q : Exit → Act → World → Prop} {W : Nat → Option Obj} {a : Act} {w : World}
theorem my_round {K t : Nat} {t0 i : Int} {again : List (List UInt8)} {x : McT} (hK : K ≤ 1000) (hlen : again.length ≤ 100000) (h0 : 0 ≤ i) (h1 : i ≤ again.length) (hc : CarU K t again i.toNat x)
    (h : Kd R0 (fun _ => False) W 280 [] (mkS (mcU mcUx) mcUM ((t0, again, (again.length : Int), i, ()), mcTt x)) a w)
    (hgo : i < again.length → ∀ x' a' w', CarU K t again (i + 1).toNat x' → Kd R0 (fun _ => False) W 280 [] (mkS (mcU mcUx) mcUM ((t0, again, (again.length : Int), i + 1, ()), mcTt x')) a' w' → Q .normal a' w')
    (hend : ¬ i < again.length → ∀ a' w', Kd R0 (fun _ => False) W 280 [] (mkS (mcU mcUx) mcUM ((t0, again, (again.length : Int), i, ()), mcTt x)) a' w' → Q (.exit 6) a' w') :
    CodeTo Try.prog b (loopB 6 (bodyOf (fnOf Try.prog 12))) Q a w := by
  refine CodeTo.seqs ?_
  rw [my_loop]
  show LTo Try.prog b ([mcY 0] ++ [mcY 1, mcY 2, mcY 3]) _ a w
  refine h.piece (C := mkC tys [] []) tysOK ctrs_nil mixed (fn := (fnOf Try.prog 12)) (res := [.bool]) (ts := mcU ((192, .val (.int .i64)) :: (202, .val (.sl .str)) :: (203, .val (.int .i64)) :: (204, .val (.int .i64)) :: [(205, .val .bool)])) (bs := mcUM) (G := fun z => z = (none, some ((t0, again, (again.length : Int), i, decide (i < again.length), ()), mcTt x))) (by kernel_rfl) (by kernel_rfl) ?_ ?_ ?_ (fun h => by cases h)
  · have k8 : pieceT (mkC tys [] []) (fnOf Try.prog 12) [.bool] (mcU ((192, .val (.int .i64)) :: (202, .val (.sl .str)) :: (203, .val (.int .i64)) :: (204, .val (.int .i64)) :: [(205, .val .bool)])) mcUM [mcY 0] (mkS (mcU mcUx) mcUM ((t0, again, (again.length : Int), i, ()), mcTt x)) = _ := congrFun mcy0_tree ((t0, again, (again.length : Int), i, ()), mcTt x)
    exact (congrArg (Tree.holds _) k8).mpr rfl
  · intro z s' a' w' hy; cases hy
  intro z a1 w1 hz k1
  have hz' := Option.some.inj (Prod.mk.inj hz).2
  subst hz'
  refine LTo.cons ?_
  rw [my_1]
  refine CodeTo.cond (t := decide (i < again.length)) (k1.old.bool rfl) ?_
  have k2 := k1.restr (L := { prom := [], keep := (mcU mcUx).map (·.1), boxes := mcUM.map (·.1), sum := fun _ => .stuck }) (s' := mkS (mcU mcUx) mcUM ((t0, again, (again.length : Int), i, ()), mcTt x)) (by kernel_rfl)
  cases hlt : decide (i < again.length) with
  | false =>
    rw [if_neg (by simp)]
    refine CodeTo.exit ?_
    exact hend (of_decide_eq_false hlt) a1 w1 k2
  | true =>
    have hlt' := of_decide_eq_true hlt
    obtain ⟨c1, c2, c3, c4⟩ := car_again hc (by omega)
    obtain ⟨n1, n2⟩ := carU_len hc
    obtain ⟨m1, m2⟩ := carU_len c4
    rw [if_pos rfl]
    refine CodeTo.skip ?_
    refine LTo.cons ?_
    rw [my_2]
    refine CodeTo.block ?_
    refine CodeTo.seqs ?_
    rw [my_in]
    show LTo Try.prog b ([mcYI 0, mcYI 1, mcYI 2, mcYI 3, mcYI 4, mcYI 5, mcYI 6, mcYI 7, mcYI 8, mcYI 9] ++ []) _ a1 w1
    generalize hs : again.getD i.toNat [] = s at c1 c2 c3 c4 m1 m2
    refine k2.piece (C := mkC tys carG []) tysOK carG_ok mixed (fn := (fnOf Try.prog 12)) (res := [.bool]) (ts := mcU mcUx) (bs := mcUM) (G := fun z => z = (none, some ((t0, again, (again.length : Int), i, ()), mcTt ((bif (cameF (hearF x.2.1 (meH 2) (toldF s).1).2.1).2 then leftM x.1 (cameF (hearF x.2.1 (meH 2) (toldF s).1).2.1).1 else x.1), (hearF x.2.1 (meH 2) (toldF s).1).1, x.2.2.1, x.2.2.2 ++ (hearF x.2.1 (meH 2) (toldF s).1).2.2.1)))) (by kernel_rfl) (by kernel_rfl) ?_ ?_ ?_ (fun h => by cases h)
    · have k8 : pieceT (mkC tys carG []) (fnOf Try.prog 12) [.bool] (mcU mcUx) mcUM [mcYI 0, mcYI 1, mcYI 2, mcYI 3, mcYI 4, mcYI 5, mcYI 6, mcYI 7, mcYI 8, mcYI 9] (mkS (mcU mcUx) mcUM ((t0, again, (again.length : Int), i, ()), mcTt x)) = _ := congrFun mcyi_tree ((t0, again, (again.length : Int), i, ()), mcTt x)
      refine (congrArg (Tree.holds _) k8).mpr ?_
      simp only [Tree.holds, hs]
      refine ⟨⟨h0, hlt'⟩, c2, fun g => ?_, fun _ => ⟨?_, fun _ => ?_, rfl⟩⟩
      · exfalso
        have g' : (bif !(toldF s).2 then true else bif (hearF x.2.1 (meH 2) (toldF s).1).2.2.2 != (0 : Int) then (hearF x.2.1 (meH 2) (toldF s).1).2.2.2 != (6 : Int) else false) = true := g
        rw [c1] at g'
        rcases c3 with c3 | c3 <;> rw [c3] at g' <;> cases g'
      · have : (x.2.2.2 ++ (hearF x.2.1 (meH 2) (toldF s).1).2.2.1).length ≤ 8 * K := m1
        rw [List.length_append] at this
        show (x.2.2.2.length + (hearF x.2.1 (meH 2) (toldF s).1).2.2.1.length) * 24 ≤ 140737488355328
        omega
      · show x.1.2.1.length ≤ 100000
        omega
    · intro z s' a' w' hy; cases hy
    intro z a2 w2 hz k3
    have hz' := Option.some.inj (Prod.mk.inj hz).2
    subst hz'
    show LTo Try.prog b ([mcY 3] ++ []) _ a2 w2
    generalize hx : (((bif (cameF (hearF x.2.1 (meH 2) (toldF s).1).2.1).2 then leftM x.1 (cameF (hearF x.2.1 (meH 2) (toldF s).1).2.1).1 else x.1), (hearF x.2.1 (meH 2) (toldF s).1).1, x.2.2.1, x.2.2.2 ++ (hearF x.2.1 (meH 2) (toldF s).1).2.2.1) : McT) = x' at k3 c4
    refine k3.piece (C := mkC tys [] []) tysOK ctrs_nil mixed (fn := (fnOf Try.prog 12)) (res := [.bool]) (ts := mcU mcUx) (bs := mcUM) (G := fun z => z = (none, some ((t0, again, (again.length : Int), i + 1, ()), mcTt x'))) (by kernel_rfl) (by kernel_rfl) ?_ ?_ ?_ (fun h => by cases h)
    · have k8 : pieceT (mkC tys [] []) (fnOf Try.prog 12) [.bool] (mcU mcUx) mcUM [mcY 3] (mkS (mcU mcUx) mcUM ((t0, again, (again.length : Int), i, ()), mcTt x')) = _ := congrFun mcy3_tree ((t0, again, (again.length : Int), i, ()), mcTt x')
      refine (congrArg (Tree.holds _) k8).mpr ?_
      show (none, some ((t0, again, (again.length : Int), IntKind.i64.wrap (i + 1), ()), mcTt x')) = _
      rw [i64_id (n := i + 1) (by omega) (by omega)]
    · intro z s' a' w' hy; cases hy
    intro z a3 w3 hz k4
    have hz' := Option.some.inj (Prod.mk.inj hz).2
    subst hz'
    refine hgo hlt' x' a3 w3 ?_ k4
    rw [show (i + 1).toNat = i.toNat + 1 by omega]
    exact c4
def myI (R0 : Ref) (W : Nat → Option Obj) (K t : Nat) (t0 : Int) (again : List (List UInt8)) (m : Nat) (a : Act) (w : World) : Prop :=
  ∃ (i : Int) (x : McT), 0 ≤ i ∧ i ≤ again.length ∧ (m : Int) = again.length - i ∧ CarU K t again i.toNat x ∧ Kd R0 (fun _ => False) W 280 [] (mkS (mcU mcUx) mcUM ((t0, again, (again.length : Int), i, ()), mcTt x)) a w
theorem mv_round {K : Nat} {t : Int} {x : McT} (hK : K ≤ 1000) (h0 : 0 ≤ t) (h1 : t ≤ 30) (hc : CarT K t.toNat x)
    (h : Kd R0 (fun _ => False) W 280 [] (mkS (mcU mcUi) mcUM ((t, ()), mcTt x)) a w)
    (hgo : t < 30 → ∀ x' a' w', CarT K (t + 1).toNat x' → Kd R0 (fun _ => False) W 280 [] (mkS (mcU mcUi) mcUM ((t + 1, ()), mcTt x')) a' w' → Q .normal a' w')
    (hend : ¬ t < 30 → ∀ a' w', Kd R0 (fun _ => False) W 280 [] (mkS (mcU mcUi) mcUM ((t, ()), mcTt x)) a' w' → Q (.exit 4) a' w') :
    CodeTo Try.prog b (loopB 4 (bodyOf (fnOf Try.prog 12))) Q a w := by
  refine CodeTo.seqs ?_
  rw [mv_loop]
  show LTo Try.prog b ([mcV 0] ++ [mcV 1, mcV 2, mcV 3]) _ a w
  refine h.piece (C := mkC tys [] []) tysOK ctrs_nil mixed (fn := (fnOf Try.prog 12)) (res := [.bool]) (ts := mcU ((192, .val (.int .i64)) :: [(193, .val .bool)])) (bs := mcUM) (G := fun z => z = (none, some ((t, decide (t < 30), ()), mcTt x))) (by kernel_rfl) (by kernel_rfl) ?_ ?_ ?_ (fun h => by cases h)
  · have k8 : pieceT (mkC tys [] []) (fnOf Try.prog 12) [.bool] (mcU ((192, .val (.int .i64)) :: [(193, .val .bool)])) mcUM [mcV 0] (mkS (mcU mcUi) mcUM ((t, ()), mcTt x)) = _ := congrFun mcv0_tree ((t, ()), mcTt x)
    exact (congrArg (Tree.holds _) k8).mpr rfl
  · intro z s' a' w' hy; cases hy
  intro z a1 w1 hz k1
  have hz' := Option.some.inj (Prod.mk.inj hz).2
  subst hz'
  refine LTo.cons ?_
  rw [mv_1]
  refine CodeTo.cond (t := decide (t < 30)) (k1.old.bool rfl) ?_
  have k2 := k1.restr (L := { prom := [], keep := (mcU mcUi).map (·.1), boxes := mcUM.map (·.1), sum := fun _ => .stuck }) (s' := mkS (mcU mcUi) mcUM ((t, ()), mcTt x)) (by kernel_rfl)
  cases hlt : decide (t < 30) with
  | false =>
    rw [if_neg (by simp)]
    refine CodeTo.exit ?_
    exact hend (of_decide_eq_false hlt) a1 w1 k2
  | true =>
    have hlt' := of_decide_eq_true hlt
    obtain ⟨n1, n2⟩ := carT_len hc
    have hu := car_tick hc
    rw [if_pos rfl]
    refine CodeTo.skip ?_
    refine LTo.cons ?_
    rw [mv_2]
    refine CodeTo.block ?_
    refine CodeTo.seqs ?_
    rw [mv_in]
    show LTo Try.prog b ([mcVI 0, mcVI 1, mcVI 2] ++ [mcVI 3]) _ a1 w1
    have hag : (ktickF x.1.2.1 rulesT).2.1.length ≤ 100000 := by
      show ((x.1.2.1.filter (againB rulesT)).map (·.2.1)).length ≤ 100000
      rw [List.length_map]
      have := List.length_filter_le (againB rulesT) x.1.2.1
      omega
    generalize hA : (ktickF x.1.2.1 rulesT).2.1 = again at hu hag
    refine k2.piece (C := mkC tys carG []) tysOK carG_ok mixed (fn := (fnOf Try.prog 12)) (res := [.bool]) (ts := mcU mcUx) (bs := mcUM) (G := fun z => z = (none, some ((t, again, (again.length : Int), 0, ()), mcTt ((x.1.1, (ktickF x.1.2.1 rulesT).1, x.1.2.2), x.2)))) (by kernel_rfl) (by kernel_rfl) ?_ ?_ ?_ (fun h => by cases h)
    · have k8 : pieceT (mkC tys carG []) (fnOf Try.prog 12) [.bool] (mcU mcUx) mcUM [mcVI 0, mcVI 1, mcVI 2] (mkS (mcU mcUi) mcUM ((t, ()), mcTt x)) = _ := congrFun mcvi_tree ((t, ()), mcTt x)
      refine (congrArg (Tree.holds _) k8).mpr ⟨by show x.1.2.1.length ≤ 100000; omega, ?_⟩
      rw [← hA]
      rfl
    · intro z s' a' w' hy; cases hy
    intro z a2 w2 hz k3
    have hz' := Option.some.inj (Prod.mk.inj hz).2
    subst hz'
    refine LTo.cons ?_
    rw [mv_3]
    refine CodeTo.block ?_
    refine CodeTo.loop (myI R0 W K t.toNat t again) again.length ⟨0, ((x.1.1, (ktickF x.1.2.1 rulesT).1, x.1.2.2), x.2), by omega, by omega, by omega, hu, k3⟩ ?_
    rintro m a3 w3 ⟨i, x3, i1, i2, i3, i4, i5⟩
    refine my_round hK hag i1 i2 i4 i5 (fun hl x4 a4 w4 c4 k4 => ⟨m - 1, by omega, i + 1, x4, by omega, by omega, by omega, c4, k4⟩) fun hl a4 w4 k4 => ?_
    have hT := car_over i4 (by omega)
    show LTo Try.prog b ([mcV 3] ++ []) _ a4 w4
    refine k4.piece (C := mkC tys [] []) tysOK ctrs_nil mixed (fn := (fnOf Try.prog 12)) (res := [.bool]) (ts := mcU mcUi) (bs := mcUM) (G := fun z => z = (none, some ((t + 1, ()), mcTt x3))) (by kernel_rfl) (by kernel_rfl) ?_ ?_ ?_ (fun h => by cases h)
    · have k8 : pieceT (mkC tys [] []) (fnOf Try.prog 12) [.bool] (mcU mcUi) mcUM [mcV 3] (mkS (mcU mcUx) mcUM ((t, again, (again.length : Int), i, ()), mcTt x3)) = _ := congrFun mcv3_tree ((t, again, (again.length : Int), i, ()), mcTt x3)
      refine (congrArg (Tree.holds _) k8).mpr ?_
      show (none, some ((IntKind.i64.wrap (t + 1), ()), mcTt x3)) = _
      rw [i64_id (n := t + 1) (by omega) (by omega)]
    · intro z s' a' w' hy; cases hy
    intro z a5 w5 hz k5
    have hz' := Option.some.inj (Prod.mk.inj hz).2
    subst hz'
    refine hgo hlt' x3 a5 w5 ?_ k5
    rw [show (t + 1).toNat = t.toNat + 1 by omega]
    exact hT
end
def mvI (R0 : Ref) (W : Nat → Option Obj) (K : Nat) (m : Nat) (a : Act) (w : World) : Prop :=
  ∃ (t : Int) (x : McT), 0 ≤ t ∧ t ≤ 30 ∧ (m : Int) = 30 - t ∧ CarT K t.toNat x ∧ Kd R0 (fun _ => False) W 280 [] (mkS (mcU mcUi) mcUM ((t, ()), mcTt x)) a w
def mlI (R0 : Ref) (W : Nat → Option Obj) (l : List (List DItem)) (luck : List Int) (m : Nat) (a : Act) (w : World) : Prop :=
  ∃ (j : Int) (y : McS), 0 ≤ j ∧ j ≤ luck.length ∧ (m : Int) = luck.length - j ∧ CarS j.toNat j.toNat y ∧ Kd R0 (fun _ => False) W 280 [] (mkS (mcT []) mcM ((l, luck, (luck.length : Int), j, ()), mcSt y rules19)) a w
theorem resArgs_ctx {τ : Tys} {G G' : List (Nat × Ctr)} {Λ Λ' : List (Nat × LoopSpec)} {s : St} : ∀ l, resArgs (mkC τ G Λ) s l = resArgs (mkC τ G' Λ') s l
  | [] => rfl
  | r :: l => by
    simp only [resArgs, resArgs_ctx (G := G) (Λ := Λ) (G' := G') (Λ' := Λ') l]
    have : resArg (mkC τ G Λ) s r = resArg (mkC τ G' Λ') s r := by cases r <;> rfl
    rw [this]
theorem evRes_ctx {τ : Tys} {G G' : List (Nat × Ctr)} {Λ Λ' : List (Nat × LoopSpec)} {fn : Func} {res : List GTy} {p : Ex × St} : evRes (mkC τ G Λ) fn res p = evRes (mkC τ G' Λ') fn res p := by
  obtain ⟨e, s⟩ := p
  cases e <;> simp only [evRes, resArgs_ctx (G := G) (Λ := Λ) (G' := G') (Λ' := Λ')]
def mcarC : Ctr := { args := [gPcs, .sl (.int .i64)], res := [.bool], pre := some (smallD [gPcs, .sl (.int .i64)]), fn := fun (_ : List (List DItem) × List Int) => true }
theorem mcar_ok : CtrOK Try.prog 12 mcarC :=
  ctr_of_to (C := mkC tys carG []) tysOK (by kernel_rfl) (by kernel_rfl) (by kernel_rfl) (fun x => by rw [mc_n]; show 2 ≤ 280; omega) fun R0 b (x : List (List DItem) × List Int) a0 hbk hw hpre h0 hsz0 hd0 => by
    rw [mc_n] at hsz0
    obtain ⟨l, luck⟩ := x
    have hwl : ∀ x ∈ l, ∀ i ∈ x, wtI i := fun x hx => wt_items (hw.1.2.2 x hx)
    rw [mc_all]
    have k0 := Kd.start (W := fun _ => none) (n := 280) (sl := []) (D := []) h0 hsz0 hd0 (fun _ h => by cases h)
    have fin : ∀ (G : List (Nat × Ctr)) (Λ : List (Nat × LoopSpec)) (s' : St) (a' : Act) (w' : World) (y : Bool), y = true → IsSt R0 s' a' w' → a'.defers = [] → (evRes (mkC tys G Λ) (fnOf Try.prog 12) [.bool] (.normal, s')).holds (fun z => z = y) → finQ (mkC tys carG []) (fnOf Try.prog 12) mcarC.res R0 (mcarC.fn (l, luck)) .ret a' w' := by
      intro G Λ s' a' w' y hy j1 j2 j3
      rw [hy, evRes_ctx (G' := carG) (Λ' := [])] at j3
      exact ⟨.inr rfl, j2, s', j1, j3⟩
    show LTo Try.prog b ([mcB 0, mcB 1, mcB 2, mcB 3, mcB 4, mcB 5, mcB 6, mcB 7, mcB 8, mcB 9] ++ [mcB 10, mcB 11, mcB 12, mcB 13, mcB 14, mcB 15, mcB 16, mcB 17, mcB 18]) _ a0 R0.w0
    refine k0.pieceL (τ := tys) (G := carG) (Λ := [(0, m0D.spec)]) (c0 := bodyOf (fnOf Try.prog 12)) tysOK carG_ok mixed mc_nd (lp_cons m0_loop lp_nil) (fn := (fnOf Try.prog 12)) (res := [.bool]) (ts := mcTn) (bs := mcMn)
      (F := fun z => z = (some true, none) ∨ (l.length ≤ 20 ∧ luck.length ≤ 60 ∧ z = (none, some ((l, luck, (luck.length : Int), 0, ()), (rules19, (0, [], (0, []), []), (0, [], (0, []), []), ())))))
      (fun x hx => ?_) (by kernel_rfl) (by kernel_rfl) ?_ ?_ ?_ ?_
    · simp only [List.mem_cons, List.not_mem_nil, or_false] at hx
      rcases hx with rfl | rfl | rfl | rfl | rfl | rfl | rfl | rfl | rfl | rfl <;> exact ⟨_, rfl⟩
    · have k8 : pieceT (mkC tys carG [(0, m0D.spec)]) (fnOf Try.prog 12) [.bool] mcTn mcMn [mcB 0, mcB 1, mcB 2, mcB 3, mcB 4, mcB 5, mcB 6, mcB 7, mcB 8, mcB 9] { tmps := number 0 (resL [gPcs, .sl (.int .i64)] (l, luck)), boxes := [] } = _ := congrFun m00_tree (l, luck)
      refine (congrArg (Tree.holds _) k8).mpr ?_
      simp only [Tree.holds]
      refine ⟨fun _ => .inl rfl, fun g => ?_⟩
      have g1 : l.length ≤ 20 := by
        cases hd : decide ((l.length : Int) > 20) with
        | true => rw [hd] at g; cases g
        | false => have := of_decide_eq_false hd; omega
      have g2 : luck.length ≤ 60 := by
        cases hd : decide ((luck.length : Int) > 60) with
        | true => rw [hd] at g; cases hh : decide ((l.length : Int) > 20) <;> rw [hh] at g <;> cases g
        | false => have := of_decide_eq_false hd; omega
      have hP : m0Pre ((l, luck, false, l, (l.length : Int), (0 : Int), PUnit.unit), PUnit.unit) := ⟨Int.le_refl _, by show (0 : Int) ≤ (l.length : Int); omega, rfl, by show (l.length : Int) ≤ 100000; omega⟩
      have key := m0_run _ _ hP (Nat.lt_succ_self _)
      refine ⟨hP, ?_⟩
      generalize runF m0Stp _ _ = v at key ⊢
      rcases key with ⟨q1, q2⟩ | ⟨q1, q2, q3⟩
      · rw [q1, q2]
        exact ⟨fun _ => .inl rfl, (fun g => by cases g)⟩
      · rw [q1, q2, q3]
        exact ⟨(fun g => by cases g), fun _ => .inr ⟨g1, g2, rfl⟩⟩
    · intro y s' a' w' hy j1 j2 j3
      rcases hy with hy | ⟨_, _, hy⟩
      · exact fin _ _ s' a' w' y (Option.some.inj (Prod.mk.inj hy).1) j1 j2 j3
      · cases hy
    · intro z a1 w1 hz k1
      rcases hz with hz | ⟨hl, hlk, hz⟩
      · cases hz
      have hz' := Option.some.inj (Prod.mk.inj hz).2
      subst hz'
      have k2 := k1.rows (l := [(10, 1010, 9, .str), (11, 1011, 9, .str), (12, 1012, 29, .sl gItem), (13, 1013, 29, .sl gItem)]) (L := { prom := [], keep := (mcT []).map (·.1), boxes := mcM.map (·.1), sum := fun _ => .stuck }) (s' := mkS (mcT []) mcM ((l, luck, (luck.length : Int), 0, ()), mcSt ((0, [], (0, []), []), (0, [], (0, []), []), [], [], [], []) rules19)) (by kernel_rfl)
      refine LTo.cons ?_
      rw [mc_10]
      refine CodeTo.block ?_
      refine CodeTo.loop (mlI R0 (fun _ => none) l luck) luck.length ⟨0, ((0, [], (0, []), []), (0, [], (0, []), []), [], [], [], []), by omega, by omega, by omega, car_new, k2⟩ ?_
      rintro m a2 w2 ⟨j, y, j1, j2, j3, j4, j5⟩
      refine mc_round hl hlk hwl j1 j2 j4 j5 (fun hlt y3 a3 w3 c3 k3 => ⟨m - 1, by omega, j + 1, y3, by omega, by omega, by omega, c3, k3⟩) fun hlt a3 w3 k3 => ?_
      have hT := car_turn (j4.more (k' := 60) (kb' := 60) (by omega) (by omega))
      show LTo Try.prog b ([mcB 11] ++ [mcB 12, mcB 13, mcB 14, mcB 15, mcB 16, mcB 17, mcB 18]) _ a3 w3
      refine k3.piece (C := mkC tys [] []) tysOK ctrs_nil mixed (fn := (fnOf Try.prog 12)) (res := [.bool]) (ts := mcU mcUi) (bs := mcUM) (G := fun z => z = (none, some ((0, ()), mcTt (y.1, y.2.1, y.2.2.2.2)))) (by kernel_rfl) (by kernel_rfl) ?_ ?_ ?_ (fun h => by cases h)
      · have k8 : pieceT (mkC tys [] []) (fnOf Try.prog 12) [.bool] (mcU mcUi) mcUM [mcB 11] (mkS (mcT []) mcM ((l, luck, (luck.length : Int), j, ()), mcSt y rules19)) = _ := congrFun m40_tree ((l, luck, (luck.length : Int), j, ()), mcSt y rules19)
        exact (congrArg (Tree.holds _) k8).mpr rfl
      · intro z s' a' w' hy; cases hy
      intro z a4 w4 hz k4
      have hz' := Option.some.inj (Prod.mk.inj hz).2
      subst hz'
      refine LTo.cons ?_
      rw [mc_12]
      refine CodeTo.block ?_
      refine CodeTo.loop (mvI R0 (fun _ => none) 60) 30 ⟨0, (y.1, y.2.1, y.2.2.2.2), by omega, by omega, by omega, hT, k4⟩ ?_
      rintro m5 a5 w5 ⟨t, x, t1, t2, t3, t4, t5⟩
      refine mv_round (by omega) t1 t2 t4 t5 (fun hlt x6 a6 w6 c6 k6 => ⟨m5 - 1, by omega, t + 1, x6, by omega, by omega, by omega, c6, k6⟩) fun hlt a6 w6 k6 => ?_
      obtain ⟨e1, e2, e3⟩ := car_end t4 (by omega)
      obtain ⟨n1, n2⟩ := carT_len t4
      show LTo Try.prog b ([mcB 13, mcB 14, mcB 15] ++ [mcB 16, mcB 17, mcB 18]) _ a6 w6
      refine k6.piece (C := mkC tys [] []) tysOK ctrs_nil mixed (fn := (fnOf Try.prog 12)) (res := [.bool]) (ts := mcU mcUe) (bs := mcUM) (G := fun z => z = (none, some (((x.2.2.2.length : Int), 0, ()), mcTt x))) (by kernel_rfl) (by kernel_rfl) ?_ ?_ ?_ (fun h => by cases h)
      · have k8 : pieceT (mkC tys [] []) (fnOf Try.prog 12) [.bool] (mcU mcUe) mcUM [mcB 13, mcB 14, mcB 15] (mkS (mcU mcUi) mcUM ((t, ()), mcTt x)) = _ := congrFun m13_tree ((t, ()), mcTt x)
        refine (congrArg (Tree.holds _) k8).mpr ⟨fun g => ?_, fun _ => rfl⟩
        exfalso
        have g' : ((x.2.2.2.length : Int) != (x.2.2.1.length : Int)) = true := g
        rw [e1] at g'
        simp at g'
      · intro z s' a' w' hy; cases hy
      intro z a7 w7 hz k7
      have hz' := Option.some.inj (Prod.mk.inj hz).2
      subst hz'
      show LTo Try.prog b ([mcB 16, mcB 17, mcB 18] ++ []) _ a7 w7
      refine k7.pieceL (τ := tys) (G := carG) (Λ := [(8, m8D.spec)]) (c0 := bodyOf (fnOf Try.prog 12)) tysOK carG_ok mixed mc_nd (lp_cons m8_loop lp_nil) (fn := (fnOf Try.prog 12)) (res := [.bool]) (ts := []) (bs := []) (F := fun z => z = (some true, none)) (fun x hx => ?_) (by kernel_rfl) (by kernel_rfl) ?_ ?_ ?_ (fun h => by cases h)
      · simp only [List.mem_cons, List.not_mem_nil, or_false] at hx
        rcases hx with rfl | rfl | rfl <;> exact ⟨_, rfl⟩
      · have k8 : pieceT (mkC tys carG [(8, m8D.spec)]) (fnOf Try.prog 12) [.bool] [] [] [mcB 16, mcB 17, mcB 18] (mkS (mcU mcUe) mcUM (((x.2.2.2.length : Int), 0, ()), mcTt x)) = _ := congrFun m16_tree (((x.2.2.2.length : Int), 0, ()), mcTt x)
        refine (congrArg (Tree.holds _) k8).mpr ⟨⟨e1, Int.le_refl _, by show (0 : Int) ≤ (x.2.2.2.length : Int); omega, rfl, by show (x.2.2.2.length : Int) ≤ 100000; omega⟩, ?_⟩
        show (some (bif bif idleF x.1 then idleF x.2.1 else false then true else false), none) = _
        rw [e2, e3]
        rfl
      · intro y s' a' w' hy j1 j2 j3
        exact fin _ _ s' a' w' y (Option.some.inj (Prod.mk.inj hy).1) j1 j2 j3
      · intro z a' w' hz; cases hz
    · rintro (h | ⟨_, _, h⟩) <;> cases h
end Go.Ev.P
