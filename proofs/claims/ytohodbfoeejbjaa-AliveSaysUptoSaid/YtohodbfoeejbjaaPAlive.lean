/- The functions of 'alive' keep their contracts. -/
import Derived.Test.YtohodbfoeejbjaaPT
import Derived.Test.YtohodbfoeejbjaaEvAlive
set_option linter.unusedVariables false
set_option linter.unusedSimpArgs false
namespace Go.Ev.P
open Go.Proofs Go.Conc
def dueC : Ctr := { args := [gPort], res := [.bool], pre := none, fn := fun (x : DPort) => dueF x }
def dueG : List (Nat × Ctr) := []
theorem due_tree : (fun x : DPort => evFn (mkC tys dueG []) (fnOf Try.prog 18) (resL dueC.args x) dueC.res) =
  (fun x => Tree.leaf (bif x.1 != (0 : Int) then decide (x.2.2.2.2.1 ≤ (1 : Int)) else false)) := by kernel_rfl
theorem due_ok : CtrOK Try.prog 18 dueC :=
  fun_ok (G := dueG) (Λ := []) tysOK ctrs_nil mixed (by kernel_rfl) (by kernel_rfl) (by kernel_rfl) (by kernel_rfl) lp_nil fun (x : DPort) hw _ => by
    rw [congrFun due_tree x]
    exact holds_val (d := dueC.fn x) (by kernel_rfl) (by simp [Tree.safe])
def heardC : Ctr := { args := [gPort], res := [gPort], pre := none, fn := fun (x : DPort) => heardF x }
def heardG : List (Nat × Ctr) := []
theorem heard_tree : (fun x : DPort => evFn (mkC tys heardG []) (fnOf Try.prog 20) (resL heardC.args x) heardC.res) =
  (fun x => Tree.leaf (x.1, x.2.1, x.2.2.1, (0 : Int), x.2.2.2.2)) := by kernel_rfl
theorem heard_ok : CtrOK Try.prog 20 heardC :=
  fun_ok (G := heardG) (Λ := []) tysOK ctrs_nil mixed (by kernel_rfl) (by kernel_rfl) (by kernel_rfl) (by kernel_rfl) lp_nil fun (x : DPort) hw _ => by
    rw [congrFun heard_tree x]
    exact holds_val (d := heardC.fn x) (by kernel_rfl) (by simp [Tree.safe])
def tickG : List (Nat × Ctr) := [(18, dueC)]
theorem tickG_ok : CtrsOK Try.prog (fun f => lk f tickG) := (ctrs_cons due_ok ctrs_nil)
def tickC : Ctr := { args := [gPort, gRules], res := [gPort, .bool, .bool], pre := none, fn := fun (x : DPort × DRules) => tickF x.1 x.2 }
noncomputable def tickB (i : Nat) : Code := (seqs (bodyOf (fnOf Try.prog 15))).getD i .skip
noncomputable def tickX (i : Nat) : Code := (seqs (thenOf (tickB 8))).getD i .skip
theorem tickA_tree : (fun x : DPort × DRules => pieceT (mkC tys tickG []) (fnOf Try.prog 15) [gPort, .bool, .bool] tkS tkM [tickB 0, tickB 1, tickB 2, tickB 3, tickB 4, tickB 5] { tmps := number 0 (resL [gPort, gRules] x), boxes := [] }) =
  (fun x =>
    Tree.br (x.1.1 == (0 : Int)) (Tree.leaf (some (x.1, false, false), none))
      (Tree.leaf
        (none,
          some
            ((dueF x.1, ()),
              bif dueF x.1 then (x.1.1, x.1.2.1, x.1.2.2.1, x.1.2.2.2.1, if x.2.1 < (1 : Int) then (1 : Int) else x.2.1, x.1.2.2.2.2.2)
              else (x.1.1, x.1.2.1, x.1.2.2.1, x.1.2.2.2.1, IntKind.wrap IntKind.i64 (x.1.2.2.2.2.1 - (1 : Int)), x.1.2.2.2.2.2),
              x.2, ((0 : Int), ((0 : Int), (0 : Int)), ((0 : Int), (0 : Int)), (0 : Int), (0 : Int), (0 : Int), [], ((0 : Int), []), []), ())))) := by kernel_rfl
theorem tick8_tree : (fun x : (Bool × Unit) × DPort × DRules × DPort × Unit => pieceT (mkC tys tickG []) (fnOf Try.prog 15) [gPort, .bool, .bool] (tkT 27) tkM [tickB 7] (mkS tkS tkM x)) =
  (fun x => Tree.leaf (none, some ((x.1.1, x.2.1.1 == (2 : Int), ()), x.2.1, x.2.2.1, x.2.2.2.1, ()))) := by kernel_rfl
theorem tickX_tree : (fun x : (Bool × Bool × Unit) × DPort × DRules × DPort × Unit => pieceT (mkC tys tickG []) (fnOf Try.prog 15) [gPort, .bool, .bool] (tkT 41) tkM [tickX 0, tickX 1, tickX 2] (mkS (tkT 27) tkM x)) =
  (fun x =>
    Tree.leaf
      (none,
        some
          ((x.1.1,
              decide
                ((bif decide (x.2.1.2.2.2.1 < x.2.2.1.2.1) then (x.2.1.1, x.2.1.2.1, x.2.1.2.2.1, IntKind.wrap IntKind.i64 (x.2.1.2.2.2.1 + (1 : Int)), x.2.1.2.2.2.2) else x.2.1).2.2.2.1 ≥ x.2.2.1.2.1),
              ()),
            bif decide (x.2.1.2.2.2.1 < x.2.2.1.2.1) then (x.2.1.1, x.2.1.2.1, x.2.1.2.2.1, IntKind.wrap IntKind.i64 (x.2.1.2.2.2.1 + (1 : Int)), x.2.1.2.2.2.2) else x.2.1, x.2.2.1, x.2.2.2.1, ()))) := by kernel_rfl
theorem tickF_tree : (fun x : (Bool × Bool × Unit) × DPort × DRules × DPort × Unit => pieceT (mkC tys tickG []) (fnOf Try.prog 15) [gPort, .bool, .bool] tkS tkM [tickB 11] (mkS (tkT 48) tkM x)) =
  (fun x => Tree.br x.1.2.1 (Tree.leaf (some (x.2.1, x.1.1, true), none)) (Tree.leaf (some (x.2.1, x.1.1, false), none))) := by kernel_rfl

abbrev TkX := (Bool × Unit) × DPort × DRules × DPort × Unit
theorem tick_all : seqs (bodyOf (fnOf Try.prog 15)) = [tickB 0, tickB 1, tickB 2, tickB 3, tickB 4, tickB 5, tickB 6, tickB 7, tickB 8, tickB 9, tickB 10, tickB 11] := by kernel_rfl
theorem tick_then : seqs (thenOf (tickB 8)) = [tickX 0, tickX 1, tickX 2, tickX 3] := by kernel_rfl
theorem tick_6 : tickB 6 = .region 7 (opsOf (tickB 6)) false := by kernel_rfl
theorem tick_8 : tickB 8 = .cond (.tmp 27) (thenOf (tickB 8)) .skip := by kernel_rfl
theorem tick_9 : tickB 9 = .region 13 (opsOf (tickB 9)) false := by kernel_rfl
theorem tick_10 : tickB 10 = .region 14 (opsOf (tickB 10)) false := by kernel_rfl
theorem tick_x3 : tickX 3 = .cond (.tmp 41) (thenOf (tickX 3)) .skip := by kernel_rfl
theorem tick_12 : thenOf (tickX 3) = .region 12 (opsOf (thenOf (tickX 3))) false := by kernel_rfl
theorem i64_zero (w : World) : (zeroValue 3).run Try.prog w = .ok (.int .i64 0) w := by
  obtain ⟨ti, h1, h2, h3⟩ := (tysOK 3 ⟨.int .i64, 0, 8, 0⟩ (by kernel_rfl)).info
  have h4 : ti.zero = some (.int .i64 0) := h3
  simp [zeroValue, typeInfo, h1, h4]

attribute [local irreducible] fnOf bodyOf

def tickQ (R0 : Ref) (y : DPort × Bool × Bool) : Exit → Act → World → Prop := finQ (mkC tys tickG []) (fnOf Try.prog 15) [gPort, .bool, .bool] R0 y

theorem tick_tail (R0 : Ref) (b : Frame) (hb : b.kind ≠ .early) {c sn rn : Nat} {buf : Array Value} {x : TkX} {a : Act} {w : World} (h : Hd R0 c (.chan 1 buf false sn rn false) 53 8 (mkS tkS tkM x) a w) :
    LTo Try.prog b [tickB 9, tickB 10, tickB 11] (tickQ R0 (x.2.1, x.1.1, !buf.isEmpty)) a w := by
  show CodeTo Try.prog b (tickB 9) (Exit.then (LTo Try.prog b [tickB 10, tickB 11] (tickQ R0 (x.2.1, x.1.1, !buf.isEmpty))) (tickQ R0 (x.2.1, x.1.1, !buf.isEmpty))) a w
  rw [tick_9]
  refine CodeTo.region ?_
  rw [show List.range (opsOf (tickB 9)).size = [0] by kernel_rfl]
  refine h.move (o := opOf (tickB 9) 0) (k := 45) (by kernel_rfl) (by kernel_rfl) (by kernel_rfl) (by kernel_rfl) rfl (by omega) (by omega) fun a1 h1 hc1 => ?_
  refine RegTo.nil ?_
  show CodeTo Try.prog b (tickB 10) (Exit.then (LTo Try.prog b [tickB 11] (tickQ R0 (x.2.1, x.1.1, !buf.isEmpty))) (tickQ R0 (x.2.1, x.1.1, !buf.isEmpty))) a1 w
  rw [tick_10]
  refine CodeTo.region ?_
  rw [show List.range (opsOf (tickB 10)).size = [0, 1, 2] by kernel_rfl]
  refine h1.select (o := opOf (tickB 10) 0) (k := 46) (x := 45) (et := 3) (z := .int .i64 0) (by kernel_rfl) (by kernel_rfl) hb (by kernel_rfl) (by kernel_rfl) hc1 (i64_zero w) (by omega) (by omega) fun buf' rn' a2 w2 h2 => ?_
  have hm : ((if buf.isEmpty = true then (-1 : Int) else 0) == 0) = !buf.isEmpty := by cases buf.isEmpty <;> rfl
  generalize (if buf.isEmpty = true then (-1 : Int) else 0) = m at h2 hm
  refine h2.op (C := mkC tys tickG []) tysOK tickG_ok (o := opOf (tickB 10) 1) (e := ⟨.val (.int .i64) m, [], none⟩) (by kernel_rfl) (by kernel_rfl) (by kernel_rfl) (fun p hp => by cases hp) (dst_ok (show (opOf (tickB 10) 1).dst = some 47 by kernel_rfl) rfl) fun a3 w3 h3 _ => ?_
  refine h3.op (C := mkC tys tickG []) tysOK tickG_ok (o := opOf (tickB 10) 2) (e := ⟨.val .bool (m == 0), [], none⟩) (by kernel_rfl) (by kernel_rfl) (by kernel_rfl) (fun p hp => by cases hp) (dst_ok (show (opOf (tickB 10) 2).dst = some 48 by kernel_rfl) rfl) fun a4 w4 h4 _ => ?_
  refine RegTo.nil ?_
  have h5 := h4.restr (L := { prom := [], keep := (tkT 48).map (·.1), boxes := tkM.map (·.1), sum := fun _ => .stuck }) (s' := mkS (tkT 48) tkM ((x.1.1, m == 0, ()), x.2)) (by kernel_rfl)
  rw [hm] at h5
  show LTo Try.prog b ([tickB 11] ++ []) (tickQ R0 (x.2.1, x.1.1, !buf.isEmpty)) a4 w4
  refine h5.piece (C := mkC tys tickG []) tysOK tickG_ok mixed (fn := fnOf Try.prog 15) (res := [gPort, .bool, .bool]) (ts := tkS) (bs := tkM) (G := fun p => p = (some (x.2.1, x.1.1, !buf.isEmpty), none)) (by kernel_rfl) ?_ ?_ ?_ ?_
  · rw [congrFun tickF_tree _]
    simp only [Tree.holds]
    cases buf.isEmpty <;> simp
  · intro y s' a' w' hy k1 k2 k3
    simp only [Prod.mk.injEq, Option.some.injEq, and_true] at hy
    exact ⟨.inr rfl, k2, s', k1, by rw [← hy]; exact k3⟩
  · intro y a' w' hy; cases hy
  · intro hy; cases hy

theorem make_chan (w : World) {a : Act} {o : Oper} (ho : o.op = .makeChan 127 (.const (.int .i64 1))) : (execOp a.eval o).run Try.prog w = .ok (.value (.chan (some w.heap.size))) (w.alloc (.chan 1 #[] false 0 0 false)) := by
  have hu : Try.prog.underlying 127 = some (.chan .both 3) := by kernel_rfl
  have hb : (Try.prog.info? 3).map (·.bytes) = some 8 := by kernel_rfl
  obtain ⟨i, hi, hb⟩ := Option.map_eq_some_iff.1 hb
  have h1 := run_makeChan (P := Try.prog) (w := w) hu hi .i64 1 (by omega) (by rw [hb]; omega)
  have h2 : (Instr.makeChan 127 (.int .i64 1)).run Try.prog w = .ok (.chan (some w.heap.size)) (w.alloc (.chan 1 #[] false 0 0 false)) := by simpa using h1
  have he : a.eval (.const (.int .i64 1)) = .int .i64 1 := rfl
  unfold execOp
  rw [ho]
  simp [he, h2]

theorem tick_send (R0 : Ref) (b : Frame) (hb : b.kind ≠ .early) {c : Nat} {x : TkX} {y : DPort × Bool × Bool} {a : Act} {w : World} (h : Hd R0 c (.chan 1 #[] false 0 0 false) 53 8 (mkS tkS tkM x) a w) (hy : (x.2.1, x.1.1, true) = y) :
    CodeTo Try.prog b (thenOf (tickX 3)) (Exit.then (LTo Try.prog b [tickB 9, tickB 10, tickB 11] (tickQ R0 y)) (tickQ R0 y)) a w := by
  rw [tick_12]
  refine CodeTo.region ?_
  rw [show List.range (opsOf (thenOf (tickX 3))).size = [0, 1, 2, 3] by kernel_rfl]
  refine h.move (o := opOf (thenOf (tickX 3)) 0) (k := 42) (by kernel_rfl) (by kernel_rfl) (by kernel_rfl) (by kernel_rfl) rfl (by omega) (by omega) fun a1 h1 hc1 => ?_
  refine h1.op (C := mkC tys tickG []) tysOK tickG_ok (o := opOf (thenOf (tickX 3)) 1) (e := (opEff tys (fun f => lk f tickG) 43 (opOf (thenOf (tickX 3)) 1) ((mkS tkS tkM x).args (opOf (thenOf (tickX 3)) 1))).getD ⟨.undef, [], none⟩) (by kernel_rfl) (by kernel_rfl) (by kernel_rfl) (fun p hp => ?_) (dst_ok (show (opOf (thenOf (tickX 3)) 1).dst = some 43 by kernel_rfl) rfl) fun a2 w2 h2 k2 => ?_
  · have : ((opEff tys (fun f => lk f tickG) 43 (opOf (thenOf (tickX 3)) 1) ((mkS tkS tkM x).args (opOf (thenOf (tickX 3)) 1))).getD ⟨.undef, [], none⟩).need = none := by kernel_rfl
    rw [this] at hp; cases hp
  have hc2 := (k2 42 (by rw [show (opOf (thenOf (tickX 3)) 1).dst = some 43 by kernel_rfl]; intro e; cases e)).trans hc1
  refine h2.op (C := mkC tys tickG []) tysOK tickG_ok (o := opOf (thenOf (tickX 3)) 2) (e := ⟨.val (.int .i64) x.2.1.2.2.2.1, [], none⟩) (by kernel_rfl) (by kernel_rfl) (by kernel_rfl) (fun p hp => by cases hp) (dst_ok (show (opOf (thenOf (tickX 3)) 2).dst = some 44 by kernel_rfl) rfl) fun a3 w3 h3 k3 => ?_
  have hc3 := (k3 42 (by rw [show (opOf (thenOf (tickX 3)) 2).dst = some 44 by kernel_rfl]; intro e; cases e)).trans hc2
  refine h3.send (o := opOf (thenOf (tickX 3)) 3) (k := 42) (y := .tmp 44) (by kernel_rfl) (by kernel_rfl) hb (by kernel_rfl) (by kernel_rfl) hc3 (by decide) fun v w4 h4 => ?_
  refine RegTo.nil ?_
  have h5 := h4.restr (L := { prom := [], keep := tkS.map (·.1), boxes := tkM.map (·.1), sum := fun _ => .stuck }) (s' := mkS tkS tkM x) (by kernel_rfl)
  have := tick_tail R0 b hb h5
  have e : (!(#[].push v).isEmpty) = true := by simp
  rw [e, hy] at this
  exact this

theorem tick_ok : CtrOK Try.prog 15 tickC :=
  ctr_of_to (C := mkC tys tickG []) tysOK (by kernel_rfl) (by kernel_rfl) (by kernel_rfl) (fun x => by rw [show (fnOf Try.prog 15).ntmps = 53 by kernel_rfl]; show 2 ≤ 53; omega) fun R0 b (x : DPort × DRules) a0 hbk _ _ h0 hsz0 hd0 => by
    rw [show (fnOf Try.prog 15).ntmps = 53 by kernel_rfl] at hsz0
    rw [tick_all]
    show LTo Try.prog b ([tickB 0, tickB 1, tickB 2, tickB 3, tickB 4, tickB 5] ++ [tickB 6, tickB 7, tickB 8, tickB 9, tickB 10, tickB 11]) (tickQ R0 (tickF x.1 x.2)) a0 R0.w0
    have hcalm : calmL 53 60 [tickB 0, tickB 1, tickB 2, tickB 3, tickB 4, tickB 5] = true := by kernel_rfl
    have hA : (pieceT (mkC tys tickG []) (fnOf Try.prog 15) [gPort, .bool, .bool] tkS tkM [tickB 0, tickB 1, tickB 2, tickB 3, tickB 4, tickB 5] { tmps := number 0 (resL [gPort, gRules] x), boxes := [] }).holds fun p =>
        ((x.1.1 == (0 : Int)) = true ∧ p = (some (x.1, false, false), none)) ∨ ((x.1.1 == (0 : Int)) = false ∧ p = (none, some ((dueF x.1, ()), stepF x.2 x.1, x.2, ((0 : Int), ((0 : Int), (0 : Int)), ((0 : Int), (0 : Int)), (0 : Int), (0 : Int), (0 : Int), [], ((0 : Int), []), []), ()))) := by
      rw [congrFun tickA_tree x]
      simp only [Tree.holds]
      exact ⟨fun h => .inl ⟨h, trivial⟩, fun h => .inr ⟨h, rfl⟩⟩
    have h0' : IsSt R0 { tmps := number 0 (resL [gPort, gRules] x), boxes := [] } a0 R0.w0 := h0
    refine piece_to (C := mkC tys tickG []) tysOK tickG_ok mixed (fn := fnOf Try.prog 15) (res := [gPort, .bool, .bool]) (ts := tkS) (bs := tkM) (calmL_lam hcalm) (fun y hy t ht => by rw [hsz0]; exact (calmL_wr hcalm y hy t ht).1) h0' hA ?_ ?_ ?_
    · intro y s' a' w' hy k1 k2 k3
      rcases hy with ⟨e, hy⟩ | ⟨_, hy⟩
      · simp only [Prod.mk.injEq, Option.some.injEq, and_true] at hy
        refine ⟨.inr rfl, k2.trans hd0, s', k1, ?_⟩
        have : tickF x.1 x.2 = y := by rw [hy]; simp only [tickF, e]; rfl
        rw [this]; exact k3
      · cases hy
    · intro y a1 w1 hy k1 k2 k3 _
      rcases hy with ⟨_, hy⟩ | ⟨e, hy⟩
      · cases hy
      simp only [Prod.mk.injEq, Option.some.injEq, true_and] at hy
      subst hy
      show CodeTo Try.prog b (tickB 6) (Exit.then (LTo Try.prog b [tickB 7, tickB 8, tickB 9, tickB 10, tickB 11] (tickQ R0 (tickF x.1 x.2))) (tickQ R0 (tickF x.1 x.2))) a1 w1
      rw [tick_6]
      refine CodeTo.region ?_
      rw [show List.range (opsOf (tickB 6)).size = [0, 1] by kernel_rfl]
      refine RegTo.value (o := opOf (tickB 6) 0) (v := .chan (some w1.heap.size)) (w' := w1.alloc (.chan 1 #[] false 0 0 false)) (by kernel_rfl) (by kernel_rfl) (make_chan w1 (by kernel_rfl)) ?_
      rw [show (opOf (tickB 6) 0).dst = some 24 by kernel_rfl]
      have hsz1 : a1.tmps.size = 53 := k2.trans hsz0
      have k4 := (k1.grows (Grows.alloc w1 (.chan 1 #[] false 0 0 false))).put_undef (d := 24) (v := .chan (some w1.heap.size)) rfl (by rw [hsz1]; omega)
      have e24 : (a1.put (some 24) (.chan (some w1.heap.size))).eval (.tmp 24) = .chan (some w1.heap.size) := put_at (by rw [hsz1]; omega)
      have hsz2 : (a1.put (some 24) (.chan (some w1.heap.size))).tmps.size = 53 := (put_size _ _ _).trans hsz1
      have hd2 : (a1.put (some 24) (.chan (some w1.heap.size))).defers = [] := (put_defers' _ _ _).trans (k3.trans hd0)
      generalize a1.put (some 24) (.chan (some w1.heap.size)) = a2 at k4 e24 hsz2 hd2 ⊢
      refine RegTo.value (o := opOf (tickB 6) 1) (v := .chan (some w1.heap.size)) (w' := w1.alloc (.chan 1 #[] false 0 0 false)) (by kernel_rfl) (by kernel_rfl) ?_ ?_
      · unfold execOp
        rw [show (opOf (tickB 6) 1).op = .assign (.tmp 24) by kernel_rfl]
        simp only [e24]
        rfl
      rw [show (opOf (tickB 6) 1).dst = some 8 by kernel_rfl]
      refine RegTo.nil ?_
      have k5 := at_make (n := 53) (d := 8) (k4.put_undef (d := 8) (v := .chan (some w1.heap.size)) rfl (by rw [hsz2]; omega)) k1.grow ((put_size _ _ _).trans hsz2) ((put_defers' _ _ _).trans hd2) (put_at (by rw [hsz2]; omega))
      generalize a2.put (some 8) (.chan (some w1.heap.size)) = a3 at k5 ⊢
      generalize w1.heap.size = c at k5
      generalize w1.alloc (.chan 1 #[] false 0 0 false) = w3 at k5 ⊢
      show LTo Try.prog b ([tickB 7] ++ [tickB 8, tickB 9, tickB 10, tickB 11]) (tickQ R0 (tickF x.1 x.2)) a3 w3
      refine k5.piece (C := mkC tys tickG []) tysOK tickG_ok mixed (fn := fnOf Try.prog 15) (res := [gPort, .bool, .bool]) (ts := tkT 27) (bs := tkM) (G := fun p => p = (none, some ((dueF x.1, (stepF x.2 x.1).1 == (2 : Int), ()), stepF x.2 x.1, x.2, ((0 : Int), ((0 : Int), (0 : Int)), ((0 : Int), (0 : Int)), (0 : Int), (0 : Int), (0 : Int), [], ((0 : Int), []), []), ()))) (by kernel_rfl) ?_ ?_ ?_ ?_
      · rw [congrFun tick8_tree _]
        rfl
      · intro y s' a' w' hy; cases hy
      · intro y a4 w4 hy k6
        simp only [Prod.mk.injEq, Option.some.injEq, true_and] at hy
        subst hy
        show CodeTo Try.prog b (tickB 8) (Exit.then (LTo Try.prog b [tickB 9, tickB 10, tickB 11] (tickQ R0 (tickF x.1 x.2))) (tickQ R0 (tickF x.1 x.2))) a4 w4
        rw [tick_8]
        refine CodeTo.cond (t := (stepF x.2 x.1).1 == (2 : Int)) (k6.old.bool rfl) ?_
        cases h2 : (stepF x.2 x.1).1 == (2 : Int) with
        | false =>
          refine CodeTo.skip ?_
          have k7 := k6.restr (L := { prom := [], keep := tkS.map (·.1), boxes := tkM.map (·.1), sum := fun _ => .stuck }) (s' := mkS tkS tkM ((dueF x.1, ()), stepF x.2 x.1, x.2, ((0 : Int), ((0 : Int), (0 : Int)), ((0 : Int), (0 : Int)), (0 : Int), (0 : Int), (0 : Int), [], ((0 : Int), []), []), ())) (by kernel_rfl)
          have := tick_tail R0 b hbk k7
          have e2 : tickF x.1 x.2 = (stepF x.2 x.1, dueF x.1, false) := by simp only [tickF, e, h2]; rfl
          rw [e2]
          exact this
        | true =>
          have e2 : tickF x.1 x.2 = (quietF x.2 (stepF x.2 x.1), dueF x.1, decide ((quietF x.2 (stepF x.2 x.1)).2.2.2.1 ≥ x.2.2.1)) := by simp only [tickF, e, h2]; rfl
          rw [e2]
          rw [if_pos rfl]
          refine CodeTo.seqs ?_
          rw [tick_then]
          generalize hq : Exit.then (LTo Try.prog b [tickB 9, tickB 10, tickB 11] (tickQ R0 (quietF x.2 (stepF x.2 x.1), dueF x.1, decide ((quietF x.2 (stepF x.2 x.1)).2.2.2.1 ≥ x.2.2.1)))) (tickQ R0 (quietF x.2 (stepF x.2 x.1), dueF x.1, decide ((quietF x.2 (stepF x.2 x.1)).2.2.2.1 ≥ x.2.2.1))) = Q1
          show LTo Try.prog b ([tickX 0, tickX 1, tickX 2] ++ [tickX 3]) Q1 a4 w4
          refine k6.piece (C := mkC tys tickG []) tysOK tickG_ok mixed (fn := fnOf Try.prog 15) (res := [gPort, .bool, .bool]) (ts := tkT 41) (bs := tkM) (G := fun p => p = (none, some ((dueF x.1, decide ((quietF x.2 (stepF x.2 x.1)).2.2.2.1 ≥ x.2.2.1), ()), quietF x.2 (stepF x.2 x.1), x.2, ((0 : Int), ((0 : Int), (0 : Int)), ((0 : Int), (0 : Int)), (0 : Int), (0 : Int), (0 : Int), [], ((0 : Int), []), []), ()))) (by kernel_rfl) ?_ ?_ ?_ ?_
          · rw [congrFun tickX_tree _]
            rfl
          · intro y s' a' w' hy; cases hy
          · intro y a5 w5 hy k7
            simp only [Prod.mk.injEq, Option.some.injEq, true_and] at hy
            subst hy
            have k8 := k7.restr (L := { prom := [], keep := tkS.map (·.1), boxes := tkM.map (·.1), sum := fun _ => .stuck }) (s' := mkS tkS tkM ((dueF x.1, ()), quietF x.2 (stepF x.2 x.1), x.2, ((0 : Int), ((0 : Int), (0 : Int)), ((0 : Int), (0 : Int)), (0 : Int), (0 : Int), (0 : Int), [], ((0 : Int), []), []), ())) (by kernel_rfl)
            refine CodeTo.mono (Q := Q1) ?_ (fun e a w hq => by cases e <;> exact hq)
            rw [tick_x3]
            refine CodeTo.cond (t := decide ((quietF x.2 (stepF x.2 x.1)).2.2.2.1 ≥ x.2.2.1)) (k7.old.bool rfl) ?_
            cases h3 : decide ((quietF x.2 (stepF x.2 x.1)).2.2.2.1 ≥ x.2.2.1) with
            | false =>
              rw [h3] at hq
              refine CodeTo.skip ?_
              rw [← hq]
              exact tick_tail R0 b hbk k8
            | true =>
              rw [h3] at hq
              rw [← hq]
              exact tick_send R0 b hbk k8 rfl
          · intro hy; cases hy
      · intro hy; cases hy
    · rintro (⟨_, h⟩ | ⟨_, h⟩) <;> cases h
end Go.Ev.P
