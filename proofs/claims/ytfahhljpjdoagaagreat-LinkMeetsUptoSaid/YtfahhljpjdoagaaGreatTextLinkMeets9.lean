/- What is kept, a tick later; items and acks read. -/
import Derived.Shelf.Spec.SlicesGrow
import Derived.Test.YtfahhljpjdoagaaGreatTextLinkMeets8

set_option linter.unusedVariables false
set_option linter.unusedSimpArgs false
namespace Go.Ev.Z
open Go.Proofs
theorem rt_loop : LoopOK (mkC tys [] [(0, rtD.spec)]) rtD.spec (loopB 0 (bodyOf (fnOf Tryz.prog 70))) :=
  loopD_ok1 (fun _ => rfl) (fun x => congrFun rt_round x) (fun (x : RtS) => (x.1.2.1 - x.1.2.2.1).toNat) fun (x : RtS) hp => by
    obtain ⟨⟨d, n, i, ⟨⟩⟩, r, row, ag, ⟨⟩⟩ := x
    obtain ⟨h1, h2, h3, h4, h5, h6, h7⟩ := hp
    simp only at h1 h2 h3 h4 h5 h6 h7
    have hz : ((0 : Int), ([] : List UInt8), (0 : Int), (0 : Int)) = kept0 := rfl
    simp only [Tree.holds, hz]
    refine ⟨fun h => ?_, fun h => ?_⟩
    · have h' : i < n := of_decide_eq_true h
      have hlt : i.toNat < row.length := by omega
      have hs : ∀ v : DKept, (row.set i.toNat v).getD i.toNat kept0 = v := fun v => set_same hlt
      have hd := drop_elt (l := row) kept0 h1 (by omega)
      have hk : ok64 (row.getD i.toNat kept0) := h7 _ (by rw [hd]; exact List.mem_cons_self ..)
      have hstep := row_step (tick1 r) (row := row) h1 (by omega)
      simp only [hs, List.set_set, List.length_set]
      have hset : row.set i.toNat (row.getD i.toNat kept0) = row := by
        rw [set_at _ _ hlt]
        have := drop_elt (l := row) kept0 h1 (by omega)
        rw [show (i + 1).toNat = i.toNat + 1 by omega] at this
        rw [← this, List.take_append_drop]
      generalize hK : row.getD i.toNat kept0 = K at hd hk hstep hset ⊢
      have hrow : (bif decide (K.2.2.2 > 1) then row.set i.toNat (K.1, K.2.1, K.2.2.1, IntKind.i64.wrap (K.2.2.2 - 1)) else bif decide (K.2.2.1 ≥ r.2.2.2) then row else row.set i.toNat (K.1, K.2.1, IntKind.i64.wrap (K.2.2.1 + 1), r.2.2.1)) = row.set i.toNat (tick1 r K) := by
        unfold tick1
        by_cases hA : K.2.2.2 > 1
        · rw [decide_eq_true hA, i64_id (n := K.2.2.2 - 1) (by omega) (by have := hk.2.2; omega)]
          rfl
        · rw [decide_eq_false hA]
          by_cases hB : K.2.2.1 ≥ r.2.2.2
          · rw [decide_eq_true hB]
            simp only [cond_false, cond_true]
            exact hset.symm
          · rw [decide_eq_false hB, i64_id (n := K.2.2.1 + 1) (by have := hk.1.1; omega) (by omega)]
            rfl
      have hag : (bif decide (K.2.2.2 > 1) then ag else bif decide (K.2.2.1 ≥ r.2.2.2) then ag else ag ++ [K.2.1]) = ag ++ (bif againB r K then [K.2.1] else []) := by
        unfold againB
        cases decide (K.2.2.2 > 1) <;> cases decide (K.2.2.1 ≥ r.2.2.2) <;> simp
      have hdead : (bif decide (K.2.2.2 > 1) then d else bif decide (K.2.2.1 ≥ r.2.2.2) then true else d) = (d || deadB r K) := by
        unfold deadB
        cases decide (K.2.2.2 > 1) <;> cases decide (K.2.2.1 ≥ r.2.2.2) <;> simp
      rw [hrow, hag, hdead, i64_id (n := i + 1) (by omega) (by omega)]
      have hin : (0 : Int) ≤ i ∧ i < row.length := ⟨h1, by omega⟩
      refine ⟨hin, fun _ => hin, fun _ => hin, fun _ => hin, fun _ _ => hin, fun _ _ => hin, fun _ _ => hin, fun _ _ => hin, fun _ _ => by omega, _, rfl, ⟨by show 0 ≤ i + 1; omega, by show i + 1 ≤ n; omega, ?_, h4, ?_, h6, ?_⟩, by show (n - (i + 1)).toNat < (n - i).toNat; omega, ?_⟩
      · show n = ((row.set i.toNat (tick1 r K)).length : Int)
        rw [List.length_set]; exact h3
      · show ((ag ++ (bif againB r K then [K.2.1] else [])).length : Int) ≤ i + 1
        rw [List.length_append]
        cases againB r K <;> simp <;> omega
      · intro y hy
        have hy' : y ∈ (row.set i.toNat (tick1 r K)).drop (i + 1).toNat := hy
        rw [List.drop_set_of_lt (by omega)] at hy'
        exact h7 y (by rw [hd]; exact List.mem_cons_of_mem _ hy')
      · show (Ex.exit 0, (((d || deadB r K) || ((row.set i.toNat (tick1 r K)).drop (i + 1).toNat).any (deadB r), n, n, ()), (r, (row.set i.toNat (tick1 r K)).take (i + 1).toNat ++ ((row.set i.toNat (tick1 r K)).drop (i + 1).toNat).map (tick1 r), (ag ++ (bif againB r K then [K.2.1] else [])) ++ (((row.set i.toNat (tick1 r K)).drop (i + 1).toNat).filter (againB r)).map (·.2.1), ()))) = (Ex.exit 0, ((d || (row.drop i.toNat).any (deadB r), n, n, ()), (r, row.take i.toNat ++ (row.drop i.toNat).map (tick1 r), ag ++ ((row.drop i.toNat).filter (againB r)).map (·.2.1), ())))
        rw [hstep, List.drop_set_of_lt (by omega), hd, List.any_cons, Bool.or_assoc, List.filter_cons, List.append_assoc]
        cases againB r K <;> rfl
    · have h' : ¬ i < n := of_decide_eq_false h
      have hi : i = n := by omega
      subst hi
      refine ⟨_, rfl, ?_⟩
      show (Ex.exit 0, ((d || (row.drop i.toNat).any (deadB r), i, i, ()), (r, row.take i.toNat ++ (row.drop i.toNat).map (tick1 r), ag ++ ((row.drop i.toNat).filter (againB r)).map (·.2.1), ()))) = _
      rw [List.drop_eq_nil_of_le (by omega), List.take_of_length_le (by omega)]
      simp
      rfl
theorem rtick_ok : CtrOK Tryz.prog 70 rtickC :=
  fun_ok (G := []) (Λ := [(0, rtD.spec)]) tysOK ctrs_nil mixed (by kernel_rfl) (by kernel_rfl) (by kernel_rfl) (by kernel_rfl) (lp_cons rt_loop lp_nil) fun (x : List DKept × DRules) hw hp => by
    have hx : x.1.length ≤ 100000 := hp (fun (x : List DKept × DRules) => x.1.length ≤ 100000) rfl
    rw [congrFun rtick_tree x]
    have e : rtickC.fn x = ktickF x.1 x.2 := rfl
    rw [e]
    simp only [Tree.holds]
    have hr : x.2.2.2.2 ≤ 9223372036854775807 := ((has_i64 _).1 hw.2.2.2.2).2
    refine ⟨by omega, ⟨Int.le_refl _, by show (0 : Int) ≤ (x.1.length : Int); omega, rfl, by show (x.1.length : Int) ≤ 100000; omega, Int.le_refl _, hr, fun y hy => ?_⟩, ?_⟩
    · have hm : y ∈ x.1 := hy
      have := hw.1.2.2 y hm
      exact ⟨(has_i64 _).1 this.2.2.1, (has_i64 _).1 this.2.2.2⟩
    · simp [ktickF]
      rfl
def ireadG : List (Nat × Ctr) := [(60, takeC), (52, iokC)]
theorem ireadG_ok : CtrsOK Tryz.prog (fun f => lk f ireadG) := (ctrs_cons take_ok (ctrs_cons iok_ok ctrs_nil))
noncomputable def ireadL : List (Nat × LoopSpec) := [(0, rounds (mkC tys ireadG []) (loopB 0 (bodyOf (fnOf Tryz.prog 81))) [] [2, 3, 4, 5, 6, 18, 19] [2, 5] 4)]
def ireadC : Ctr := { args := [.str], res := [gItem, .str, .int .i64], pre := none, fn := fun (x : List UInt8) => itemRF x }
theorem iread_tree : (fun x : List UInt8 => evFn (mkC tys ireadG ireadL) (fnOf Tryz.prog 81) (resL ireadC.args x) ireadC.res) = (fun x => Tree.br (decide ((↑(List.length x) : Int) < (6 : Int))) (Tree.leaf (((0 : Int), (0 : Int), (0 : Int), (0 : Int)), [], (2 : Int))) (Tree.br true (Tree.need ((0 : Int) ≤ (0 : Int) ∧ (0 : Int) < (3 : Int)) (Tree.br ((takeF x (1 : Int)).2.2 != (0 : Int)) (Tree.leaf (((0 : Int), (0 : Int), (0 : Int), (0 : Int)), [], (takeF x (1 : Int)).2.2)) (Tree.need ((0 : Int) ≤ (0 : Int) ∧ (0 : Int) < (3 : Int)) (Tree.br true (Tree.need ((0 : Int) ≤ (1 : Int) ∧ (1 : Int) < (3 : Int)) (Tree.br ((takeF (takeF x (1 : Int)).2.1 (4 : Int)).2.2 != (0 : Int)) (Tree.leaf (((0 : Int), (0 : Int), (0 : Int), (0 : Int)), [], (takeF (takeF x (1 : Int)).2.1 (4 : Int)).2.2)) (Tree.need ((0 : Int) ≤ (1 : Int) ∧ (1 : Int) < (3 : Int)) (Tree.br true (Tree.need ((0 : Int) ≤ (2 : Int) ∧ (2 : Int) < (3 : Int)) (Tree.br ((takeF (takeF (takeF x (1 : Int)).2.1 (4 : Int)).2.1 (1 : Int)).2.2 != (0 : Int)) (Tree.leaf (((0 : Int), (0 : Int), (0 : Int), (0 : Int)), [], (takeF (takeF (takeF x (1 : Int)).2.1 (4 : Int)).2.1 (1 : Int)).2.2)) (Tree.need ((0 : Int) ≤ (2 : Int) ∧ (2 : Int) < (3 : Int)) (Tree.br false (Tree.need ((0 : Int) ≤ (3 : Int) ∧ (3 : Int) < (3 : Int)) (Tree.br ((takeF (takeF (takeF (takeF x (1 : Int)).2.1 (4 : Int)).2.1 (1 : Int)).2.1 (List.getD [(1 : Int), (4 : Int), (1 : Int)] (3 : Nat) (0 : Int))).2.2 != (0 : Int)) (Tree.leaf (((0 : Int), (0 : Int), (0 : Int), (0 : Int)), [], (takeF (takeF (takeF (takeF x (1 : Int)).2.1 (4 : Int)).2.1 (1 : Int)).2.1 (List.getD [(1 : Int), (4 : Int), (1 : Int)] (3 : Nat) (0 : Int))).2.2)) (Tree.need ((0 : Int) ≤ (3 : Int) ∧ (3 : Int) < (3 : Int)) Tree.stuck))) (Tree.br (!itemOk (IntKind.wrap IntKind.i64 (Int.tdiv (List.getD (bif IntKind.wrap IntKind.i64 (takeF (takeF (takeF x (1 : Int)).2.1 (4 : Int)).2.1 (1 : Int)).1 == (255 : Int) then [IntKind.wrap IntKind.i64 (takeF x (1 : Int)).1, IntKind.wrap IntKind.i64 (takeF (takeF x (1 : Int)).2.1 (4 : Int)).1, (-1 : Int)] else [IntKind.wrap IntKind.i64 (takeF x (1 : Int)).1, IntKind.wrap IntKind.i64 (takeF (takeF x (1 : Int)).2.1 (4 : Int)).1, IntKind.wrap IntKind.i64 (takeF (takeF (takeF x (1 : Int)).2.1 (4 : Int)).2.1 (1 : Int)).1]) (0 : Nat) (0 : Int)) (16 : Int)), Int.tmod (List.getD (bif IntKind.wrap IntKind.i64 (takeF (takeF (takeF x (1 : Int)).2.1 (4 : Int)).2.1 (1 : Int)).1 == (255 : Int) then [IntKind.wrap IntKind.i64 (takeF x (1 : Int)).1, IntKind.wrap IntKind.i64 (takeF (takeF x (1 : Int)).2.1 (4 : Int)).1, (-1 : Int)] else [IntKind.wrap IntKind.i64 (takeF x (1 : Int)).1, IntKind.wrap IntKind.i64 (takeF (takeF x (1 : Int)).2.1 (4 : Int)).1, IntKind.wrap IntKind.i64 (takeF (takeF (takeF x (1 : Int)).2.1 (4 : Int)).2.1 (1 : Int)).1]) (0 : Nat) (0 : Int)) (16 : Int), IntKind.wrap IntKind.u32 (List.getD (bif IntKind.wrap IntKind.i64 (takeF (takeF (takeF x (1 : Int)).2.1 (4 : Int)).2.1 (1 : Int)).1 == (255 : Int) then [IntKind.wrap IntKind.i64 (takeF x (1 : Int)).1, IntKind.wrap IntKind.i64 (takeF (takeF x (1 : Int)).2.1 (4 : Int)).1, (-1 : Int)] else [IntKind.wrap IntKind.i64 (takeF x (1 : Int)).1, IntKind.wrap IntKind.i64 (takeF (takeF x (1 : Int)).2.1 (4 : Int)).1, IntKind.wrap IntKind.i64 (takeF (takeF (takeF x (1 : Int)).2.1 (4 : Int)).2.1 (1 : Int)).1]) (1 : Nat) (0 : Int)), List.getD (bif IntKind.wrap IntKind.i64 (takeF (takeF (takeF x (1 : Int)).2.1 (4 : Int)).2.1 (1 : Int)).1 == (255 : Int) then [IntKind.wrap IntKind.i64 (takeF x (1 : Int)).1, IntKind.wrap IntKind.i64 (takeF (takeF x (1 : Int)).2.1 (4 : Int)).1, (-1 : Int)] else [IntKind.wrap IntKind.i64 (takeF x (1 : Int)).1, IntKind.wrap IntKind.i64 (takeF (takeF x (1 : Int)).2.1 (4 : Int)).1, IntKind.wrap IntKind.i64 (takeF (takeF (takeF x (1 : Int)).2.1 (4 : Int)).2.1 (1 : Int)).1]) (2 : Nat) (0 : Int))) (Tree.leaf (((0 : Int), (0 : Int), (0 : Int), (0 : Int)), [], (3 : Int))) (Tree.leaf ((IntKind.wrap IntKind.i64 (Int.tdiv (List.getD (bif IntKind.wrap IntKind.i64 (takeF (takeF (takeF x (1 : Int)).2.1 (4 : Int)).2.1 (1 : Int)).1 == (255 : Int) then [IntKind.wrap IntKind.i64 (takeF x (1 : Int)).1, IntKind.wrap IntKind.i64 (takeF (takeF x (1 : Int)).2.1 (4 : Int)).1, (-1 : Int)] else [IntKind.wrap IntKind.i64 (takeF x (1 : Int)).1, IntKind.wrap IntKind.i64 (takeF (takeF x (1 : Int)).2.1 (4 : Int)).1, IntKind.wrap IntKind.i64 (takeF (takeF (takeF x (1 : Int)).2.1 (4 : Int)).2.1 (1 : Int)).1]) (0 : Nat) (0 : Int)) (16 : Int)), Int.tmod (List.getD (bif IntKind.wrap IntKind.i64 (takeF (takeF (takeF x (1 : Int)).2.1 (4 : Int)).2.1 (1 : Int)).1 == (255 : Int) then [IntKind.wrap IntKind.i64 (takeF x (1 : Int)).1, IntKind.wrap IntKind.i64 (takeF (takeF x (1 : Int)).2.1 (4 : Int)).1, (-1 : Int)] else [IntKind.wrap IntKind.i64 (takeF x (1 : Int)).1, IntKind.wrap IntKind.i64 (takeF (takeF x (1 : Int)).2.1 (4 : Int)).1, IntKind.wrap IntKind.i64 (takeF (takeF (takeF x (1 : Int)).2.1 (4 : Int)).2.1 (1 : Int)).1]) (0 : Nat) (0 : Int)) (16 : Int), IntKind.wrap IntKind.u32 (List.getD (bif IntKind.wrap IntKind.i64 (takeF (takeF (takeF x (1 : Int)).2.1 (4 : Int)).2.1 (1 : Int)).1 == (255 : Int) then [IntKind.wrap IntKind.i64 (takeF x (1 : Int)).1, IntKind.wrap IntKind.i64 (takeF (takeF x (1 : Int)).2.1 (4 : Int)).1, (-1 : Int)] else [IntKind.wrap IntKind.i64 (takeF x (1 : Int)).1, IntKind.wrap IntKind.i64 (takeF (takeF x (1 : Int)).2.1 (4 : Int)).1, IntKind.wrap IntKind.i64 (takeF (takeF (takeF x (1 : Int)).2.1 (4 : Int)).2.1 (1 : Int)).1]) (1 : Nat) (0 : Int)), List.getD (bif IntKind.wrap IntKind.i64 (takeF (takeF (takeF x (1 : Int)).2.1 (4 : Int)).2.1 (1 : Int)).1 == (255 : Int) then [IntKind.wrap IntKind.i64 (takeF x (1 : Int)).1, IntKind.wrap IntKind.i64 (takeF (takeF x (1 : Int)).2.1 (4 : Int)).1, (-1 : Int)] else [IntKind.wrap IntKind.i64 (takeF x (1 : Int)).1, IntKind.wrap IntKind.i64 (takeF (takeF x (1 : Int)).2.1 (4 : Int)).1, IntKind.wrap IntKind.i64 (takeF (takeF (takeF x (1 : Int)).2.1 (4 : Int)).2.1 (1 : Int)).1]) (2 : Nat) (0 : Int)), (takeF (takeF (takeF x (1 : Int)).2.1 (4 : Int)).2.1 (1 : Int)).2.1, (0 : Int)))))))) (Tree.br (!itemOk (IntKind.wrap IntKind.i64 (Int.tdiv (List.getD (bif (0 : Int) == (255 : Int) then [IntKind.wrap IntKind.i64 (takeF x (1 : Int)).1, IntKind.wrap IntKind.i64 (takeF (takeF x (1 : Int)).2.1 (4 : Int)).1, (-1 : Int)] else [IntKind.wrap IntKind.i64 (takeF x (1 : Int)).1, IntKind.wrap IntKind.i64 (takeF (takeF x (1 : Int)).2.1 (4 : Int)).1, (0 : Int)]) (0 : Nat) (0 : Int)) (16 : Int)), Int.tmod (List.getD (bif (0 : Int) == (255 : Int) then [IntKind.wrap IntKind.i64 (takeF x (1 : Int)).1, IntKind.wrap IntKind.i64 (takeF (takeF x (1 : Int)).2.1 (4 : Int)).1, (-1 : Int)] else [IntKind.wrap IntKind.i64 (takeF x (1 : Int)).1, IntKind.wrap IntKind.i64 (takeF (takeF x (1 : Int)).2.1 (4 : Int)).1, (0 : Int)]) (0 : Nat) (0 : Int)) (16 : Int), IntKind.wrap IntKind.u32 (List.getD (bif (0 : Int) == (255 : Int) then [IntKind.wrap IntKind.i64 (takeF x (1 : Int)).1, IntKind.wrap IntKind.i64 (takeF (takeF x (1 : Int)).2.1 (4 : Int)).1, (-1 : Int)] else [IntKind.wrap IntKind.i64 (takeF x (1 : Int)).1, IntKind.wrap IntKind.i64 (takeF (takeF x (1 : Int)).2.1 (4 : Int)).1, (0 : Int)]) (1 : Nat) (0 : Int)), List.getD (bif (0 : Int) == (255 : Int) then [IntKind.wrap IntKind.i64 (takeF x (1 : Int)).1, IntKind.wrap IntKind.i64 (takeF (takeF x (1 : Int)).2.1 (4 : Int)).1, (-1 : Int)] else [IntKind.wrap IntKind.i64 (takeF x (1 : Int)).1, IntKind.wrap IntKind.i64 (takeF (takeF x (1 : Int)).2.1 (4 : Int)).1, (0 : Int)]) (2 : Nat) (0 : Int))) (Tree.leaf (((0 : Int), (0 : Int), (0 : Int), (0 : Int)), [], (3 : Int))) (Tree.leaf ((IntKind.wrap IntKind.i64 (Int.tdiv (List.getD (bif (0 : Int) == (255 : Int) then [IntKind.wrap IntKind.i64 (takeF x (1 : Int)).1, IntKind.wrap IntKind.i64 (takeF (takeF x (1 : Int)).2.1 (4 : Int)).1, (-1 : Int)] else [IntKind.wrap IntKind.i64 (takeF x (1 : Int)).1, IntKind.wrap IntKind.i64 (takeF (takeF x (1 : Int)).2.1 (4 : Int)).1, (0 : Int)]) (0 : Nat) (0 : Int)) (16 : Int)), Int.tmod (List.getD (bif (0 : Int) == (255 : Int) then [IntKind.wrap IntKind.i64 (takeF x (1 : Int)).1, IntKind.wrap IntKind.i64 (takeF (takeF x (1 : Int)).2.1 (4 : Int)).1, (-1 : Int)] else [IntKind.wrap IntKind.i64 (takeF x (1 : Int)).1, IntKind.wrap IntKind.i64 (takeF (takeF x (1 : Int)).2.1 (4 : Int)).1, (0 : Int)]) (0 : Nat) (0 : Int)) (16 : Int), IntKind.wrap IntKind.u32 (List.getD (bif (0 : Int) == (255 : Int) then [IntKind.wrap IntKind.i64 (takeF x (1 : Int)).1, IntKind.wrap IntKind.i64 (takeF (takeF x (1 : Int)).2.1 (4 : Int)).1, (-1 : Int)] else [IntKind.wrap IntKind.i64 (takeF x (1 : Int)).1, IntKind.wrap IntKind.i64 (takeF (takeF x (1 : Int)).2.1 (4 : Int)).1, (0 : Int)]) (1 : Nat) (0 : Int)), List.getD (bif (0 : Int) == (255 : Int) then [IntKind.wrap IntKind.i64 (takeF x (1 : Int)).1, IntKind.wrap IntKind.i64 (takeF (takeF x (1 : Int)).2.1 (4 : Int)).1, (-1 : Int)] else [IntKind.wrap IntKind.i64 (takeF x (1 : Int)).1, IntKind.wrap IntKind.i64 (takeF (takeF x (1 : Int)).2.1 (4 : Int)).1, (0 : Int)]) (2 : Nat) (0 : Int)), (takeF (takeF x (1 : Int)).2.1 (4 : Int)).2.1, (0 : Int)))))))) (Tree.br (!itemOk (IntKind.wrap IntKind.i64 (Int.tdiv (List.getD (bif (0 : Int) == (255 : Int) then [IntKind.wrap IntKind.i64 (takeF x (1 : Int)).1, (0 : Int), (-1 : Int)] else [IntKind.wrap IntKind.i64 (takeF x (1 : Int)).1, (0 : Int), (0 : Int)]) (0 : Nat) (0 : Int)) (16 : Int)), Int.tmod (List.getD (bif (0 : Int) == (255 : Int) then [IntKind.wrap IntKind.i64 (takeF x (1 : Int)).1, (0 : Int), (-1 : Int)] else [IntKind.wrap IntKind.i64 (takeF x (1 : Int)).1, (0 : Int), (0 : Int)]) (0 : Nat) (0 : Int)) (16 : Int), IntKind.wrap IntKind.u32 (List.getD (bif (0 : Int) == (255 : Int) then [IntKind.wrap IntKind.i64 (takeF x (1 : Int)).1, (0 : Int), (-1 : Int)] else [IntKind.wrap IntKind.i64 (takeF x (1 : Int)).1, (0 : Int), (0 : Int)]) (1 : Nat) (0 : Int)), List.getD (bif (0 : Int) == (255 : Int) then [IntKind.wrap IntKind.i64 (takeF x (1 : Int)).1, (0 : Int), (-1 : Int)] else [IntKind.wrap IntKind.i64 (takeF x (1 : Int)).1, (0 : Int), (0 : Int)]) (2 : Nat) (0 : Int))) (Tree.leaf (((0 : Int), (0 : Int), (0 : Int), (0 : Int)), [], (3 : Int))) (Tree.leaf ((IntKind.wrap IntKind.i64 (Int.tdiv (List.getD (bif (0 : Int) == (255 : Int) then [IntKind.wrap IntKind.i64 (takeF x (1 : Int)).1, (0 : Int), (-1 : Int)] else [IntKind.wrap IntKind.i64 (takeF x (1 : Int)).1, (0 : Int), (0 : Int)]) (0 : Nat) (0 : Int)) (16 : Int)), Int.tmod (List.getD (bif (0 : Int) == (255 : Int) then [IntKind.wrap IntKind.i64 (takeF x (1 : Int)).1, (0 : Int), (-1 : Int)] else [IntKind.wrap IntKind.i64 (takeF x (1 : Int)).1, (0 : Int), (0 : Int)]) (0 : Nat) (0 : Int)) (16 : Int), IntKind.wrap IntKind.u32 (List.getD (bif (0 : Int) == (255 : Int) then [IntKind.wrap IntKind.i64 (takeF x (1 : Int)).1, (0 : Int), (-1 : Int)] else [IntKind.wrap IntKind.i64 (takeF x (1 : Int)).1, (0 : Int), (0 : Int)]) (1 : Nat) (0 : Int)), List.getD (bif (0 : Int) == (255 : Int) then [IntKind.wrap IntKind.i64 (takeF x (1 : Int)).1, (0 : Int), (-1 : Int)] else [IntKind.wrap IntKind.i64 (takeF x (1 : Int)).1, (0 : Int), (0 : Int)]) (2 : Nat) (0 : Int)), (takeF x (1 : Int)).2.1, (0 : Int)))))))) (Tree.br true (Tree.leaf (((0 : Int), (0 : Int), (0 : Int), (0 : Int)), [], (3 : Int))) (Tree.leaf (((0 : Int), (0 : Int), (0 : Int), (0 : Int)), x, (0 : Int)))))) := by kernel_rfl
theorem iread_ok : CtrOK Tryz.prog 81 ireadC :=
  fun_ok (G := ireadG) (Λ := ireadL) tysOK ireadG_ok mixed (by kernel_rfl) (by kernel_rfl) (by kernel_rfl) (by kernel_rfl) (lp_cons (rounds_ok0 rfl rfl rfl (by kernel_rfl)) lp_nil) fun (x : List UInt8) hw _ => by
    rw [congrFun iread_tree x]
    have e : ireadC.fn x = itemRF x := rfl
    rw [e]
    unfold itemRF
    by_cases h : (x.length : Int) < 6
    · simp only [Tree.holds, decide_eq_true h]
      exact ⟨fun _ => rfl, fun h => (by cases h)⟩
    · have t0 : takeF x 1 = (byteN x 0, x.drop 1, 0) := take_byte (s := x) (k := 0) (by omega)
      have t1 : takeF (x.drop 1) 4 = (big4 (x.drop 1), x.drop 5, 0) := take_four (s := x) (k := 1) (by omega)
      have t2 : takeF (x.drop 5) 1 = (byteN x 5, x.drop 6, 0) := take_byte (s := x) (k := 5) (by omega)
      have b0 := byteN_in x 0
      have b5 := byteN_in x 5
      have b4 := big4_in (x.drop 1)
      have e0 : IntKind.i64.wrap (byteN x 0) = byteN x 0 := i64_id (by omega) (by omega)
      have e5 : IntKind.i64.wrap (byteN x 5) = byteN x 5 := i64_id (by omega) (by omega)
      have e4 : IntKind.i64.wrap (big4 (x.drop 1)) = big4 (x.drop 1) := i64_id (by omega) (by omega)
      have e6 : IntKind.u32.wrap (big4 (x.drop 1)) = big4 (x.drop 1) := u32_id (by omega) (by omega)
      have e7 : IntKind.i64.wrap (Int.tdiv (byteN x 0) 16) = Int.tdiv (byteN x 0) 16 := by rw [Int.tdiv_eq_ediv_of_nonneg (by omega)]; exact i64_id (by omega) (by omega)
      simp only [Tree.holds, decide_eq_false h, t0, t1, t2, e0, e4, e5]
      have key : ∀ b : Bool, imkF x = (IntKind.i64.wrap (Int.tdiv ((bif byteN x 5 == (255 : Int) then [byteN x 0, big4 (x.drop 1), (-1 : Int)] else [byteN x 0, big4 (x.drop 1), byteN x 5]).getD 0 0) 16), Int.tmod ((bif byteN x 5 == (255 : Int) then [byteN x 0, big4 (x.drop 1), (-1 : Int)] else [byteN x 0, big4 (x.drop 1), byteN x 5]).getD 0 0) 16, IntKind.u32.wrap ((bif byteN x 5 == (255 : Int) then [byteN x 0, big4 (x.drop 1), (-1 : Int)] else [byteN x 0, big4 (x.drop 1), byteN x 5]).getD 1 0), (bif byteN x 5 == (255 : Int) then [byteN x 0, big4 (x.drop 1), (-1 : Int)] else [byteN x 0, big4 (x.drop 1), byteN x 5]).getD 2 0) := by
        intro _
        unfold imkF
        cases byteN x 5 == (255 : Int) with
        | true => simp only [cond_true, List.getD_cons_zero, List.getD_cons_succ, e6, e7]
        | false => simp only [cond_false, List.getD_cons_zero, List.getD_cons_succ, e6, e7]
      rw [← key true]
      generalize imkF x = v
      cases itemOk v <;> simp [item0] <;> rfl
def areadG : List (Nat × Ctr) := [(58, rightC), (59, readC), (60, takeC)]
theorem areadG_ok : CtrsOK Tryz.prog (fun f => lk f areadG) := (ctrs_cons right_ok (ctrs_cons read_ok (ctrs_cons take_ok ctrs_nil)))
def areadC : Ctr := { args := [.str], res := [gAck, .int .i64], pre := none, fn := fun (x : List UInt8) => ackRF x }
theorem aread_tree : (fun x : List UInt8 => evFn (mkC tys areadG []) (fnOf Tryz.prog 34) (resL areadC.args x) areadC.res) = (fun x => Tree.br (decide ((↑(List.length x) : Int) < (20 : Int))) (Tree.leaf (((0 : Int), (((0 : Int), (0 : Int)), (0 : Int), (0 : Int)), (0 : Int), (0 : Int)), (2 : Int))) (Tree.need ((0 : Int) ≤ (0 : Int) ∧ (0 : Int) < (↑(List.length x) : Int)) (Tree.br (bif decide ((↑(List.length x) : Int) > (20 : Int)) then true else !rightF (IntKind.wrap IntKind.i64 (↑(UInt8.toNat (List.getD x (0 : Nat) (0 : UInt8))) : Int))) (Tree.leaf (((0 : Int), (((0 : Int), (0 : Int)), (0 : Int), (0 : Int)), (0 : Int), (0 : Int)), (3 : Int))) (Tree.need ((0 : Int) ≤ (1 : Int) ∧ (1 : Int) ≤ (↑(List.length x) : Int)) (Tree.br ((readF (List.drop (1 : Nat) x)).2.2 != (0 : Int)) (Tree.leaf (((0 : Int), (((0 : Int), (0 : Int)), (0 : Int), (0 : Int)), (0 : Int), (0 : Int)), (readF (List.drop (1 : Nat) x)).2.2)) (Tree.br ((takeF (readF (List.drop (1 : Nat) x)).2.1 (2 : Int)).2.2 != (0 : Int)) (Tree.leaf (((0 : Int), (((0 : Int), (0 : Int)), (0 : Int), (0 : Int)), (0 : Int), (0 : Int)), (takeF (readF (List.drop (1 : Nat) x)).2.1 (2 : Int)).2.2)) (Tree.br ((takeF (takeF (readF (List.drop (1 : Nat) x)).2.1 (2 : Int)).2.1 (1 : Int)).2.2 != (0 : Int)) (Tree.leaf (((0 : Int), (((0 : Int), (0 : Int)), (0 : Int), (0 : Int)), (0 : Int), (0 : Int)), (takeF (takeF (readF (List.drop (1 : Nat) x)).2.1 (2 : Int)).2.1 (1 : Int)).2.2)) (Tree.leaf ((IntKind.wrap IntKind.i64 (↑(UInt8.toNat (List.getD x (0 : Nat) (0 : UInt8))) : Int), (readF (List.drop (1 : Nat) x)).1, IntKind.wrap IntKind.i64 (takeF (readF (List.drop (1 : Nat) x)).2.1 (2 : Int)).1, IntKind.wrap IntKind.i64 (takeF (takeF (readF (List.drop (1 : Nat) x)).2.1 (2 : Int)).2.1 (1 : Int)).1), (0 : Int)))))))))) := by kernel_rfl
def iunallG : List (Nat × Ctr) := [(81, ireadC)]
theorem aread_ok : CtrOK Tryz.prog 34 areadC :=
  fun_ok (G := areadG) (Λ := []) tysOK areadG_ok mixed (by kernel_rfl) (by kernel_rfl) (by kernel_rfl) (by kernel_rfl) lp_nil fun (x : List UInt8) hw _ => by
    rw [congrFun aread_tree x]
    have e : areadC.fn x = ackRF x := rfl
    rw [e]
    unfold ackRF
    simp only [Tree.holds]
    have b0 := byteN_in x 0
    have e0 : IntKind.i64.wrap ((UInt8.toNat (List.getD x 0 0) : Nat) : Int) = byteN x 0 := i64_id (n := byteN x 0) (by omega) (by omega)
    rw [e0]
    refine ⟨fun h => by rw [h]; rfl, fun h => ?_⟩
    have hl : 20 ≤ x.length := by have := of_decide_eq_false h; omega
    rw [h]
    refine ⟨by omega, fun h2 => by rw [h2]; rfl, fun h2 => ?_⟩
    have hg : decide ((x.length : Int) > 20) = false := by
      cases hd : decide ((x.length : Int) > 20) with
      | false => rfl
      | true => rw [hd] at h2; cases h2
    have hl2 : x.length = 20 := by have := of_decide_eq_false hg; omega
    have er : (readF (x.drop 1)).2 = (x.drop 17, 0) := by
      unfold readF
      rw [decide_eq_false (by rw [List.length_drop]; omega)]
      simp [List.drop_drop]
    have t1 : takeF (x.drop 17) 2 = (big2 (x.drop 17), x.drop 19, 0) := take_two (s := x) (k := 17) (by omega)
    have t2 : takeF (x.drop 19) 1 = (byteN x 19, x.drop 20, 0) := take_byte (s := x) (k := 19) (by omega)
    have b2 := big2_in (x.drop 17)
    have b19 := byteN_in x 19
    rw [er, t1]
    simp only
    rw [t2, h2, i64_id (n := big2 (x.drop 17)) (by omega) (by omega), i64_id (n := byteN x 19) (by omega) (by omega)]
    refine ⟨by omega, fun h3 => (by cases h3), fun _ => ⟨fun h3 => (by cases h3), fun _ => ⟨fun h3 => (by cases h3), fun _ => rfl⟩⟩⟩
def iuD : LoopD where
  prom := [(4, 1004, 66, gItem)]
  ts := [(0, .val .str), (2, .nil), (3, .val (.int .i64)), (4, .tip 1004)]
  bs := [(1004, .row 66 gItem false)]
  pre := fun (x : IuS) => iuPre x
  out := fun (x : IuS) => out2 0 (runF iuStp (iuMu x + 1) x)
theorem iu_round : (fun x : IuS => roundOf (mkC tys iunallG [(0, iuD.spec)]) iuD (loopB 0 (bodyOf (fnOf Tryz.prog 57))) x) = (fun x => Tree.br (decide ((↑(List.length x.1.1) : Int) > (0 : Int))) (Tree.br ((itemRF x.1.1).2.2 != (0 : Int)) (Tree.leaf (Ex.ret, some ((x.1.1, (itemRF x.1.1).2.2, ()), x.2.1, ()))) (Tree.br (decide ((↑(List.length x.2.1) : Int) ≥ (48 : Int))) (Tree.leaf (Ex.ret, some ((x.1.1, (4 : Int), ()), x.2.1, ()))) (Tree.need ((List.length x.2.1 + (1 : Nat)) * (32 : Nat) ≤ (140737488355328 : Nat)) (Tree.leaf (Ex.normal, some (((itemRF x.1.1).2.1, x.1.2.1, ()), x.2.1 ++ [(itemRF x.1.1).1], ())))))) (Tree.leaf (Ex.exit (0 : Nat), some ((x.1.1, x.1.2.1, ()), x.2.1, ())))) := by kernel_rfl
def iunallC : Ctr := { args := [.str], res := [.sl gItem, .int .i64], pre := none, fn := fun (x : List UInt8) => unallF x }
theorem iunall_tree : (fun x : List UInt8 => evFn (mkC tys iunallG [(0, iuD.spec)]) (fnOf Tryz.prog 57) (resL iunallC.args x) iunallC.res) = (fun x => Tree.need (iuPre ((x, (0 : Int), PUnit.unit), [], PUnit.unit)) (Tree.br (isRet (runF iuStp (iuMu ((x, (0 : Int), PUnit.unit), [], PUnit.unit) + (1 : Nat)) ((x, (0 : Int), PUnit.unit), [], PUnit.unit)).1) (Tree.leaf ([], (runF iuStp (iuMu ((x, (0 : Int), PUnit.unit), [], PUnit.unit) + (1 : Nat)) ((x, (0 : Int), PUnit.unit), [], PUnit.unit)).2.1.2.1)) (Tree.leaf ((runF iuStp (iuMu ((x, (0 : Int), PUnit.unit), [], PUnit.unit) + (1 : Nat)) ((x, (0 : Int), PUnit.unit), [], PUnit.unit)).2.2.1, (0 : Int))))) := by kernel_rfl
theorem iu_loop : LoopOK (mkC tys iunallG [(0, iuD.spec)]) iuD.spec (loopB 0 (bodyOf (fnOf Tryz.prog 57))) :=
  loopF2_ok (id := 0) (D := iuD) (fun x => congrFun iu_round x) iuStp iuMu (fun _ => rfl) iuStp_ends fun (x : IuS) hp => by
    refine ⟨?_, fun hn => iu_go hp hn⟩
    obtain ⟨⟨s, e, ⟨⟩⟩, o, ⟨⟩⟩ := x
    have hp' : o.length ≤ 48 := hp
    simp only [Tree.holds, iuStp]
    refine ⟨fun h => ?_, fun h => by rw [h]; rfl⟩
    refine ⟨fun g => by rw [h, g]; rfl, fun g => ⟨fun g2 => by rw [h, g, g2]; rfl, fun g2 => ⟨by omega, by rw [h, g, g2]; rfl⟩⟩⟩
theorem iunall_ok : CtrOK Tryz.prog 57 iunallC :=
  fun_ok (G := iunallG) (Λ := [(0, iuD.spec)]) tysOK (ctrs_cons iread_ok ctrs_nil) mixed (by kernel_rfl) (by kernel_rfl) (by kernel_rfl) (by kernel_rfl) (lp_cons iu_loop lp_nil) fun (x : List UInt8) hw _ => by
    rw [congrFun iunall_tree x]
    have e : iunallC.fn x = unallF x := rfl
    rw [e]
    have key := iu_run 50 (iuMu ((x, (0 : Int), ()), (([] : List DItem), ())) + 1) ((x, (0 : Int), ()), (([] : List DItem), ())) (by show (0 : Nat) ≤ 48; omega) (Nat.lt_succ_self _) (by show 48 < 50; omega)
    have e2 : unallF x = unallG 50 [] x := rfl
    rw [e2]
    simp only at key
    rw [← key]
    simp only [Tree.holds]
    refine ⟨by show (0 : Nat) ≤ 48; omega, ?_⟩
    generalize runF iuStp _ _ = w
    obtain ⟨w1, w2⟩ := w
    cases w1 with
    | ret => exact ⟨fun _ => rfl, fun h => (by cases h)⟩
    | normal => exact ⟨fun h => (by cases h), fun _ => rfl⟩
    | exit k => exact ⟨fun h => (by cases h), fun _ => rfl⟩
    | die v => exact ⟨fun h => (by cases h), fun _ => rfl⟩
end Go.Ev.Z
/- The library's Grow at items, by the shelf's contract. -/
set_option linter.unusedVariables false
set_option linter.unusedSimpArgs false
namespace Go.Ev.Z
open Go.Proofs
def growR : Go.Shelf.Ren := ⟨fun | 4 => 101 | n => n, fun | 22 => 25 | 25 => 66 | n => n, fun | n => n⟩
theorem growL : Lays8.n4 Tryz.prog growR := {
  mixed := by kernel_rfl
  f4 := ⟨ "slices.Grow[[]fingerpost/api.Item,fingerpost/api.Item]", (by kernel_rfl), Tryz.func101.trans (congrArg some (by kernel_rfl))⟩
  t0 := Tryz.underlying0
  a0 := Tryz.isAgg0
  z0 := Tryz.sizeOf0
  v0 := Tryz.zeroValue0
  t3 := Tryz.underlying3
  a3 := Tryz.isAgg3
  z3 := Tryz.sizeOf3
  v3 := Tryz.zeroValue3
  t4 := Tryz.underlying4
  a4 := Tryz.isAgg4
  z4 := Tryz.sizeOf4
  v4 := Tryz.zeroValue4
  t9 := Tryz.underlying9
  a9 := Tryz.isAgg9
  z9 := Tryz.sizeOf9
  v9 := Tryz.zeroValue9
  t20 := Tryz.underlying20
  a20 := Tryz.isAgg20
  z20 := Tryz.sizeOf20
  v20 := Tryz.zeroValue20
  t22 := Tryz.underlying25
  a22 := Tryz.isAgg25
  z22 := Tryz.sizeOf25
  v22 := Tryz.zeroValue25 }
end Go.Ev.Z
/- Pieces of messages, and lists put together. -/
set_option linter.unusedVariables false
set_option linter.unusedSimpArgs false
namespace Go.Ev.Z
open Go.Proofs Go.Conc
noncomputable def clB (i : Nat) : Code := rNth (bodyOf (fnOf Tryz.prog 94)) i
@[reducible] def clT : List (Nat × Sh) := [(0, .val (.sl gItem))]
@[reducible] def clT2 : List (Nat × Sh) := [(0, .val (.sl gItem)), (4, .val .bool)]
def cloneC : Ctr := { args := [.sl gItem], res := [.sl gItem], pre := some (fun (x : List DItem) => x.length ≤ 100000), fn := fun (x : List DItem) => x }
theorem cl0_tree : (fun x : List DItem => pieceT (mkC tys [] []) (fnOf Tryz.prog 94) [.sl gItem] clT [] [clB 0] { tmps := number 0 (resL [.sl gItem] x), boxes := [] }) = (fun x => Tree.leaf (none, some ((x, ()), ()))) := by kernel_rfl
theorem cl2_tree : (fun x : (List DItem × Bool × Unit) × Unit => pieceT (mkC tys [] []) (fnOf Tryz.prog 94) [.sl gItem] [] [] [clB 2, clB 3, clB 4] (mkS clT2 [] x)) = (fun x => Tree.br x.1.2.1 (Tree.leaf (some [], none)) (Tree.need (((0 : Nat) + List.length x.1.1) * (32 : Nat) ≤ (140737488355328 : Nat)) (Tree.leaf (some (List.replicate (0 : Nat) ((0 : Int), (0 : Int), (0 : Int), (0 : Int)) ++ x.1.1), none)))) := by kernel_rfl
def piecesG : List (Nat × Ctr) := [(94, cloneC)]
def pcD : LoopD where
  prom := [(5, 1005, 25, .sl gItem)]
  ts := [(0, .val (.sl gItem)), (1, .val (.int .i64)), (5, .tip 1005)]
  bs := [(1005, .row 25 (.sl gItem) false)]
  pre := fun (x : PcS) => pcPre x
  out := fun (x : PcS) => .leaf (.exit 0, (((cutG 6 x.1.1.length x.1.1).2, x.1.2.1, ()), (x.2.1 ++ (cutG 6 x.1.1.length x.1.1).1, ())))
theorem pc_round : (fun x : PcS => roundOf (mkC tys piecesG [(0, pcD.spec)]) pcD (loopB 0 (bodyOf (fnOf Tryz.prog 74))) x) = (fun x => Tree.br (decide ((↑(List.length x.1.1) : Int) > x.1.2.1)) (Tree.need ((0 : Int) ≤ x.1.2.1 ∧ x.1.2.1 ≤ (↑(List.length x.1.1) : Int)) (Tree.need (List.length (List.take (Int.toNat x.1.2.1) x.1.1) ≤ (100000 : Nat)) (Tree.need ((List.length x.2.1 + (1 : Nat)) * (24 : Nat) ≤ (140737488355328 : Nat)) (Tree.need ((0 : Int) ≤ x.1.2.1 ∧ x.1.2.1 ≤ (↑(List.length x.1.1) : Int)) (Tree.leaf (Ex.normal, some ((List.drop (Int.toNat x.1.2.1) x.1.1, x.1.2.1, ()), x.2.1 ++ [List.take (Int.toNat x.1.2.1) x.1.1], ()))))))) (Tree.leaf (Ex.exit (0 : Nat), some ((x.1.1, x.1.2.1, ()), x.2.1, ())))) := by kernel_rfl
def piecesC : Ctr := { args := [.sl gItem, .int .i64], res := [.sl (.sl gItem)], pre := some (fun (x : List DItem × Int) => x.2 = 6 ∧ x.1.length ≤ 50000), fn := fun (x : List DItem × Int) => piecesF 6 x.1.length x.1 }
theorem pieces_tree : (fun x : List DItem × Int => evFn (mkC tys piecesG [(0, pcD.spec)]) (fnOf Tryz.prog 74) (resL piecesC.args x) piecesC.res) = (fun x => Tree.need (pcPre ((x.1, x.2, PUnit.unit), [], PUnit.unit)) (Tree.need (List.length (cutG (6 : Nat) (List.length x.1) x.1).2 ≤ (100000 : Nat)) (Tree.need ((List.length ([] ++ (cutG (6 : Nat) (List.length x.1) x.1).1) + (1 : Nat)) * (24 : Nat) ≤ (140737488355328 : Nat)) (Tree.leaf ([] ++ (cutG (6 : Nat) (List.length x.1) x.1).1 ++ [(cutG (6 : Nat) (List.length x.1) x.1).2]))))) := by kernel_rfl
def cutGG : List (Nat × Ctr) := [(11, allC), (75, smostC), (74, piecesC)]
def cutC : Ctr := { args := [.sl gItem], res := [.sl (.sl gItem), .int .i64], pre := none, fn := fun (x : List DItem) => msplitF x }
theorem cut_tree : (fun x : List DItem => evFn (mkC tys cutGG []) (fnOf Tryz.prog 46) (resL cutC.args x) cutC.res) = (fun x => Tree.br (decide ((↑(List.length x) : Int) > (48 : Int))) (Tree.leaf ([], (4 : Int))) (Tree.br ((allF x).2 != (0 : Int)) (Tree.leaf ([], (allF x).2)) (Tree.need ((6 : Int) = (6 : Int) ∧ List.length x ≤ (50000 : Nat)) (Tree.leaf (piecesF (6 : Nat) (List.length x) x, (0 : Int)))))) := by kernel_rfl
def wbitsG : List (Nat × Ctr) := [(85, seqsC), (89, aofC)]
theorem wbitsG_ok : CtrsOK Tryz.prog (fun f => lk f wbitsG) := (ctrs_cons seqs_ok (ctrs_cons aof_ok ctrs_nil))
def wbitsC : Ctr := { args := [gWin], res := [.int .i64, .int .i64], pre := some (fun (x : DWin) => x.2.length ≤ 100000), fn := fun (x : DWin) => bitsA x.1 (seqsF x) }
theorem wbits_tree : (fun x : DWin => evFn (mkC tys wbitsG []) (fnOf Tryz.prog 63) (resL wbitsC.args x) wbitsC.res) = (fun x => Tree.need (List.length x.2 ≤ (100000 : Nat)) (Tree.need (List.length (seqsF x) ≤ (100000 : Nat)) (Tree.leaf ((bitsA x.1 (seqsF x)).1, (bitsA x.1 (seqsF x)).2)))) := by kernel_rfl
noncomputable def ccB (i : Nat) : Code := rNth (bodyOf (fnOf Tryz.prog 88)) i
def ccD : LoopD where
  prom := []
  ts := [(3, .val (.int .i64)), (9, .val (.sl (.sl gItem))), (10, .val (.int .i64)), (11, .val (.int .i64))]
  bs := []
  pre := fun (x : CcS) => ccPre x
  out := fun (x : CcS) => .leaf (.exit 0, ((x.1.1 + (x.1.2.1.drop x.1.2.2.2.1.toNat).flatten.length, x.1.2.1, x.1.2.2.1, x.1.2.2.1, ()), ()))
theorem cc_round : (fun x : CcS => roundOf (mkC tys [] [(0, ccD.spec)]) ccD (loopB 0 (bodyOf (fnOf Tryz.prog 88))) x) = (fun x => Tree.br (decide (x.1.2.2.2.1 < x.1.2.2.1)) (Tree.need ((0 : Int) ≤ x.1.2.2.2.1 ∧ x.1.2.2.2.1 < (↑(List.length x.1.2.1) : Int)) (Tree.br (decide (IntKind.wrap IntKind.i64 (x.1.1 + (↑(List.length (List.getD x.1.2.1 (Int.toNat x.1.2.2.2.1) [])) : Int)) < (0 : Int))) (Tree.leaf (Ex.die (Value.iface (9 : Nat) (Value.string { data := { toList := [(108 : UInt8), (101 : UInt8), (110 : UInt8), (32 : UInt8), (111 : UInt8), (117 : UInt8), (116 : UInt8), (32 : UInt8), (111 : UInt8), (102 : UInt8), (32 : UInt8), (114 : UInt8), (97 : UInt8), (110 : UInt8), (103 : UInt8), (101 : UInt8)] } })), some ((IntKind.wrap IntKind.i64 (x.1.1 + (↑(List.length (List.getD x.1.2.1 (Int.toNat x.1.2.2.2.1) [])) : Int)), x.1.2.1, x.1.2.2.1, x.1.2.2.2.1, ()), ()))) (Tree.leaf (Ex.normal, some ((IntKind.wrap IntKind.i64 (x.1.1 + (↑(List.length (List.getD x.1.2.1 (Int.toNat x.1.2.2.2.1) [])) : Int)), x.1.2.1, x.1.2.2.1, IntKind.wrap IntKind.i64 (x.1.2.2.2.1 + (1 : Int)), ()), ()))))) (Tree.leaf (Ex.exit (0 : Nat), some ((x.1.1, x.1.2.1, x.1.2.2.1, x.1.2.2.2.1, ()), ())))) := by kernel_rfl
def cdD : LoopD where
  prom := [(6, 2006, 66, gItem)]
  ts := [(6, .tip 2006), (25, .val (.sl (.sl gItem))), (26, .val (.int .i64)), (27, .val (.int .i64))]
  bs := [(2006, .row 66 gItem false)]
  pre := fun (x : CdS) => cdPre x
  out := fun (x : CdS) => .leaf (.exit 2, ((x.1.1, x.1.2.1, x.1.2.1, ()), (x.2.1 ++ (x.1.1.drop x.1.2.2.1.toNat).flatten, ())))
theorem cd_round : (fun x : CdS => roundOf (mkC tys [] [(2, cdD.spec)]) cdD (loopB 2 (bodyOf (fnOf Tryz.prog 88))) x) = (fun x => Tree.br (decide (x.1.2.2.1 < x.1.2.1)) (Tree.need ((0 : Int) ≤ x.1.2.2.1 ∧ x.1.2.2.1 < (↑(List.length x.1.1) : Int)) (Tree.need ((List.length x.2.1 + List.length (List.getD x.1.1 (Int.toNat x.1.2.2.1) [])) * (32 : Nat) ≤ (140737488355328 : Nat)) (Tree.leaf (Ex.normal, some ((x.1.1, x.1.2.1, IntKind.wrap IntKind.i64 (x.1.2.2.1 + (1 : Int)), ()), x.2.1 ++ List.getD x.1.1 (Int.toNat x.1.2.2.1) [], ()))))) (Tree.leaf (Ex.exit (2 : Nat), some ((x.1.1, x.1.2.1, x.1.2.2.1, ()), x.2.1, ())))) := by kernel_rfl
@[reducible] def ccT : List (Nat × Sh) := [(0, .val (.sl (.sl gItem))), (3, .val (.int .i64))]
@[reducible] def ccT2 : List (Nat × Sh) := [(0, .val (.sl (.sl gItem))), (6, .tip 2006)]
@[reducible] def ccM2 : List (Nat × BSh) := [(2006, .row 66 gItem false)]
@[reducible] def ccT3 : List (Nat × Sh) := [(0, .val (.sl (.sl gItem))), (6, .nil)]
theorem cc0_tree : (fun x : List (List DItem) => pieceT (mkC tys [] [(0, ccD.spec)]) (fnOf Tryz.prog 88) [.sl gItem] ccT [] [ccB 0, ccB 1, ccB 2, ccB 3] { tmps := number 0 (resL [.sl (.sl gItem)] x), boxes := [] }) = (fun x => Tree.need (ccPre (((0 : Int), x, (↑(List.length x) : Int), (0 : Int), PUnit.unit), PUnit.unit)) (Tree.leaf (none, some ((x, (0 : Int) + (↑(List.length (List.flatten (List.drop (Int.toNat (0 : Int)) x))) : den (GTy.int IntKind.i64)), ()), ())))) := by kernel_rfl
theorem cc2_tree : (fun x : (List (List DItem) × Unit) × (List DItem × Unit) => pieceT (mkC tys [] [(2, cdD.spec)]) (fnOf Tryz.prog 88) [.sl gItem] [] [] [ccB 5, ccB 6, ccB 7, ccB 8] (mkS ccT2 ccM2 x)) = (fun x => Tree.need (cdPre ((x.1.1, (↑(List.length x.1.1) : Int), (0 : Int), PUnit.unit), x.2.1, PUnit.unit)) (Tree.leaf (some (x.2.1 ++ List.flatten (List.drop (Int.toNat (0 : Int)) x.1.1)), none))) := by kernel_rfl
theorem cc3_tree : (fun x : (List (List DItem) × Unit) × Unit => pieceT (mkC tys [] [(2, cdD.spec)]) (fnOf Tryz.prog 88) [.sl gItem] [] [] [ccB 5, ccB 6, ccB 7, ccB 8] (mkS ccT3 [] x)) = (fun x => Tree.need (cdPre ((x.1.1, (↑(List.length x.1.1) : Int), (0 : Int), PUnit.unit), [], PUnit.unit)) (Tree.leaf (some ([] ++ List.flatten (List.drop (Int.toNat (0 : Int)) x.1.1)), none))) := by kernel_rfl
def concatC : Ctr := { args := [.sl (.sl gItem)], res := [.sl gItem], pre := some (fun (x : List (List DItem)) => x.length ≤ 1000 ∧ x.flatten.length ≤ 10000), fn := fun (x : List (List DItem)) => x.flatten }
def gatherG : List (Nat × Ctr) := [(88, concatC)]
def gatherC : Ctr := { args := [.sl gItem, gPart], res := [.sl gItem, .sl gItem, .bool, .int .i64], pre := none, fn := fun (x : List DItem × DPart) => gatherF x.1 x.2 }
theorem gather_tree : (fun x : List DItem × DPart => evFn (mkC tys gatherG []) (fnOf Tryz.prog 62) (resL gatherC.args x) gatherC.res) = (fun x => Tree.br (bif decide ((↑(List.length x.1) : Int) > (48 : Int)) then true else decide ((↑(List.length x.2.2.2.2.2) : Int) > IntKind.wrap IntKind.i64 ((48 : Int) - (↑(List.length x.1) : Int)))) (Tree.leaf ([], [], false, (4 : Int))) (Tree.need ((2 : Nat) ≤ (1000 : Nat) ∧ List.length (List.flatten [x.1, x.2.2.2.2.2]) ≤ (10000 : Nat)) (Tree.br x.2.2.2.2.1 (Tree.leaf (List.flatten [x.1, x.2.2.2.2.2], [], false, (0 : Int))) (Tree.leaf ([], List.flatten [x.1, x.2.2.2.2.2], true, (0 : Int)))))) := by kernel_rfl
theorem map_two {α β : Type} (f : α → β) (a b : α) : #[a, b].map f ++ #[] = #[f a, f b] := by simp
theorem cl_all : seqs (bodyOf (fnOf Tryz.prog 94)) = [clB 0, clB 1, clB 2, clB 3, clB 4] := by kernel_rfl
theorem cl_1 : clB 1 = .region 1 (rOps (clB 1)) false := by kernel_rfl
theorem cl_n : (fnOf Tryz.prog 94).ntmps = 8 := by kernel_rfl
theorem cc_all : seqs (bodyOf (fnOf Tryz.prog 88)) = [ccB 0, ccB 1, ccB 2, ccB 3, ccB 4, ccB 5, ccB 6, ccB 7, ccB 8] := by kernel_rfl
theorem cc_4 : ccB 4 = .region 9 (rOps (ccB 4)) false := by kernel_rfl
theorem cc_n : (fnOf Tryz.prog 88).ntmps = 36 := by kernel_rfl
theorem gr_fn : Tryz.prog.funcs[101]? = some (fnOf Tryz.prog 101) := fnOf_eq (by kernel_rfl)
theorem gr_body : (fnOf Tryz.prog 101).body.isNone = false := by kernel_rfl
theorem gr_name : ((fnOf Tryz.prog 101).name == "runtime.NumGoroutine") = false := by kernel_rfl
theorem items_slice : Tryz.prog.underlying 25 = some (.slice 66) := Tryz.underlying25
theorem pc_loop : LoopOK (mkC tys piecesG [(0, pcD.spec)]) pcD.spec (loopB 0 (bodyOf (fnOf Tryz.prog 74))) :=
  loopD_ok1 (fun _ => rfl) (fun x => congrFun pc_round x) (fun (x : PcS) => x.1.1.length) fun (x : PcS) hp => by
    obtain ⟨⟨l, k, ⟨⟩⟩, o, ⟨⟩⟩ := x
    obtain ⟨h1, h2⟩ := hp
    simp only at h1 h2
    subst h1
    simp only [Tree.holds]
    refine ⟨fun h => ?_, fun h => ?_⟩
    · have h' : (l.length : Int) > 6 := of_decide_eq_true h
      have e6 : (6 : Int).toNat = 6 := rfl
      rw [e6]
      have hs := cut_step (k := 6) (by omega) (l := l) (by omega)
      refine ⟨⟨by omega, by omega⟩, by rw [List.length_take]; omega, by omega, ⟨by omega, by omega⟩, _, rfl, ⟨rfl, ?_⟩, ?_, ?_⟩
      · show (l.drop 6).length + (o ++ [l.take 6]).length ≤ 100000
        rw [List.length_drop, List.length_append, List.length_singleton]; omega
      · show (l.drop 6).length < l.length
        rw [List.length_drop]; omega
      · show (Ex.exit 0, (((cutG 6 (l.drop 6).length (l.drop 6)).2, 6, ()), ((o ++ [l.take 6]) ++ (cutG 6 (l.drop 6).length (l.drop 6)).1, ()))) = (Ex.exit 0, (((cutG 6 l.length l).2, 6, ()), (o ++ (cutG 6 l.length l).1, ())))
        rw [hs, List.append_assoc]; rfl
    · have h' : ¬ (l.length : Int) > 6 := of_decide_eq_false h
      have hs := cut_end (k := 6) (l := l) (by omega)
      refine ⟨_, rfl, ?_⟩
      show (Ex.exit 0, (((cutG 6 l.length l).2, 6, ()), (o ++ (cutG 6 l.length l).1, ()))) = _
      rw [hs, List.append_nil]
      rfl
theorem cc_loop : LoopOK (mkC tys [] [(0, ccD.spec)]) ccD.spec (loopB 0 (bodyOf (fnOf Tryz.prog 88))) :=
  loopD_ok1 (fun _ => rfl) (fun x => congrFun cc_round x) (fun (x : CcS) => (x.1.2.2.1 - x.1.2.2.2.1).toNat) fun (x : CcS) hp => by
    obtain ⟨⟨n, l, len, i, ⟨⟩⟩, ⟨⟩⟩ := x
    obtain ⟨h1, h2, h3, h4, h5, h6⟩ := hp
    simp only at h1 h2 h3 h4 h5 h6
    simp only [Tree.holds]
    refine ⟨fun h => ?_, fun h => ?_⟩
    · have h' : i < len := of_decide_eq_true h
      have hd := drop_elt (l := l) [] h1 (by omega)
      rw [hd, List.flatten_cons, List.length_append] at h6
      rw [i64_id (n := n + ((l.getD i.toNat []).length : Int)) (by omega) (by omega), i64_id (n := i + 1) (by omega) (by omega)]
      refine ⟨⟨h1, by omega⟩, fun g => ?_, fun _ => ⟨_, rfl, ⟨by show 0 ≤ i + 1; omega, by show i + 1 ≤ len; omega, h3, h4, by show 0 ≤ n + _; omega, ?_⟩, by show (len - (i + 1)).toNat < (len - i).toNat; omega, ?_⟩⟩
      · have := of_decide_eq_true g; omega
      · show n + ((l.getD i.toNat []).length : Int) + ((l.drop (i + 1).toNat).flatten.length : Int) ≤ 100000
        omega
      · show (Ex.exit 0, ((n + ((l.getD i.toNat []).length : Int) + ((l.drop (i + 1).toNat).flatten.length : Int), l, len, len, ()), ())) = (Ex.exit 0, ((n + ((l.drop i.toNat).flatten.length : Int), l, len, len, ()), ()))
        rw [hd, List.flatten_cons, List.length_append, Int.natCast_add, Int.add_assoc]
    · have h' : ¬ i < len := of_decide_eq_false h
      have hi : i = len := by omega
      subst hi
      refine ⟨_, rfl, ?_⟩
      show (Ex.exit 0, ((n + ((l.drop i.toNat).flatten.length : Int), l, i, i, ()), ())) = _
      rw [List.drop_eq_nil_of_le (by omega)]
      simp
      rfl
theorem cd_loop : LoopOK (mkC tys [] [(2, cdD.spec)]) cdD.spec (loopB 2 (bodyOf (fnOf Tryz.prog 88))) :=
  loopD_ok1 (fun _ => rfl) (fun x => congrFun cd_round x) (fun (x : CdS) => (x.1.2.1 - x.1.2.2.1).toNat) fun (x : CdS) hp => by
    obtain ⟨⟨l, len, i, ⟨⟩⟩, o, ⟨⟩⟩ := x
    obtain ⟨h1, h2, h3, h4, h5⟩ := hp
    simp only at h1 h2 h3 h4 h5
    simp only [Tree.holds]
    refine ⟨fun h => ?_, fun h => ?_⟩
    · have h' : i < len := of_decide_eq_true h
      have hd := drop_elt (l := l) [] h1 (by omega)
      rw [hd, List.flatten_cons, List.length_append] at h5
      rw [i64_id (n := i + 1) (by omega) (by omega)]
      refine ⟨⟨h1, by omega⟩, by omega, _, rfl, ⟨by show 0 ≤ i + 1; omega, by show i + 1 ≤ len; omega, h3, h4, ?_⟩, by show (len - (i + 1)).toNat < (len - i).toNat; omega, ?_⟩
      · show (o ++ l.getD i.toNat []).length + (l.drop (i + 1).toNat).flatten.length ≤ 100000
        rw [List.length_append]; omega
      · show (Ex.exit 2, ((l, len, len, ()), ((o ++ l.getD i.toNat []) ++ (l.drop (i + 1).toNat).flatten, ()))) = (Ex.exit 2, ((l, len, len, ()), (o ++ (l.drop i.toNat).flatten, ())))
        rw [hd, List.flatten_cons, List.append_assoc]
    · have h' : ¬ i < len := of_decide_eq_false h
      have hi : i = len := by omega
      subst hi
      refine ⟨_, rfl, ?_⟩
      show (Ex.exit 2, ((l, i, i, ()), (o ++ (l.drop i.toNat).flatten, ()))) = _
      rw [List.drop_eq_nil_of_le (by omega), List.flatten_nil, List.append_nil]
      rfl
attribute [local irreducible] fnOf bodyOf
theorem clone_ok : CtrOK Tryz.prog 94 cloneC :=
  ctr_of_to (C := mkC tys [] []) tysOK (by kernel_rfl) (by kernel_rfl) (by kernel_rfl) (fun x => by rw [cl_n]; show 1 ≤ 8; omega) fun R0 b (x : List DItem) a0 hbk hw hp h0 hsz0 hd0 => by
    have hx : x.length ≤ 100000 := hp (fun (x : List DItem) => x.length ≤ 100000) rfl
    rw [cl_n] at hsz0
    rw [cl_all]
    have k0 := Kd.start (W := fun _ => none) (n := 8) (sl := []) h0 hsz0 hd0 (fun _ h => by cases h)
    show LTo Tryz.prog b ([clB 0] ++ [clB 1, clB 2, clB 3, clB 4]) _ a0 R0.w0
    refine k0.piece (C := mkC tys [] []) tysOK ctrs_nil mixed (fn := fnOf Tryz.prog 94) (res := [.sl gItem]) (ts := clT) (bs := []) (G := fun z => z = (none, some ((x, ()), ()))) (by kernel_rfl) (by kernel_rfl) ?_ ?_ ?_ ?_
    · show (pieceT (mkC tys [] []) (fnOf Tryz.prog 94) [.sl gItem] clT [] [clB 0] { tmps := number 0 (resL [.sl gItem] x), boxes := [] }).holds _
      rw [congrFun cl0_tree x]; rfl
    · intro y s' a' w' hy; cases hy
    · intro z a1 w1 hz k1
      have hz' : z = ((x, ()), ()) := Option.some.inj (Prod.mk.inj hz).2
      subst hz'
      have h0' : ∃ ad cap, a1.tmps.getD 0 undef = .slice ad x.length cap ∧ (ad.isNone = true → x = []) := by
        obtain ⟨M, _, _, _, hr⟩ := k1.old
        obtain ⟨ad, cap, e1, _, _, _, e2⟩ := relSl (g := gItem) (xs := x) (hr 0)
        refine ⟨ad, cap, e1, fun hn => ?_⟩
        rcases e2 with e2 | ⟨blk, off, cs, e2, _⟩
        · exact e2
        · rw [e2] at hn; cases hn
      obtain ⟨ad, cap, h1, hnil⟩ := h0'
      refine LTo.cons ?_
      rw [cl_1]
      refine CodeTo.region ?_
      rw [show List.range (rOps (clB 1)).size = [0, 1] by kernel_rfl]
      refine RegTo.moved (o := rOp (clB 1) 0) (x := .tmp 0) (by kernel_rfl) (by kernel_rfl) (.inl (by kernel_rfl)) ?_
      rw [show (rOp (clB 1) 0).dst = some 3 by kernel_rfl, show a1.eval (.tmp 0) = .slice ad x.length cap from h1]
      have k2 := k1.keep (k := 3) (v := .slice ad x.length cap) rfl (by omega) (by simp)
      generalize a1.put (some 3) (.slice ad x.length cap) = a2 at k2 ⊢
      have h3 : a2.eval (.tmp 3) = .slice ad x.length cap := k2.slots (3, .slice ad x.length cap) (by simp)
      refine RegTo.value (o := rOp (clB 1) 1) (v := .bool ad.isNone) (w' := w1) (by kernel_rfl) (by kernel_rfl) ?_ ?_
      · unfold execOp
        rw [show (rOp (clB 1) 1).op = .binOp .eql 25 (.tmp 3) (.const (.slice none 0 0)) 25 by kernel_rfl]
        have e1 : (eqGuard .eql 25 (.tmp 3) (.const (.slice none 0 0)) (.slice ad x.length cap) (.slice none 0 0)).run Tryz.prog w1 = .ok () w1 := by
          unfold eqGuard
          simp
        have e2 := Lib.run_eql_slice_nil (P := Tryz.prog) w1 25 66 ad x.length cap 0 0 items_slice
        simp only [h3]
        refine maybe_run ?_
        show ((do eqGuard .eql 25 (.tmp 3) (.const (.slice none 0 0)) (.slice ad x.length cap) (.slice none 0 0); binOp .eql 25 (.slice ad x.length cap) (.slice none 0 0)) : Sem Value).run Tryz.prog w1 = _
        simp [e1, e2]
      rw [show (rOp (clB 1) 1).dst = some 4 by kernel_rfl]
      have k3 := (k2.less (sl' := []) (fun p hp => by cases hp)).known (k := 4) (v := .bool ad.isNone) (av := .val .bool ad.isNone) (fun M => by simp only [RelV]; exact ⟨[.bool ad.isNone], rfl, rfl⟩) (by omega) (by simp)
      refine RegTo.nil ?_
      have k4 := k3.restr (L := { prom := [], keep := clT2.map (·.1), boxes := [], sum := fun _ => .stuck }) (s' := mkS clT2 [] ((x, ad.isNone, ()), ())) (by kernel_rfl)
      generalize a2.put (some 4) (.bool ad.isNone) = a3 at k4 ⊢
      show LTo Tryz.prog b ([clB 2, clB 3, clB 4] ++ []) _ a3 w1
      refine k4.piece (C := mkC tys [] []) tysOK ctrs_nil mixed (fn := fnOf Tryz.prog 94) (res := [.sl gItem]) (ts := []) (bs := []) (G := fun z => z = (some x, none)) (by kernel_rfl) (by kernel_rfl) ?_ ?_ ?_ ?_
      · have k5 : pieceT (mkC tys [] []) (fnOf Tryz.prog 94) [.sl gItem] [] [] [clB 2, clB 3, clB 4] (mkS clT2 [] ((x, ad.isNone, ()), ())) = _ := congrFun cl2_tree ((x, ad.isNone, ()), ())
        refine (congrArg (Tree.holds _) k5).mpr ?_
        exact ⟨fun h => by rw [hnil h]; rfl, fun _ => ⟨by show (0 + x.length) * 32 ≤ _; omega, rfl⟩⟩
      · intro y s' a' w' hy j1 j2 j3
        have hy' : y = x := Option.some.inj (Prod.mk.inj hy).1
        rw [hy'] at j3
        exact ⟨.inr rfl, j2, s', j1, j3⟩
      · intro z a' w' hz; cases hz
      · intro h; cases h
    · intro h; cases h
theorem piecesG_ok : CtrsOK Tryz.prog (fun f => lk f piecesG) := ctrs_cons clone_ok ctrs_nil
theorem pieces_ok : CtrOK Tryz.prog 74 piecesC :=
  fun_ok (G := piecesG) (Λ := [(0, pcD.spec)]) tysOK piecesG_ok mixed (by kernel_rfl) (by kernel_rfl) (by kernel_rfl) (by kernel_rfl) (lp_cons pc_loop lp_nil) fun (x : List DItem × Int) hw hp => by
    obtain ⟨h1, h2⟩ : x.2 = 6 ∧ x.1.length ≤ 50000 := hp (fun (x : List DItem × Int) => x.2 = 6 ∧ x.1.length ≤ 50000) rfl
    rw [congrFun pieces_tree x]
    have e : piecesC.fn x = piecesF 6 x.1.length x.1 := rfl
    rw [e, cut_pieces]
    have hc := pieces_count x.1.length x.1
    have hm := pieces_most x.1.length x.1 (Nat.le_refl _) (cutG 6 x.1.length x.1).2 (by rw [cut_pieces]; simp)
    rw [cut_pieces, List.length_append, List.length_singleton] at hc
    simp only [Tree.holds]
    refine ⟨⟨h1, by show x.1.length + 0 ≤ 100000; omega⟩, by omega, ?_, ?_⟩
    · rw [List.nil_append]
      omega
    · rw [List.nil_append]
      rfl
theorem cutGG_ok : CtrsOK Tryz.prog (fun f => lk f cutGG) := ctrs_cons all_ok (ctrs_cons smost_ok (ctrs_cons pieces_ok ctrs_nil))
theorem cut_ok : CtrOK Tryz.prog 46 cutC :=
  fun_ok (G := cutGG) (Λ := []) tysOK cutGG_ok mixed (by kernel_rfl) (by kernel_rfl) (by kernel_rfl) (by kernel_rfl) lp_nil fun (x : List DItem) hw _ => by
    rw [congrFun cut_tree x]
    have e : cutC.fn x = msplitF x := rfl
    rw [e]
    unfold msplitF
    simp only [Tree.holds]
    refine ⟨fun h => by rw [h]; rfl, fun h => ⟨fun g => by rw [h, g]; rfl, fun g => ⟨⟨trivial, ?_⟩, by rw [h, g]; rfl⟩⟩⟩
    have := of_decide_eq_false h
    omega
theorem wbits_ok : CtrOK Tryz.prog 63 wbitsC :=
  fun_ok (G := wbitsG) (Λ := []) tysOK wbitsG_ok mixed (by kernel_rfl) (by kernel_rfl) (by kernel_rfl) (by kernel_rfl) lp_nil fun (x : DWin) hw hp => by
    have hx : x.2.length ≤ 100000 := hp (fun (x : DWin) => x.2.length ≤ 100000) rfl
    rw [congrFun wbits_tree x]
    exact ⟨hx, by unfold seqsF; rw [List.length_map]; exact hx, rfl⟩
theorem concat_ok : CtrOK Tryz.prog 88 concatC :=
  ctr_of_to (C := mkC tys [] [(2, cdD.spec)]) tysOK (by kernel_rfl) (by kernel_rfl) (by kernel_rfl) (fun x => by rw [cc_n]; show 1 ≤ 36; omega) fun R0 b (x : List (List DItem)) a0 hbk hw hp h0 hsz0 hd0 => by
    obtain ⟨hx1, hx2⟩ : x.length ≤ 1000 ∧ x.flatten.length ≤ 10000 := hp (fun (x : List (List DItem)) => x.length ≤ 1000 ∧ x.flatten.length ≤ 10000) rfl
    rw [cc_n] at hsz0
    rw [cc_all]
    have k0 := Kd.start (W := fun _ => none) (n := 36) (sl := []) h0 hsz0 hd0 (fun _ h => by cases h)
    have hS := S0_lt h0
    show LTo Tryz.prog b ([ccB 0, ccB 1, ccB 2, ccB 3] ++ [ccB 4, ccB 5, ccB 6, ccB 7, ccB 8]) _ a0 R0.w0
    refine k0.pieceL (c0 := bodyOf (fnOf Tryz.prog 88)) (Λ := [(0, ccD.spec)]) (G := []) tysOK ctrs_nil mixed (by kernel_rfl) (lp_cons cc_loop lp_nil) (fn := fnOf Tryz.prog 88) (res := [.sl gItem]) (ts := ccT) (bs := []) (F := fun z => z = (none, some ((x, (x.flatten.length : Int), ()), ()))) (fun y hy => ?_) (by kernel_rfl) (by kernel_rfl) ?_ ?_ ?_ ?_
    · simp only [List.mem_cons, List.not_mem_nil, or_false] at hy
      rcases hy with rfl | rfl | rfl | rfl <;> exact ⟨_, rfl⟩
    · show (pieceT (mkC tys [] [(0, ccD.spec)]) (fnOf Tryz.prog 88) [.sl gItem] ccT [] [ccB 0, ccB 1, ccB 2, ccB 3] { tmps := number 0 (resL [.sl (.sl gItem)] x), boxes := [] }).holds _
      rw [congrFun cc0_tree x]
      refine ⟨⟨Int.le_refl _, by show (0 : Int) ≤ (x.length : Int); omega, rfl, by show (x.length : Int) ≤ 100000; omega, Int.le_refl _, ?_⟩, ?_⟩
      · show (0 : Int) + (x.flatten.length : Int) ≤ 100000
        omega
      · show (none, some ((x, (0 : Int) + (x.flatten.length : Int), ()), ())) = _
        rw [Int.zero_add]
    · intro y s' a' w' hy; cases hy
    · intro z a1 w1 hz k1
      have hz' : z = ((x, (x.flatten.length : Int), ()), ()) := Option.some.inj (Prod.mk.inj hz).2
      subst hz'
      have h3 : a1.tmps.getD 3 undef = .int .i64 (x.flatten.length : Int) := known_i64 k1.old rfl
      refine LTo.cons ?_
      rw [cc_4]
      refine CodeTo.region ?_
      rw [show List.range (rOps (ccB 4)).size = [0, 1, 2] by kernel_rfl]
      refine RegTo.moved (o := rOp (ccB 4) 0) (x := .tmp 3) (by kernel_rfl) (by kernel_rfl) (.inl (by kernel_rfl)) ?_
      rw [show (rOp (ccB 4) 0).dst = some 23 by kernel_rfl, show a1.eval (.tmp 3) = .int .i64 (x.flatten.length : Int) from h3]
      have k2 := k1.keep (k := 23) (v := .int .i64 (x.flatten.length : Int)) rfl (by omega) (by simp)
      generalize a1.put (some 23) (.int .i64 (x.flatten.length : Int)) = a2 at k2 ⊢
      have h23 : a2.eval (.tmp 23) = .int .i64 (x.flatten.length : Int) := k2.slots (23, .int .i64 (x.flatten.length : Int)) (by simp)
      have hhead : ∀ y : List DItem, y = x.flatten → ∀ (s' : St) (a' : Act) (w' : World), IsSt R0 s' a' w' → a'.defers = [] → (evRes (mkC tys [] [(2, cdD.spec)]) (fnOf Tryz.prog 88) [.sl gItem] (.normal, s')).holds (fun z => z = y) → finQ (mkC tys [] [(2, cdD.spec)]) (fnOf Tryz.prog 88) concatC.res R0 (concatC.fn x) .ret a' w' := by
        intro y hy s' a' w' j1 j2 j3
        rw [hy] at j3
        exact ⟨.inr rfl, j2, s', j1, j3⟩
      have hargs : #[Operand.const (.slice none 0 0), Operand.tmp 23].map a2.eval ++ #[] = #[.slice none 0 0, .int .i64 (x.flatten.length : Int)] := by
        exact (map_two _ _ _).trans (by rw [h23]; rfl)
      by_cases hz : x.flatten.length = 0
      · have hcall := Any8.slices_Grow_room growL none 0 0 x.flatten.length w1 (by omega) (by omega) (by omega) (by omega)
        refine k2.call (o := rOp (ccB 4) 1) (f := 101) (x := .func 101) (caps := #[]) (ts := #[25, 3]) (by kernel_rfl) (by kernel_rfl) (by kernel_rfl) rfl hargs gr_fn gr_body gr_name hcall ?_
        rintro e w' ⟨rfl, rfl⟩
        refine ⟨_, fun _ => False, fun _ => none, rfl, fun k h => h.elim, fun k h => h.elim, fun k h => h.elim, rfl, rfl, rfl, Nat.le_refl _, fun k _ _ => rfl, fun k3 => ?_⟩
        rw [show (rOp (ccB 4) 1).dst = some 24 by kernel_rfl]
        have k4 := k3.keep (k := 24) (v := .slice none 0 0) rfl (by omega) (by simp)
        generalize a2.put (some 24) (.slice none 0 0) = a3 at k4 ⊢
        refine RegTo.moved (o := rOp (ccB 4) 2) (x := .tmp 24) (by kernel_rfl) (by kernel_rfl) (.inr (by kernel_rfl)) ?_
        rw [show (rOp (ccB 4) 2).dst = some 6 by kernel_rfl, show a3.eval (.tmp 24) = .slice none 0 0 from k4.slots (24, .slice none 0 0) (by simp)]
        have k5 := (k4.less (sl' := []) (fun p hp => by cases hp)).known (k := 6) (v := .slice none 0 0) (av := .cst (.slice none 0 0)) (fun M => by simp [RelV]) (by omega) (by simp)
        have k6 := k5.restr (L := { prom := [], keep := ccT3.map (·.1), boxes := [], sum := fun _ => .stuck }) (s' := mkS ccT3 [] ((x, ()), ())) (by kernel_rfl)
        generalize a3.put (some 6) (.slice none 0 0) = a4 at k6 ⊢
        refine RegTo.nil ?_
        show LTo Tryz.prog b ([ccB 5, ccB 6, ccB 7, ccB 8] ++ []) _ a4 _
        refine k6.pieceL (c0 := bodyOf (fnOf Tryz.prog 88)) (Λ := [(2, cdD.spec)]) (G := []) tysOK ctrs_nil mixed (by kernel_rfl) (lp_cons cd_loop lp_nil) (fn := fnOf Tryz.prog 88) (res := [.sl gItem]) (ts := []) (bs := []) (F := fun z => z = (some x.flatten, none)) (fun y hy => ?_) (by kernel_rfl) (by kernel_rfl) ?_ ?_ ?_ ?_
        · simp only [List.mem_cons, List.not_mem_nil, or_false] at hy
          rcases hy with rfl | rfl | rfl | rfl <;> exact ⟨_, rfl⟩
        · have k8 : pieceT (mkC tys [] [(2, cdD.spec)]) (fnOf Tryz.prog 88) [.sl gItem] [] [] [ccB 5, ccB 6, ccB 7, ccB 8] (mkS ccT3 [] ((x, ()), ())) = _ := congrFun cc3_tree ((x, ()), ())
          refine (congrArg (Tree.holds _) k8).mpr ?_
          refine ⟨⟨Int.le_refl _, by show (0 : Int) ≤ (x.length : Int); omega, rfl, by show (x.length : Int) ≤ 100000; omega, ?_⟩, rfl⟩
          show 0 + x.flatten.length ≤ 100000
          omega
        · intro y s' a' w' hy j1 j2 j3
          exact hhead y (Option.some.inj (Prod.mk.inj hy).1) s' a' w' j1 j2 j3
        · intro z a' w' hz; cases hz
        · intro h; cases h
      · obtain ⟨i0, hi, hi1, hi2, hi3⟩ := info_parts (P := Tryz.prog) (e := 66) (z := .agg #[.int .i64 0, .int .i64 0, .int .u32 0, .int .i64 0]) (size := 4) (bytes := 32) (by kernel_rfl)
        have hcall := Any8.slices_Grow_grow growL i0 (.agg #[.int .i64 0, .int .i64 0, .int .u32 0, .int .i64 0]) hi hi1 (by omega) none 0 0 x.flatten.length [] w1 (by omega) (by omega) (by rw [hi3]; omega) (by omega) (by simp) (fun _ => rfl) (fun a h => by cases h)
        refine k2.call (o := rOp (ccB 4) 1) (f := 101) (x := .func 101) (caps := #[]) (ts := #[25, 3]) (by kernel_rfl) (by kernel_rfl) (by kernel_rfl) rfl hargs gr_fn gr_body gr_name hcall ?_
        rintro e w' ⟨rfl, rfl⟩
        have hcap := grownCap_le_maxLen w1 (0 + x.flatten.length) 0 (growR.t 25) (by simp only [maxLen]; omega)
        have hge := grownCap_ge w1 (0 + x.flatten.length) 0 (growR.t 25)
        have hsize : (([] : List Value).toArray ++ Builtin.zeroCells (Value.agg #[.int .i64 0, .int .i64 0, .int .u32 0, .int .i64 0]).cells (0 + x.flatten.length - 0) ++ Builtin.zeroCells (Value.agg #[.int .i64 0, .int .i64 0, .int .u32 0, .int .i64 0]).cells (grownCap w1 (0 + x.flatten.length) 0 (growR.t 25) - (0 + x.flatten.length))).size = grownCap w1 (0 + x.flatten.length) 0 (growR.t 25) * 4 := by
          rw [Array.size_append, Array.size_append, size_zeroCells, size_zeroCells, show (Value.agg #[.int .i64 0, .int .i64 0, .int .u32 0, .int .i64 0]).cells.size = 4 from rfl]
          simp only [List.size_toArray, List.length_nil]
          omega
        generalize (([] : List Value).toArray ++ Builtin.zeroCells (Value.agg #[.int .i64 0, .int .i64 0, .int .u32 0, .int .i64 0]).cells (0 + x.flatten.length - 0) ++ Builtin.zeroCells (Value.agg #[.int .i64 0, .int .i64 0, .int .u32 0, .int .i64 0]).cells (grownCap w1 (0 + x.flatten.length) 0 (growR.t 25) - (0 + x.flatten.length))) = cur at hsize ⊢
        generalize grownCap w1 (0 + x.flatten.length) 0 (growR.t 25) = cap at hcap hge hsize ⊢
        have hnew := heap_alloc_new w1.drew (.cells cur (growR.t 25))
        have hds : w1.drew.heap.size = w1.heap.size := rfl
        rw [hds] at hnew
        refine ⟨_, fun k => k = w1.heap.size, fun _ => some (.cells cur 66 (0, 0)), rfl, fun k h => .inr (by omega), fun k h => by rw [h]; exact (Array.getElem?_eq_some_iff.1 hnew).1, fun k h => by rw [h]; exact hnew, rfl, rfl, rfl, by simp, fun k hk _ => (RowKit.Below.heap_alloc _ _ _ (show k < w1.drew.heap.size from hk)).trans rfl, fun k3 => ?_⟩
        rw [show (rOp (ccB 4) 1).dst = some 24 by kernel_rfl]
        generalize (w1.drew.alloc (.cells cur (growR.t 25))) = w2 at k3 hnew ⊢
        generalize w1.heap.size = d at k3 hnew ⊢
        generalize hv : Value.slice (some ⟨d, 0, none⟩) 0 cap = v at k3 ⊢
        have k4 := k3.keep (k := 24) (v := v) rfl (by omega) (by simp)
        generalize a2.put (some 24) v = a3 at k4 ⊢
        refine RegTo.moved (o := rOp (ccB 4) 2) (x := .tmp 24) (by kernel_rfl) (by kernel_rfl) (.inr (by kernel_rfl)) ?_
        rw [show (rOp (ccB 4) 2).dst = some 6 by kernel_rfl, show a3.eval (.tmp 24) = v from k4.slots (24, v) (by simp)]
        have k5 := k4.keep (k := 6) (v := v) rfl (by omega) (by simp)
        generalize a3.put (some 6) v = a4 at k5 ⊢
        have h6 : a4.tmps.getD 6 undef = v := k5.slots (6, v) (by simp)
        have hat : w2.heap[d]? = some (.cells cur 66 (0, 0)) := hnew
        have k6 := k5.adopt (k := d) (bx := 2006) (p := 6) (v := v) (B := .row 66 gItem [] false) (av := .tip 2006) rfl (by rw [← hv]; rfl) rfl hS
          (fun M hM _ _ hno R' hR' => ⟨[], ⟨rfl, .inr ⟨d, cap, cur, hv.symm, Nat.zero_le _, hat, Nat.zero_le _, hcap, hsize, rfl⟩⟩, rfl, Nat.zero_le _, Nat.zero_le _, by decide, fun blk hblk => by
            rw [← hv] at hblk
            have : d = blk := by simpa [blkOf] using hblk
            subst this
            exact ⟨hR', fun o ho => absurd ho (hno o)⟩⟩)
          (fun M' h1 h2 => by simp only [RelV]; exact ⟨⟨true, _, h1, trivial⟩, by rw [h2]; exact h6⟩)
        have k7 := (k6.less (sl' := []) (fun p hp => by cases hp)).restr (L := { prom := [], keep := ccT2.map (·.1), boxes := ccM2.map (·.1), sum := fun _ => .stuck }) (s' := mkS ccT2 ccM2 ((x, ()), (([] : List DItem), ()))) (by kernel_rfl)
        refine RegTo.nil ?_
        show LTo Tryz.prog b ([ccB 5, ccB 6, ccB 7, ccB 8] ++ []) _ a4 w2
        refine k7.pieceL (c0 := bodyOf (fnOf Tryz.prog 88)) (Λ := [(2, cdD.spec)]) (G := []) tysOK ctrs_nil mixed (by kernel_rfl) (lp_cons cd_loop lp_nil) (fn := fnOf Tryz.prog 88) (res := [.sl gItem]) (ts := []) (bs := []) (F := fun z => z = (some x.flatten, none)) (fun y hy => ?_) (by kernel_rfl) (by kernel_rfl) ?_ ?_ ?_ ?_
        · simp only [List.mem_cons, List.not_mem_nil, or_false] at hy
          rcases hy with rfl | rfl | rfl | rfl <;> exact ⟨_, rfl⟩
        · have k8 : pieceT (mkC tys [] [(2, cdD.spec)]) (fnOf Tryz.prog 88) [.sl gItem] [] [] [ccB 5, ccB 6, ccB 7, ccB 8] (mkS ccT2 ccM2 ((x, ()), (([] : List DItem), ()))) = _ := congrFun cc2_tree ((x, ()), (([] : List DItem), ()))
          refine (congrArg (Tree.holds _) k8).mpr ?_
          refine ⟨⟨Int.le_refl _, by show (0 : Int) ≤ (x.length : Int); omega, rfl, by show (x.length : Int) ≤ 100000; omega, ?_⟩, rfl⟩
          show 0 + x.flatten.length ≤ 100000
          omega
        · intro y s' a' w' hy j1 j2 j3
          exact hhead y (Option.some.inj (Prod.mk.inj hy).1) s' a' w' j1 j2 j3
        · intro z a' w' hz; cases hz
        · intro h; cases h
    · intro h; cases h
theorem gatherG_ok : CtrsOK Tryz.prog (fun f => lk f gatherG) := ctrs_cons concat_ok ctrs_nil
theorem gather_ok : CtrOK Tryz.prog 62 gatherC :=
  fun_ok (G := gatherG) (Λ := []) tysOK gatherG_ok mixed (by kernel_rfl) (by kernel_rfl) (by kernel_rfl) (by kernel_rfl) lp_nil fun (x : List DItem × DPart) hw _ => by
    rw [congrFun gather_tree x]
    have e : gatherC.fn x = gatherF x.1 x.2 := rfl
    rw [e]
    unfold gatherF
    have hf : [x.1, x.2.2.2.2.2].flatten = x.1 ++ x.2.2.2.2.2 := by simp
    simp only [Tree.holds]
    by_cases h1 : (x.1.length : Int) > 48
    · rw [decide_eq_true h1]
      exact ⟨fun _ => rfl, fun h => (by cases h)⟩
    · rw [decide_eq_false h1, i64_id (n := 48 - (x.1.length : Int)) (by omega) (by omega)]
      simp only [cond_false]
      refine ⟨fun h => by rw [h]; rfl, fun h => ?_⟩
      have h' : ¬ (x.2.2.2.2.2.length : Int) > 48 - x.1.length := of_decide_eq_false h
      rw [h, hf]
      refine ⟨⟨by omega, by rw [List.length_append]; omega⟩, fun g => ?_, fun g => ?_⟩
      · have g' : x.2.2.2.2.1 = true := g
        rw [g']
        exact congrArg (fun z : List DItem => ((z, [], false, 0) : List DItem × List DItem × Bool × Int)) hf
      · have g' : x.2.2.2.2.1 = false := g
        rw [g']
        exact congrArg (fun z : List DItem => (([], z, true, 0) : List DItem × List DItem × Bool × Int)) hf
end Go.Ev.Z
/- A part read: items copied into memory of the part's own. -/
set_option linter.unusedVariables false
set_option linter.unusedSimpArgs false
namespace Go.Ev.Z
open Go.Proofs Go.Conc
def ptreadG : List (Nat × Ctr) := [(57, iunallC), (58, rightC), (59, readC), (60, takeC)]
theorem ptreadG_ok : CtrsOK Tryz.prog (fun f => lk f ptreadG) := (ctrs_cons iunall_ok (ctrs_cons right_ok (ctrs_cons read_ok (ctrs_cons take_ok ctrs_nil))))
noncomputable def prB (i : Nat) : Code := rNth (bodyOf (fnOf Tryz.prog 31)) i
@[reducible] def prT : List (Nat × Sh) := [(2, .ptr 2 gPart), (4, .val (.sl gItem)), (12, .ptr 12 gPart), (75, .val .bool)]
@[reducible] def prM : List (Nat × BSh) := [(2, .var gPart), (12, .var gPart)]
@[reducible] def prT2 : List (Nat × Sh) := [(2, .ptr 2 gPart), (12, .ptr 12 gPart)]
@[reducible] def prT3 : List (Nat × Sh) := [(2, .ptr 2 gPart), (4, .val (.sl gItem)), (78, .tip 78)]
@[reducible] def prM3 : List (Nat × BSh) := [(2, .var gPart), (78, .row 66 gItem false)]
abbrev PrS := (List DItem × Bool × Unit) × (DPart × DPart × Unit)
def ptreadC : Ctr := { args := [.str], res := [gPart, .int .i64], pre := none, fn := fun (x : List UInt8) => partRF x }
theorem pr0_tree : (fun x : List UInt8 => pieceT (mkC tys ptreadG []) (fnOf Tryz.prog 31) [gPart, .int .i64] prT prM [prB 0, prB 1, prB 2, prB 3, prB 4, prB 5, prB 6, prB 7, prB 8, prB 9, prB 10, prB 11, prB 12, prB 13, prB 14, prB 15, prB 16, prB 17, prB 18] { tmps := number 0 (resL [.str] x), boxes := [] }) = (fun x => Tree.br (decide ((↑(List.length x) : Int) < (20 : Int))) (Tree.leaf (some (((0 : Int), (((0 : Int), (0 : Int)), (0 : Int), (0 : Int)), (0 : Int), false, []), (2 : Int)), none)) (Tree.br (decide (IntKind.wrap IntKind.i64 ((↑(List.length x) : Int) - (20 : Int)) > (40 : Int))) (Tree.leaf (some (((0 : Int), (((0 : Int), (0 : Int)), (0 : Int), (0 : Int)), (0 : Int), false, []), (4 : Int)), none)) (Tree.need ((0 : Int) ≤ (20 : Int) ∧ (20 : Int) ≤ (↑(List.length x) : Int)) (Tree.br ((unallF (List.drop (20 : Nat) x)).2 != (0 : Int)) (Tree.leaf (some (((0 : Int), (((0 : Int), (0 : Int)), (0 : Int), (0 : Int)), (0 : Int), false, []), (unallF (List.drop (20 : Nat) x)).2), none)) (Tree.need ((0 : Int) ≤ (0 : Int) ∧ (0 : Int) < (↑(List.length x) : Int)) (Tree.need ((0 : Int) ≤ (19 : Int) ∧ (19 : Int) < (↑(List.length x) : Int)) (Tree.br (bif decide ((↑(UInt8.toNat (List.getD x (19 : Nat) (0 : UInt8))) : Int) > (1 : Int)) then true else !rightF (IntKind.wrap IntKind.i64 (↑(UInt8.toNat (List.getD x (0 : Nat) (0 : UInt8))) : Int))) (Tree.leaf (some (((0 : Int), (((0 : Int), (0 : Int)), (0 : Int), (0 : Int)), (0 : Int), false, []), (3 : Int)), none)) (Tree.need ((0 : Int) ≤ (1 : Int) ∧ (1 : Int) ≤ (20 : Int) ∧ (20 : Int) ≤ (↑(List.length x) : Int)) (Tree.br ((readF (List.drop (1 : Nat) (List.take (20 : Nat) x))).2.2 != (0 : Int)) (Tree.leaf (some (((0 : Int), (((0 : Int), (0 : Int)), (0 : Int), (0 : Int)), (0 : Int), false, []), (readF (List.drop (1 : Nat) (List.take (20 : Nat) x))).2.2), none)) (Tree.br ((takeF (readF (List.drop (1 : Nat) (List.take (20 : Nat) x))).2.1 (2 : Int)).2.2 != (0 : Int)) (Tree.leaf (some (((0 : Int), (((0 : Int), (0 : Int)), (0 : Int), (0 : Int)), (0 : Int), false, []), (takeF (readF (List.drop (1 : Nat) (List.take (20 : Nat) x))).2.1 (2 : Int)).2.2), none)) (Tree.leaf (none, some (((unallF (List.drop (20 : Nat) x)).1, decide ((↑(List.length (unallF (List.drop (20 : Nat) x)).1) : Int) > (0 : Int)), ()), ((0 : Int), (((0 : Int), (0 : Int)), (0 : Int), (0 : Int)), (0 : Int), false, []), (IntKind.wrap IntKind.i64 (↑(UInt8.toNat (List.getD x (0 : Nat) (0 : UInt8))) : Int), (readF (List.drop (1 : Nat) (List.take (20 : Nat) x))).1, IntKind.wrap IntKind.i64 (takeF (readF (List.drop (1 : Nat) (List.take (20 : Nat) x))).2.1 (2 : Int)).1, (↑(UInt8.toNat (List.getD x (19 : Nat) (0 : UInt8))) : Int) == (1 : Int), []), ()))))))))))))) := by kernel_rfl
theorem pr1_tree : (fun x : (Unit) × (DPart × DPart × Unit) => pieceT (mkC tys ptreadG []) (fnOf Tryz.prog 31) [gPart, .int .i64] [] [] [prB 20, prB 21] (mkS prT2 prM x)) = (fun x => Tree.leaf (some (x.2.2.1, (0 : Int)), none)) := by kernel_rfl
noncomputable def prI (i : Nat) : Code := rNth (rThen (prB 19)) i
@[reducible] def prT4 : List (Nat × Sh) := [(2, .ptr 2 gPart), (4, .val (.sl gItem)), (12, .ptr 12 gPart), (78, .tip 78)]
@[reducible] def prM4 : List (Nat × BSh) := [(2, .var gPart), (12, .var gPart), (78, .row 66 gItem false)]
@[reducible] def prT5 : List (Nat × Sh) := [(2, .ptr 2 gPart), (4, .val (.sl gItem)), (78, .tip 78), (81, .tip 78)]
theorem pr2_tree : (fun x : PrS => opsT (mkC tys [] []) prT4 prM4 [rOp (prI 0) 0, rOp (prI 0) 1, rOp (prI 0) 2] (mkS prT prM x)) = (fun x => Tree.need ((0 : Int) ≤ (↑(List.length x.1.1) : Int) ∧ (↑(List.length x.1.1) : Int) ≤ (↑(List.length x.1.1) : Int) ∧ (↑(List.length x.1.1) : Int) * (32 : Int) ≤ (140737488355328 : Int)) (Tree.leaf (some ((x.1.1, ()), x.2.1, x.2.2.1, List.replicate (Int.toNat (↑(List.length x.1.1) : Int)) ((0 : Int), (0 : Int), (0 : Int), (0 : Int)), ())))) := by kernel_rfl
theorem pr3_tree : (fun x : (List DItem × Unit) × (DPart × List DItem × Unit) => opsT (mkC tys [] []) prT3 prM3 [rOp (prI 1) 2, rOp (prI 1) 3] (mkS prT5 prM3 x)) = (fun x => Tree.need (List.length x.1.1 = List.length x.2.2.1 ∧ (0 : Nat) < List.length x.1.1) (Tree.leaf (some ((x.1.1, ()), x.2.1, x.1.1, ())))) := by kernel_rfl
theorem pr_all : seqs (bodyOf (fnOf Tryz.prog 31)) = [prB 0, prB 1, prB 2, prB 3, prB 4, prB 5, prB 6, prB 7, prB 8, prB 9, prB 10, prB 11, prB 12, prB 13, prB 14, prB 15, prB 16, prB 17, prB 18, prB 19, prB 20, prB 21] := by kernel_rfl
theorem pr_19 : prB 19 = .cond (.tmp 75) (rThen (prB 19)) .skip := by kernel_rfl
theorem pr_in : seqs (rThen (prB 19)) = [prI 0, prI 1] := by kernel_rfl
theorem pr_i0 : prI 0 = .region 19 (rOps (prI 0)) false := by kernel_rfl
theorem pr_i1 : prI 1 = .region 20 (rOps (prI 1)) false := by kernel_rfl
theorem pr_n : (fnOf Tryz.prog 31).ntmps = 85 := by kernel_rfl
theorem pr_first (x : List UInt8) (hx : x.length ≤ 4611686018427387904) : (pieceT (mkC tys ptreadG []) (fnOf Tryz.prog 31) [gPart, .int .i64] prT prM [prB 0, prB 1, prB 2, prB 3, prB 4, prB 5, prB 6, prB 7, prB 8, prB 9, prB 10, prB 11, prB 12, prB 13, prB 14, prB 15, prB 16, prB 17, prB 18] { tmps := number 0 (resL [.str] x), boxes := [] }).holds (fun z => z = (some (partRF x), none) ∨
    ∃ (l : List DItem) (P0 P : DPart), z = (none, some ((l, decide ((l.length : Int) > 0), ()), (P0, P, ()))) ∧ partRF x = ((P.1, P.2.1, P.2.2.1, P.2.2.2.1, l), 0) ∧ P.2.2.2.2 = [] ∧ l.length ≤ 48) := by
  rw [congrFun pr0_tree x]
  have b0 := byteN_in x 0
  have b19 := byteN_in x 19
  have e0 : IntKind.i64.wrap ((UInt8.toNat (List.getD x 0 0) : Nat) : Int) = byteN x 0 := i64_id (n := byteN x 0) (by omega) (by omega)
  have e19 : ((UInt8.toNat (List.getD x 19 0) : Nat) : Int) = byteN x 19 := rfl
  have hz : ((0 : Int), (((0 : Int), (0 : Int)), (0 : Int), (0 : Int)), (0 : Int), false, ([] : List DItem)) = part0 := rfl
  simp only [Tree.holds, e0, e19, hz]
  unfold partRF
  refine ⟨fun h => .inl (by rw [h]; rfl), fun h => ?_⟩
  have hl : 20 ≤ x.length := by have := of_decide_eq_false h; omega
  · rw [i64_id (n := (x.length : Int) - 20) (by omega) (by omega)]
    refine ⟨fun h2 => .inl ?_, fun h2 => ⟨⟨by omega, by omega⟩, fun h3 => .inl ?_, fun h3 => ⟨⟨by omega, by omega⟩, ⟨by omega, by omega⟩, fun h4 => .inl ?_, fun h4 => ⟨⟨by omega, by omega, by omega⟩, ?_⟩⟩⟩⟩
    · have h2' := of_decide_eq_true h2
      rw [h, decide_eq_true (show (x.length : Int) > 60 by omega)]; rfl
    · have h2' := of_decide_eq_false h2
      rw [h, decide_eq_false (show ¬ (x.length : Int) > 60 by omega), h3]; rfl
    · have h2' := of_decide_eq_false h2
      rw [h, decide_eq_false (show ¬ (x.length : Int) > 60 by omega), h3, h4]; rfl
    · have h2' := of_decide_eq_false h2
      have hl2 : ((x.take 20).drop 1).length = 19 := by rw [List.length_drop, List.length_take]; omega
      have er : (readF ((x.take 20).drop 1)).2 = ((x.take 20).drop 17, 0) := by
        unfold readF
        rw [decide_eq_false (by rw [hl2]; omega)]
        simp [List.drop_drop]
      have ht : takeF ((x.take 20).drop 17) 2 = (big2 (x.drop 17), (x.take 20).drop 19, 0) := by
        have := take_two (s := x.take 20) (k := 17) (by rw [List.length_take]; omega)
        rw [this]
        have e : big2 ((x.take 20).drop 17) = big2 (x.drop 17) := by
          unfold big2
          rw [List.drop_take, List.take_take, show min 2 (20 - 17) = 2 from rfl]
        rw [e]
      rw [er, ht]
      refine ⟨fun h5 => (by cases h5), fun _ => ⟨fun h5 => (by cases h5), fun _ => .inr ⟨_, _, _, rfl, ?_, rfl, unall_len _⟩⟩⟩
      have b2 := big2_in (x.drop 17)
      rw [h, decide_eq_false (show ¬ (x.length : Int) > 60 by omega), h3, h4, i64_id (n := big2 (x.drop 17)) (by omega) (by omega)]
      rfl
attribute [local irreducible] fnOf bodyOf
theorem ptread_ok : CtrOK Tryz.prog 31 ptreadC :=
  ctr_of_own (C := mkC tys ptreadG []) tysOK (by kernel_rfl) (by kernel_rfl) (by kernel_rfl) (fun x => by rw [pr_n]; show 1 ≤ 85; omega) fun R0 b (x : List UInt8) a0 hown hbk hw _ h0 hsz0 hd0 => by
    rw [pr_n] at hsz0
    have hS := S0_lt h0
    rw [pr_all]
    have k0 := Kd.start (W := fun _ => none) (n := 85) (sl := []) (D := []) h0 hsz0 hd0 (fun _ h => by cases h)
    have fin : ∀ (s' : St) (a' : Act) (w' : World) (y : DPart × Int), y = partRF x → IsSt R0 s' a' w' → a'.defers = [] → (evRes (mkC tys ptreadG []) (fnOf Tryz.prog 31) [gPart, .int .i64] (.normal, s')).holds (fun z => z = y) → finQ (mkC tys ptreadG []) (fnOf Tryz.prog 31) ptreadC.res R0 (ptreadC.fn x) .ret a' w' := by
      intro s' a' w' y hy j1 j2 j3
      rw [hy] at j3
      exact ⟨.inr rfl, j2, s', j1, j3⟩
    have last : ∀ (W : Nat → Option Obj) (K : Nat → Prop) (a : Act) (w : World) (P0 P : DPart), (P, 0) = partRF x → Kd R0 K W 85 [] (mkS prT2 prM ((), (P0, P, ()))) a w → LTo Tryz.prog b [prB 20, prB 21] (finQ (mkC tys ptreadG []) (fnOf Tryz.prog 31) ptreadC.res R0 (ptreadC.fn x)) a w := by
      intro W K a w P0 P hP k
      show LTo Tryz.prog b ([prB 20, prB 21] ++ []) _ a w
      refine k.piece (C := mkC tys ptreadG []) tysOK ptreadG_ok mixed (fn := fnOf Tryz.prog 31) (res := [gPart, .int .i64]) (ts := []) (bs := []) (G := fun z => z = (some (P, 0), none)) (by kernel_rfl) (by kernel_rfl) ?_ ?_ ?_ ?_
      · have k8 : pieceT (mkC tys ptreadG []) (fnOf Tryz.prog 31) [gPart, .int .i64] [] [] [prB 20, prB 21] (mkS prT2 prM ((), (P0, P, ()))) = _ := congrFun pr1_tree ((), (P0, P, ()))
        exact (congrArg (Tree.holds _) k8).mpr rfl
      · intro y s' a' w' hy j1 j2 j3
        exact fin s' a' w' y ((Option.some.inj (Prod.mk.inj hy).1).trans hP) j1 j2 j3
      · intro z a' w' hz; cases hz
      · intro h; cases h
    show LTo Tryz.prog b ([prB 0, prB 1, prB 2, prB 3, prB 4, prB 5, prB 6, prB 7, prB 8, prB 9, prB 10, prB 11, prB 12, prB 13, prB 14, prB 15, prB 16, prB 17, prB 18] ++ [prB 19, prB 20, prB 21]) _ a0 R0.w0
    refine k0.piece (C := mkC tys ptreadG []) tysOK ptreadG_ok mixed (fn := fnOf Tryz.prog 31) (res := [gPart, .int .i64]) (ts := prT) (bs := prM) (by kernel_rfl) (by kernel_rfl) (pr_first x hw) ?_ ?_ ?_
    · intro y s' a' w' hy j1 j2 j3
      rcases hy with hy | ⟨_, _, _, hy, _⟩
      · exact fin s' a' w' y (Option.some.inj (Prod.mk.inj hy).1) j1 j2 j3
      · cases hy
    · intro z a1 w1 hz k1
      rcases hz with hz | ⟨l, P0, P, hz, hP, hP0, hl48⟩
      · cases hz
      have hz' : z = ((l, decide ((l.length : Int) > 0), ()), (P0, P, ())) := Option.some.inj (Prod.mk.inj hz).2
      subst hz'
      refine LTo.cons ?_
      rw [pr_19]
      refine CodeTo.cond (t := decide ((l.length : Int) > 0)) (k1.old.bool rfl) ?_
      cases hpos : decide ((l.length : Int) > 0) with
      | false =>
        have hl : l = [] := by
          have := of_decide_eq_false hpos
          exact List.eq_nil_of_length_eq_zero (by omega)
        rw [if_neg (by simp)]
        refine CodeTo.skip ?_
        have k2 := k1.restr (L := { prom := [], keep := prT2.map (·.1), boxes := prM.map (·.1), sum := fun _ => .stuck }) (s' := mkS prT2 prM ((), (P0, P, ()))) (by kernel_rfl)
        refine last _ _ a1 w1 P0 P ?_ k2
        rw [hP, hl, ← hP0]
      | true =>
        have hl : 0 < l.length := by have := of_decide_eq_true hpos; omega
        rw [if_pos rfl]
        refine CodeTo.seqs ?_
        rw [pr_in]
        refine LTo.cons ?_
        rw [pr_i0]
        refine CodeTo.region ?_
        rw [show List.range (rOps (prI 0)).size = [0, 1, 2] ++ [3, 4] by kernel_rfl]
        refine k1.opsL (C := mkC tys [] []) tysOK ctrs_nil (ts := prT4) (bs := prM4) (G := fun z => z = some ((l, ()), (P0, P, List.replicate l.length item0, ()))) [0, 1, 2] (by kernel_rfl) (by kernel_rfl) ?_ ?_ (fun h => by cases h)
        · have k8 : opsT (mkC tys [] []) prT4 prM4 [rOp (prI 0) 0, rOp (prI 0) 1, rOp (prI 0) 2] (mkS prT prM ((l, decide ((l.length : Int) > 0), ()), (P0, P, ()))) = _ := congrFun pr2_tree ((l, decide ((l.length : Int) > 0), ()), (P0, P, ()))
          refine (congrArg (Tree.holds _) k8).mpr ?_
          exact ⟨⟨by show (0 : Int) ≤ (l.length : Int); omega, by show (l.length : Int) ≤ (l.length : Int); omega, by show (l.length : Int) * 32 ≤ 140737488355328; omega⟩, rfl⟩
        · intro z a2 w2 hz k2
          have hz' : z = ((l, ()), (P0, P, List.replicate l.length item0, ())) := Option.some.inj hz
          subst hz'
          obtain ⟨k, cs, e, k3, S, henc⟩ := k2.release (L := { prom := [], keep := prT3.map (·.1), boxes := prM3.map (·.1), sum := fun _ => .stuck }) (s' := mkS prT3 prM3 ((l, ()), (P0, List.replicate l.length item0, ()))) (p := 12) (bx := 12) (d := false) (g := gPart) (x := P) hown (by kernel_rfl) (by kernel_rfl) (by kernel_rfl) (by kernel_rfl)
          obtain ⟨_, _, hcs, ⟨rfl, r1⟩, _, _, rfl, ⟨_, _, rfl, ⟨_, _, rfl, ⟨rfl, r2⟩, ⟨rfl, r3⟩⟩, ⟨_, _, rfl, ⟨rfl, r4⟩, ⟨rfl, r5⟩⟩⟩, _, _, rfl, ⟨rfl, r6⟩, _, _, rfl, r7, ⟨ad, cap, rfl, _⟩⟩ := henc
          have r7' := (show _ = _ from r7)
          subst r7'
          obtain rfl : cs = #[.int .i64 P.1, .int .u32 P.2.1.1.1, .int .u32 P.2.1.1.2, .int .u32 P.2.1.2.1, .int .u32 P.2.1.2.2, .int .i64 P.2.2.1, .bool P.2.2.2.1, .slice ad (List.length (α := DItem) P.2.2.2.2) cap] := by
            apply Array.toList_inj.1
            rw [hcs]; rfl
          obtain ⟨va, vm, vc, hv⟩ := k3.tip_slice (t := 78) (c := 78) (e := 66) (d := false) (fz := false) (g := gItem) (xs := List.replicate l.length item0) (by kernel_rfl) (by kernel_rfl)
          have k4 := k3.hold (t := 78)
          rw [hv] at k4
          generalize hvv : Value.slice va vm vc = v at k4
          have hvc : v.cells = #[v] := by rw [← hvv]; rfl
          have hvo : v.oneCell' = true := by rw [← hvv]; rfl
          -- the address of the items
          refine RegTo.field (τ := tys) (o := rOp (prI 0) 3) (k := k) (off := 0) (T := 52) (kk := 4) (x := .tmp 12) (d := 79) (ti := ⟨gPart, 5, _, _⟩) (g := .sl gItem) tysOK rfl (by kernel_rfl) (by kernel_rfl) (by kernel_rfl) (by kernel_rfl) (by kernel_rfl) (by kernel_rfl) (k4.slots (12, .pointer (some ⟨k, 0, none⟩)) (by simp)) ?_
          rw [show 0 + offs gPart (fieldPath 5 4) = 7 by kernel_rfl]
          have k5 := k4.keep (k := 79) (v := .pointer (some ⟨k, 7, none⟩)) rfl (by omega) (by simp)
          generalize a2.put (some 79) (.pointer (some ⟨k, 7, none⟩)) = a3 at k5 ⊢
          refine Kv.store (τ := tys) (T := 25) (off := 7) (o := rOp (prI 0) 4) (x := .tmp 79) (y := .tmp 78) (ti := ⟨.sl gItem, _, _, _⟩) (v := v) k5 (tysOK _ _ rfl) rfl (by kernel_rfl) (by kernel_rfl) (by kernel_rfl) (k5.slots (79, .pointer (some ⟨k, 7, none⟩)) (by simp)) (k5.slots (78, v) (by simp)) hvc hvo (by simp) (by kernel_rfl) fun w3 k6 => ?_
          refine RegTo.nil ?_
          have k7 := k6.less (sl' := [(78, v), (12, .pointer (some ⟨k, 0, none⟩))]) (fun p hp => by simp at hp ⊢; simp [hp])
          rw [show (#[.int .i64 P.1, .int .u32 P.2.1.1.1, .int .u32 P.2.1.1.2, .int .u32 P.2.1.2.1, .int .u32 P.2.1.2.2, .int .i64 P.2.2.1, .bool P.2.2.2.1, .slice ad (List.length (α := DItem) P.2.2.2.2) cap] : Array Value).set! 7 v = #[.int .i64 P.1, .int .u32 P.2.1.1.1, .int .u32 P.2.1.1.2, .int .u32 P.2.1.2.1, .int .u32 P.2.1.2.2, .int .i64 P.2.2.1, .bool P.2.2.2.1, v] from rfl] at k7
          refine LTo.cons ?_
          rw [pr_i1]
          refine CodeTo.region ?_
          rw [show List.range (rOps (prI 1)).size = [0, 1] ++ [2, 3] by kernel_rfl]
          refine RegTo.field (τ := tys) (o := rOp (prI 1) 0) (k := k) (off := 0) (T := 52) (kk := 4) (x := .tmp 12) (d := 80) (ti := ⟨gPart, 5, _, _⟩) (g := .sl gItem) tysOK rfl (by kernel_rfl) (by kernel_rfl) (by kernel_rfl) (by kernel_rfl) (by kernel_rfl) (by kernel_rfl) (k7.slots (12, .pointer (some ⟨k, 0, none⟩)) (by simp)) ?_
          rw [show 0 + offs gPart (fieldPath 5 4) = 7 by kernel_rfl]
          have k8 := k7.keep (k := 80) (v := .pointer (some ⟨k, 7, none⟩)) rfl (by omega) (by simp)
          generalize a3.put (some 80) (.pointer (some ⟨k, 7, none⟩)) = a4 at k8 ⊢
          refine Kv.load (τ := tys) (T := 25) (off := 7) (o := rOp (prI 1) 1) (x := .tmp 80) (d := 81) (ti := ⟨.sl gItem, _, _, _⟩) (v := v) k8 (tysOK _ _ rfl) rfl (by kernel_rfl) (by kernel_rfl) (by kernel_rfl) (by kernel_rfl) (k8.slots (80, .pointer (some ⟨k, 7, none⟩)) (by simp)) rfl ?_
          have k9 := ((k8.less (sl' := [(78, v), (12, .pointer (some ⟨k, 0, none⟩))]) (fun p hp => by simp at hp ⊢; rcases hp with h | h <;> simp [h])).copy (d := 81) (t := 78) (v := v) (k8.slots (78, v) (by simp)) (by omega) (by simp))
          have k10 := k9.restr (L := { prom := [], keep := prT5.map (·.1), boxes := prM3.map (·.1), sum := fun _ => .stuck }) (s' := mkS prT5 prM3 ((l, ()), (P0, List.replicate l.length item0, ()))) (by kernel_rfl)
          generalize a4.put (some 81) v = a5 at k10 ⊢
          show RegTo Tryz.prog b _ ([2, 3] ++ []) _ _ _
          refine k10.opsL (C := mkC tys [] []) tysOK ctrs_nil (ts := prT3) (bs := prM3) (G := fun z => z = some ((l, ()), (P0, l, ()))) [2, 3] (by kernel_rfl) (by kernel_rfl) ?_ ?_ (fun h => by cases h)
          · have k8 : opsT (mkC tys [] []) prT3 prM3 [rOp (prI 1) 2, rOp (prI 1) 3] (mkS prT5 prM3 ((l, ()), (P0, List.replicate l.length item0, ()))) = _ := congrFun pr3_tree ((l, ()), (P0, List.replicate l.length item0, ()))
            refine (congrArg (Tree.holds _) k8).mpr ?_
            exact ⟨⟨by show l.length = (List.replicate l.length item0).length; rw [List.length_replicate], hl⟩, rfl⟩
          · intro z a6 w6 hz k11
            have hz' : z = ((l, ()), (P0, l, ())) := Option.some.inj hz
            subst hz'
            refine RegTo.nil ?_
            have k12 := k11.freeze (t := 78) (c := 78) (e := 66) (d := false) (fz := false) (g := gItem) (xs := l) (by kernel_rfl) (by kernel_rfl)
            have h12 : a6.tmps.getD 12 undef = .pointer (some ⟨k, 0, none⟩) := k12.slots (12, .pointer (some ⟨k, 0, none⟩)) (by simp)
            have h78 : a6.tmps.getD 78 undef = v := k12.slots (78, v) (by simp)
            have hat := Kv.at k12
            have k13 := k12.adopt (k := k) (bx := 12) (p := 12) (v := .pointer (some ⟨k, 0, none⟩)) (B := .var gPart (P.1, P.2.1, P.2.2.1, P.2.2.2.1, l)) (av := .ptr 12 gPart []) rfl rfl (by kernel_rfl) hS
              (fun M hM _ hr hno R' hR' => by
                have h7 := hr 78
                rw [h78] at h7
                have h8 : RelV M (.val (.sl gItem) l) v := h7
                simp only [RelV] at h8
                obtain ⟨c8, h9, h10⟩ := h8
                have h11 : c8 = [v] := by
                  obtain ⟨ad', cap', e1, _⟩ := h9
                  rw [e1] at h10 ⊢
                  rw [h10]; rfl
                rw [h11] at h9
                refine ⟨k, _, e, rfl, hat, ?_, hno, hR'⟩
                exact ⟨[.int .i64 P.1], _, rfl, ⟨rfl, r1⟩, [.int .u32 P.2.1.1.1, .int .u32 P.2.1.1.2, .int .u32 P.2.1.2.1, .int .u32 P.2.1.2.2], _, rfl, ⟨[.int .u32 P.2.1.1.1, .int .u32 P.2.1.1.2], _, rfl, ⟨[.int .u32 P.2.1.1.1], _, rfl, ⟨rfl, r2⟩, rfl, r3⟩, [.int .u32 P.2.1.2.1], _, rfl, ⟨rfl, r4⟩, rfl, r5⟩, [.int .i64 P.2.2.1], _, rfl, ⟨rfl, r6⟩, [.bool P.2.2.2.1], _, rfl, rfl, hM ▸ h9⟩)
              (fun M' h1 h2 => by simp only [RelV]; exact ⟨k, true, _, h1, ⟨rfl, by trivial⟩, by rw [h2]; rfl, h12⟩)
            have k14 := (k13.less (sl' := []) (fun p hp => by cases hp)).restr (L := { prom := [], keep := prT2.map (·.1), boxes := prM.map (·.1), sum := fun _ => .stuck }) (s' := mkS prT2 prM ((), (P0, (P.1, P.2.1, P.2.2.1, P.2.2.2.1, l), ()))) (by kernel_rfl)
            exact last _ _ a6 w6 P0 _ hP.symm k14
    · rintro (h | ⟨_, _, _, h, _⟩) <;> cases h
end Go.Ev.Z
/- What a frame says; the window takes a part. -/
set_option linter.unusedVariables false
set_option linter.unusedSimpArgs false
namespace Go.Ev.Z
open Go.Proofs Go.Conc
def toldC : Ctr := { args := [.str], res := [gPart, .bool], pre := none, fn := fun (x : List UInt8) => toldF x }
def toldG : List (Nat × Ctr) := [(30, fopenC), (31, ptreadC)]
theorem told_tree : (fun x : List UInt8 => evFn (mkC tys toldG []) (fnOf Tryz.prog 12) (resL toldC.args x) toldC.res) = (fun x => Tree.leaf ((partRF (openF x).2.1).1, bif bif (openF x).2.2 == (0 : Int) then (partRF (openF x).2.1).2 == (0 : Int) else false then (openF x).1 == (2 : Int) else false)) := by kernel_rfl
theorem told_ok : CtrOK Tryz.prog 12 toldC :=
  fun_ok (G := toldG) (Λ := []) tysOK (ctrs_cons fopen_ok (ctrs_cons ptread_ok ctrs_nil)) mixed (by kernel_rfl) (by kernel_rfl) (by kernel_rfl) (by kernel_rfl) lp_nil fun (x : List UInt8) hw _ => by
    rw [congrFun told_tree x]
    exact holds_val (d := toldC.fn x) (by kernel_rfl) (by simp [Tree.safe])
def cameC : Ctr := { args := [.str], res := [gAck, .bool], pre := none, fn := fun (x : List UInt8) => cameF x }
def cameG : List (Nat × Ctr) := [(30, fopenC), (34, areadC)]
theorem came_tree : (fun x : List UInt8 => evFn (mkC tys cameG []) (fnOf Tryz.prog 14) (resL cameC.args x) cameC.res) = (fun x => Tree.leaf ((ackRF (openF x).2.1).1, bif bif (openF x).2.2 == (0 : Int) then (ackRF (openF x).2.1).2 == (0 : Int) else false then (openF x).1 == (3 : Int) else false)) := by kernel_rfl
theorem came_ok : CtrOK Tryz.prog 14 cameC :=
  fun_ok (G := cameG) (Λ := []) tysOK (ctrs_cons fopen_ok (ctrs_cons aread_ok ctrs_nil)) mixed (by kernel_rfl) (by kernel_rfl) (by kernel_rfl) (by kernel_rfl) lp_nil fun (x : List UInt8) hw _ => by
    rw [congrFun came_tree x]
    exact holds_val (d := cameC.fn x) (by kernel_rfl) (by simp [Tree.safe])
def wtakeG : List (Nat × Ctr) := [(82, pokC), (76, srtC), (83, snearC), (85, seqsC), (84, scontC), (86, putC)]
theorem wtakeG_ok : CtrsOK Tryz.prog (fun f => lk f wtakeG) := (ctrs_cons pok_ok (ctrs_cons srt_ok (ctrs_cons snear_ok (ctrs_cons seqs_ok (ctrs_cons scont_ok (ctrs_cons put_ok ctrs_nil))))))
def ownG : List (Nat × Ctr) := [(87, ownC)]
noncomputable def tkB (i : Nat) : Code := rNth (bodyOf (fnOf Tryz.prog 61)) i
noncomputable def tkS : Code := match tkB 1 with | .scope c => c | c => c
noncomputable def tkC (i : Nat) : Code := rNth tkS i
noncomputable def tkL (i : Nat) : Code := rNth (loopB 1 (bodyOf (fnOf Tryz.prog 61))) i
noncomputable def tkI (i : Nat) : Code := rNth (rIn (tkL 2)) i
noncomputable def tkT (i : Nat) : Code := rNth (rThen (tkI 2)) i
noncomputable def tkM (i : Nat) : Code := rNth (loopB 3 (bodyOf (fnOf Tryz.prog 61))) i
noncomputable def tkN (i : Nat) : Code := rNth (rIn (tkM 2)) i
@[reducible] def tkT0 : List (Nat × Sh) := [(2, .ptr 2 gWin), (3, .ptr 3 gPart), (4, .ptr 4 gWin), (5, .nil), (6, .val (.int .i64))]
@[reducible] def tkM0 : List (Nat × BSh) := [(2, .var gWin), (3, .var gPart), (4, .var gWin)]
@[reducible] def tkT1 : List (Nat × Sh) := [(2, .ptr 2 gWin), (4, .ptr 4 gWin), (5, .nil), (6, .val (.int .i64)), (7, .val (.sl gPart))]
@[reducible] def tkM1 : List (Nat × BSh) := [(2, .var gWin), (4, .var gWin)]
def takePre (x : DWin × DPart) : Prop := x.1.2.length ≤ 1000 ∧ ∀ y ∈ x.1.2, y.2.2.2.2.length ≤ 1000
def wtakeC : Ctr := { args := [gWin, gPart], res := [gWin, .sl gPart, .int .i64], pre := some takePre, fn := fun (x : DWin × DPart) => wtakeF x.1 x.2 }
theorem tk0_tree : (fun x : DWin × DPart => pieceT (mkC tys [] []) (fnOf Tryz.prog 61) [gWin, .sl gPart, .int .i64] tkT0 tkM0 [tkB 0] { tmps := number 0 (resL [gWin, gPart] x), boxes := [] }) = (fun x => Tree.leaf (none, some (((0 : Int), ()), x.1, x.2, ((0 : Int), []), ()))) := by kernel_rfl
theorem tk1_tree : (fun x : (Int × Unit) × (DWin × DPart × DWin × Unit) => pieceT (mkC tys wtakeG []) (fnOf Tryz.prog 61) [gWin, .sl gPart, .int .i64] tkT1 tkM1 [tkC 0, tkC 1] (mkS tkT0 tkM0 x)) = (fun x => Tree.br (bif !pokF x.2.2.1 then !pokF x.2.2.1 else !nearF x.2.1.1) (Tree.leaf (some (x.2.1, [], (1 : Int)), none)) (Tree.br (decide (x.2.2.1.2.2.1 < x.2.1.1)) (Tree.leaf (some (x.2.1, [], (6 : Int)), none)) (Tree.br (!nearS x.2.2.1.2.2.1 x.2.1.1) (Tree.leaf (some (x.2.1, [], (8 : Int)), none)) (Tree.need (List.length x.2.1.2 ≤ (100000 : Nat)) (Tree.need (List.length (seqsF x.2.1) ≤ (100000 : Nat)) (Tree.br (List.any (seqsF x.2.1) fun n => n == x.2.2.1.2.2.1) (Tree.leaf (some (x.2.1, [], (6 : Int)), none)) (Tree.need (List.length x.2.1.2 ≤ (100000 : Nat)) (Tree.leaf (none, some ((x.1.1, putF x.2.1.2 x.2.2.1, ()), x.2.1, x.2.2.2.1, ())))))))))) := by kernel_rfl
theorem tk_build (n : Int) (w : World) : (Instr.build 31 #[(0, Value.int .i64 n)]).run Tryz.prog w = .ok (.agg #[.int .i64 n, .slice none 0 0]) w := by kernel_rfl
theorem tk_all : seqs (bodyOf (fnOf Tryz.prog 61)) = [tkB 0, tkB 1] := by kernel_rfl
theorem tk_1 : tkB 1 = .scope tkS := by kernel_rfl
theorem tk_s : seqs tkS = [tkC 0, tkC 1, tkC 2, tkC 3, tkC 4, tkC 5, tkC 6, tkC 7, tkC 8] := by kernel_rfl
theorem tk_2 : tkC 2 = .region 11 (rOps (tkC 2)) false := by kernel_rfl
theorem tk_6 : tkC 6 = .block 1 (.loop (loopB 1 (bodyOf (fnOf Tryz.prog 61)))) := by kernel_rfl
theorem tk_loop : seqs (loopB 1 (bodyOf (fnOf Tryz.prog 61))) = [tkL 0, tkL 1, tkL 2, tkL 3] := by kernel_rfl
theorem tk_l1 : tkL 1 = .cond (.tmp 55) .skip (.exit 1) := by kernel_rfl
theorem tk_l2 : tkL 2 = .block 2 (rIn (tkL 2)) := by kernel_rfl
theorem tk_in : seqs (rIn (tkL 2)) = [tkI 0, tkI 1, tkI 2, tkI 3, tkI 4] := by kernel_rfl
theorem tk_i1 : tkI 1 = .region 16 (rOps (tkI 1)) false := by kernel_rfl
theorem tk_i2 : tkI 2 = .cond (.tmp 63) (rThen (tkI 2)) .skip := by kernel_rfl
theorem tk_then : seqs (rThen (tkI 2)) = [tkT 0, tkT 1, tkT 2] := by kernel_rfl
theorem tk_t1 : tkT 1 = .block 3 (.loop (loopB 3 (bodyOf (fnOf Tryz.prog 61)))) := by kernel_rfl
theorem tk_t2 : tkT 2 = .exit 1 := by kernel_rfl
theorem tk_mloop : seqs (loopB 3 (bodyOf (fnOf Tryz.prog 61))) = [tkM 0, tkM 1, tkM 2, tkM 3] := by kernel_rfl
theorem tk_m1 : tkM 1 = .cond (.tmp 69) .skip (.exit 3) := by kernel_rfl
theorem tk_m2 : tkM 2 = .block 4 (rIn (tkM 2)) := by kernel_rfl
theorem tk_min : seqs (rIn (tkM 2)) = [tkN 0, tkN 1] := by kernel_rfl
theorem tk_n1 : tkN 1 = .region 20 (rOps (tkN 1)) true := by kernel_rfl
theorem tk_i4 : tkI 4 = .region 23 (rOps (tkI 4)) false := by kernel_rfl
theorem tk_n : (fnOf Tryz.prog 61).ntmps = 92 := by kernel_rfl
def tkA (i c : Nat) : Array Bool := #[decide (0 < i), decide (1 < i), decide (0 < c), decide (1 < c), decide (2 < c), false, false, false]
def tkR (i c : Nat) : List Nat := (if i < 2 then [i] else []) ++ (if c < 3 then [2 + c] else []) ++ (if i = 2 ∧ c = 3 then [5] else [])
theorem tk_ready : ∀ i c, i ≤ 2 → c ≤ 3 → Region.ready .any (rOps (tkN 1)) (tkA i c) = tkR i c
  | 0, 0, _, _ | 0, 1, _, _ | 0, 2, _, _ | 0, 3, _, _ | 1, 0, _, _ | 1, 1, _, _ | 1, 2, _, _ | 1, 3, _, _ | 2, 0, _, _ | 2, 1, _, _ | 2, 2, _, _ | 2, 3, _, _ => by kernel_rfl
  | i + 3, c, h, _ => by omega
  | i, c + 4, _, h => by omega
theorem tk_ready5 : Region.ready .any (rOps (tkN 1)) #[true, true, true, true, true, true, false, false] = [6] := by kernel_rfl
theorem tk_ready6 : Region.ready .any (rOps (tkN 1)) #[true, true, true, true, true, true, true, false] = [7] := by kernel_rfl
theorem tk_ready7 : Region.ready .any (rOps (tkN 1)) #[true, true, true, true, true, true, true, true] = [] := by kernel_rfl
end Go.Ev.Z
/- The window takes a part: the region in which a part is put behind those that wait. -/
set_option linter.unusedVariables false
set_option linter.unusedSimpArgs false
namespace Go.Ev.Z
open Go.Proofs Go.Conc
@[reducible] def tkT5 : List (Nat × Sh) := [(2, .ptr 2 gWin), (4, .ptr 4 gWin), (5, .tip 77), (6, .val (.int .i64)), (9, .tip 1009), (66, .val (.sl gPart)), (67, .val (.int .i64)), (68, .val (.int .i64))]
@[reducible] def tkU5 : List (Nat × Sh) := [(2, .ptr 2 gWin), (4, .ptr 4 gWin), (5, .tip 77), (6, .val (.int .i64)), (9, .tip 1009), (66, .val (.sl gPart)), (67, .val (.int .i64)), (68, .val (.int .i64)), (13, .ptr 13 gPart)]
@[reducible] def tkT77 : List (Nat × Sh) := [(2, .ptr 2 gWin), (4, .ptr 4 gWin), (77, .tip 77), (6, .val (.int .i64)), (9, .tip 1009), (66, .val (.sl gPart)), (67, .val (.int .i64)), (68, .val (.int .i64))]
@[reducible] def tkU77 : List (Nat × Sh) := [(2, .ptr 2 gWin), (4, .ptr 4 gWin), (77, .tip 77), (6, .val (.int .i64)), (9, .tip 1009), (66, .val (.sl gPart)), (67, .val (.int .i64)), (68, .val (.int .i64)), (13, .ptr 13 gPart)]
@[reducible] def tkMT : List (Nat × BSh) := [(2, .var gWin), (4, .var gWin), (77, .row 52 gPart false), (1009, .row 52 gPart false)]
@[reducible] def tkMU : List (Nat × BSh) := [(2, .var gWin), (4, .var gWin), (77, .row 52 gPart false), (1009, .row 52 gPart false), (13, .var gPart)]
abbrev TkU := (Int × List DPart × Int × Int × Unit) × (DWin × DWin × List DPart × List DPart × DPart × Unit)
noncomputable def tkS5 (y : TkU) : Nat → St
  | 0 => mkS tkU5 tkMU y
  | 1 => (mkS tkU5 tkMU y).after (rOp (tkN 1) 2) ⟨.val gPart y.2.2.2.2.2.1, [], none⟩
  | 2 => ((mkS tkU5 tkMU y).after (rOp (tkN 1) 2) ⟨.val gPart y.2.2.2.2.2.1, [], none⟩).after (rOp (tkN 1) 3) ⟨.val gPart y.2.2.2.2.2.1, [], some (y.2.2.2.2.2.1.2.2.2.2.length ≤ 100000)⟩
  | _ => (((mkS tkU5 tkMU y).after (rOp (tkN 1) 2) ⟨.val gPart y.2.2.2.2.2.1, [], none⟩).after (rOp (tkN 1) 3) ⟨.val gPart y.2.2.2.2.2.1, [], some (y.2.2.2.2.2.1.2.2.2.2.length ≤ 100000)⟩).after (rOp (tkN 1) 4) ⟨.tip 76, [(76, true, .row 52 gPart [y.2.2.2.2.2.1] false)], none⟩
def tkSl5 (k : Nat) (v : Value) : Nat → List (Nat × Value)
  | 0 => [(8, .pointer (some ⟨k, 0, none⟩)), (5, v)]
  | 1 => [(72, .pointer (some ⟨k, 1, none⟩)), (8, .pointer (some ⟨k, 0, none⟩)), (5, v)]
  | _ => [(73, v), (72, .pointer (some ⟨k, 1, none⟩)), (8, .pointer (some ⟨k, 0, none⟩)), (5, v)]
theorem tk_op2_5 (y : TkU) : opEff tys (fun f => lk f ownG) (((rOp (tkN 1) 2).dst).getD 0) (rOp (tkN 1) 2) ((tkS5 y 0).args (rOp (tkN 1) 2)) = some ⟨.val gPart y.2.2.2.2.2.1, [], none⟩ := by kernel_rfl
theorem tk_op3_5 (y : TkU) : opEff tys (fun f => lk f ownG) (((rOp (tkN 1) 3).dst).getD 0) (rOp (tkN 1) 3) ((tkS5 y 1).args (rOp (tkN 1) 3)) = some ⟨.val gPart y.2.2.2.2.2.1, [], some (y.2.2.2.2.2.1.2.2.2.2.length ≤ 100000)⟩ := by kernel_rfl
theorem tk_op4_5 (y : TkU) : opEff tys (fun f => lk f ownG) (((rOp (tkN 1) 4).dst).getD 0) (rOp (tkN 1) 4) ((tkS5 y 2).args (rOp (tkN 1) 4)) = some ⟨.tip 76, [(76, true, .row 52 gPart [y.2.2.2.2.2.1] false)], none⟩ := by kernel_rfl
theorem tk_op5_5 (y : TkU) : opEff tys (fun f => lk f ownG) (((rOp (tkN 1) 5).dst).getD 0) (rOp (tkN 1) 5) (((tkS5 y 3).put 73 (.tip 77)).args (rOp (tkN 1) 5)) = some ⟨.tip 77, [(77, true, .row 52 gPart (y.2.2.2.1 ++ [y.2.2.2.2.2.1]) false)], some ((y.2.2.2.1.length + [y.2.2.2.2.2.1].length) * 64 ≤ maxRow)⟩ := by kernel_rfl
theorem tk_look73_5 (y : TkU) : (tkS5 y 3).look 5 = .tip 77 := by kernel_rfl
theorem tk_undef72_5 (y : TkU) : ∀ c, c ≤ 3 → (tkS5 y c).look 72 = .undef ∧ (tkS5 y c).look 73 = .undef
  | 0, _ | 1, _ | 2, _ | 3, _ => ⟨by kernel_rfl, by kernel_rfl⟩
  | c + 4, h => by omega
theorem tk_end_5 (y : TkU) : restrict { prom := [], keep := tkT77.map (·.1), boxes := tkMT.map (·.1), sum := fun _ => .stuck } (((tkS5 y 3).put 73 (.tip 77)).after (rOp (tkN 1) 5) ⟨.tip 77, [(77, true, .row 52 gPart (y.2.2.2.1 ++ [y.2.2.2.2.2.1]) false)], some ((y.2.2.2.1.length + [y.2.2.2.2.2.1].length) * 64 ≤ maxRow)⟩) = some (mkS tkT77 tkMT (y.1, (y.2.1, y.2.2.1, y.2.2.2.1 ++ [y.2.2.2.2.2.1], y.2.2.2.2.1, ()))) := by kernel_rfl
attribute [local irreducible] fnOf bodyOf
inductive TkPhi5 (R0 : Ref) (k e : Nat) (nn : Int) (v : Value) (y : TkU) : Array Bool → Act → World → Prop
  | mid (i c : Nat) (a : Act) (w : World) (hi : i ≤ 2) (hc : c ≤ 3) (h : Kv R0 k #[.int .i64 nn, v] e 92 (tkSl5 k v i) (tkS5 y c) a w) : TkPhi5 R0 k e nn v y (tkA i c) a w
  | five (a : Act) (w : World) (h : Kv R0 k #[.int .i64 nn, v] e 92 [(8, .pointer (some ⟨k, 0, none⟩))] (mkS tkT77 tkMT (y.1, (y.2.1, y.2.2.1, y.2.2.2.1 ++ [y.2.2.2.2.2.1], y.2.2.2.2.1, ()))) a w) : TkPhi5 R0 k e nn v y #[true, true, true, true, true, true, false, false] a w
  | six (a : Act) (w : World) (h : Kv R0 k #[.int .i64 nn, v] e 92 [(78, .pointer (some ⟨k, 1, none⟩)), (8, .pointer (some ⟨k, 0, none⟩))] (mkS tkT77 tkMT (y.1, (y.2.1, y.2.2.1, y.2.2.2.1 ++ [y.2.2.2.2.2.1], y.2.2.2.2.1, ()))) a w) : TkPhi5 R0 k e nn v y #[true, true, true, true, true, true, true, false] a w
  | seven (a : Act) (w : World) (v' : Value) (h : Kv R0 k #[.int .i64 nn, v'] e 92 [(8, .pointer (some ⟨k, 0, none⟩)), (77, v')] (mkS tkT77 tkMT (y.1, (y.2.1, y.2.2.1, y.2.2.2.1 ++ [y.2.2.2.2.2.1], y.2.2.2.2.1, ()))) a w) : TkPhi5 R0 k e nn v y #[true, true, true, true, true, true, true, true] a w
theorem tk_any_5 {R0 : Ref} {b : Frame} {Q : Exit → Act → World → Prop} {k e : Nat} {nn : Int} {v : Value} {y : TkU} {a : Act} {w : World} (h : Kv R0 k #[.int .i64 nn, v] e 92 [(8, .pointer (some ⟨k, 0, none⟩)), (5, v)] (mkS tkU5 tkMU y) a w) (hx : y.2.2.2.2.2.1.2.2.2.2.length ≤ 100000) (ho : y.2.2.2.1.length ≤ 100000)
    (hQ : ∀ a' w' v', Kv R0 k #[.int .i64 nn, v'] e 92 [(8, .pointer (some ⟨k, 0, none⟩)), (77, v')] (mkS tkT77 tkMT (y.1, (y.2.1, y.2.2.1, y.2.2.2.1 ++ [y.2.2.2.2.2.1], y.2.2.2.2.1, ()))) a' w' → Q .normal a' w') : CodeTo Tryz.prog b (tkN 1) Q a w := by
  have hG : CtrsOK Tryz.prog (fun f => lk f ownG) := ctrs_cons own_ok ctrs_nil
  rw [tk_n1]
  refine CodeTo.of_wp (region_any mixed (TkPhi5 R0 k e nn v y) ?_ ?_ ?_)
  · have e : Array.replicate (rOps (tkN 1)).size false = tkA 0 0 := by kernel_rfl
    rw [e]
    exact TkPhi5.mid 0 0 a w.drew (by omega) (by omega) h.drew
  · intro listed a w i o hs hΦ hr ho'
    cases hΦ with
    | mid i' c a w hi hc h =>
      rw [tk_ready i' c hi hc] at hr
      have hcase : (i' < 2 ∧ i = i') ∨ (c < 3 ∧ i = 2 + c) ∨ (i' = 2 ∧ c = 3 ∧ i = 5) := by
        unfold tkR at hr
        simp only [List.mem_append] at hr
        rcases hr with (hr | hr) | hr
        · by_cases hh : i' < 2
          · rw [if_pos hh] at hr; exact .inl ⟨hh, by simpa using hr⟩
          · rw [if_neg hh] at hr; cases hr
        · by_cases hh : c < 3
          · rw [if_pos hh] at hr; exact .inr (.inl ⟨hh, by simpa using hr⟩)
          · rw [if_neg hh] at hr; cases hr
        · by_cases hh : i' = 2 ∧ c = 3
          · rw [if_pos hh] at hr; exact .inr (.inr ⟨hh.1, hh.2, by simpa using hr⟩)
          · rw [if_neg hh] at hr; cases hr
      have hu := tk_undef72_5 y c hc
      rcases hcase with ⟨h1, rfl⟩ | ⟨h1, rfl⟩ | ⟨rfl, rfl, rfl⟩
      · match i, h1 with
        | 0, _ =>
          have : o = rOp (tkN 1) 0 := Option.some.inj (ho'.symm.trans (show (rOps (tkN 1))[0]? = some (rOp (tkN 1) 0) by kernel_rfl))
          subst this
          refine ⟨by kernel_rfl, op_value (field_op_run (τ := tys) (k := k) (off := 0) (T := 31) (kk := 1) (x := .tmp 8) (ti := ⟨gWin, 2, _, _⟩) (g := .sl gPart) tysOK rfl (by kernel_rfl) (by kernel_rfl) (by kernel_rfl) (h.slots (8, .pointer (some ⟨k, 0, none⟩)) (by simp [tkSl5]))) ?_⟩
          rw [show (rOp (tkN 1) 0).dst = some 72 by kernel_rfl, show 0 + offs gWin (fieldPath 2 1) = 1 by kernel_rfl]
          have := h.keep (k := 72) (v := .pointer (some ⟨k, 1, none⟩)) hu.1 (by omega) (by simp [tkSl5])
          have e : (tkA 0 c).setIfInBounds 0 true = tkA 1 c := rfl
          rw [e]
          exact TkPhi5.mid 1 c _ _ (by omega) hc this
        | 1, _ =>
          have : o = rOp (tkN 1) 1 := Option.some.inj (ho'.symm.trans (show (rOps (tkN 1))[1]? = some (rOp (tkN 1) 1) by kernel_rfl))
          subst this
          refine ⟨by kernel_rfl, op_value (Kv.load_run (τ := tys) (T := 29) (off := 1) (x := .tmp 72) (ti := ⟨.sl gPart, _, _, _⟩) (v := v) h (tysOK _ _ rfl) rfl (by kernel_rfl) (h.slots (72, .pointer (some ⟨k, 1, none⟩)) (by simp [tkSl5])) rfl) ?_⟩
          rw [show (rOp (tkN 1) 1).dst = some 73 by kernel_rfl]
          have := h.keep (k := 73) (v := v) hu.2 (by omega) (by simp [tkSl5])
          have e : (tkA 1 c).setIfInBounds 1 true = tkA 2 c := rfl
          rw [e]
          exact TkPhi5.mid 2 c _ _ (by omega) hc this
        | i + 2, h1 => omega
      · have hfar : ∀ d, (d = 74 ∨ d = 75 ∨ d = 76) → ∀ p ∈ tkSl5 k v i', p.1 ≠ d := by
          intro d hd p hp
          match i', hi, hp with
          | 0, _, hp => simp [tkSl5] at hp; rcases hp with rfl | rfl <;> (simp only; omega)
          | 1, _, hp => simp [tkSl5] at hp; rcases hp with rfl | rfl | rfl <;> (simp only; omega)
          | 2, _, hp => simp [tkSl5] at hp; rcases hp with rfl | rfl | rfl | rfl <;> (simp only; omega)
          | i + 3, hi, _ => omega
        match c, h1 with
        | 0, _ =>
          have : o = rOp (tkN 1) 2 := Option.some.inj (ho'.symm.trans (show (rOps (tkN 1))[2]? = some (rOp (tkN 1) 2) by kernel_rfl))
          subst this
          refine ⟨by kernel_rfl, Kd.opw (C := mkC tys ownG []) tysOK hG h (tk_op2_5 y) (fun p hp => by cases hp) (fun d hd => by rw [show (rOp (tkN 1) 2).dst = some 74 by kernel_rfl] at hd; cases hd; exact ⟨show (74 : Nat) < 92 by decide, hfar 74 (by simp)⟩) fun a' w' h' => ?_⟩
          have e : (tkA i' 0).setIfInBounds (2 + 0) true = tkA i' 1 := rfl
          rw [e]
          exact TkPhi5.mid i' 1 _ _ hi (by omega) h'
        | 1, _ =>
          have : o = rOp (tkN 1) 3 := Option.some.inj (ho'.symm.trans (show (rOps (tkN 1))[3]? = some (rOp (tkN 1) 3) by kernel_rfl))
          subst this
          refine ⟨by kernel_rfl, Kd.opw (C := mkC tys ownG []) tysOK hG h (tk_op3_5 y) (fun p hp => by cases hp; exact hx) (fun d hd => by rw [show (rOp (tkN 1) 3).dst = some 75 by kernel_rfl] at hd; cases hd; exact ⟨show (75 : Nat) < 92 by decide, hfar 75 (by simp)⟩) fun a' w' h' => ?_⟩
          have e : (tkA i' 1).setIfInBounds (2 + 1) true = tkA i' 2 := rfl
          rw [e]
          exact TkPhi5.mid i' 2 _ _ hi (by omega) h'
        | 2, _ =>
          have : o = rOp (tkN 1) 4 := Option.some.inj (ho'.symm.trans (show (rOps (tkN 1))[4]? = some (rOp (tkN 1) 4) by kernel_rfl))
          subst this
          refine ⟨by kernel_rfl, Kd.opw (C := mkC tys ownG []) tysOK hG h (tk_op4_5 y) (fun p hp => by cases hp) (fun d hd => by rw [show (rOp (tkN 1) 4).dst = some 76 by kernel_rfl] at hd; cases hd; exact ⟨show (76 : Nat) < 92 by decide, hfar 76 (by simp)⟩) fun a' w' h' => ?_⟩
          have e : (tkA i' 2).setIfInBounds (2 + 2) true = tkA i' 3 := rfl
          rw [e]
          exact TkPhi5.mid i' 3 _ _ hi (by omega) h'
        | c + 3, h1 => omega
      · have : o = rOp (tkN 1) 5 := Option.some.inj (ho'.symm.trans (show (rOps (tkN 1))[5]? = some (rOp (tkN 1) 5) by kernel_rfl))
        subst this
        have h5 := h.same (d := 73) (t := 5) ((h.slots (73, v) (by simp [tkSl5])).trans (h.slots (5, v) (by simp [tkSl5])).symm)
        rw [tk_look73_5] at h5
        have h6 := h5.less (sl' := [(8, .pointer (some ⟨k, 0, none⟩))]) (fun p hp => by simp [tkSl5] at hp ⊢; simp [hp])
        refine ⟨by kernel_rfl, Kd.opw (C := mkC tys ownG []) tysOK hG h6 (tk_op5_5 y) (fun p hp => by cases hp; show (y.2.2.2.1.length + 1) * 64 ≤ maxRow; simp only [maxRow]; omega) (fun d hd => by rw [show (rOp (tkN 1) 5).dst = some 77 by kernel_rfl] at hd; cases hd; exact ⟨show (77 : Nat) < 92 by decide, by simp⟩) fun a' w' h' => ?_⟩
        exact TkPhi5.five _ _ (h'.restr (tk_end_5 y))
    | five a w h =>
      rw [tk_ready5] at hr
      have hi : i = 6 := by simpa using hr
      subst hi
      have : o = rOp (tkN 1) 6 := Option.some.inj (ho'.symm.trans (show (rOps (tkN 1))[6]? = some (rOp (tkN 1) 6) by kernel_rfl))
      subst this
      refine ⟨by kernel_rfl, op_value (field_op_run (τ := tys) (k := k) (off := 0) (T := 31) (kk := 1) (x := .tmp 8) (ti := ⟨gWin, 2, _, _⟩) (g := .sl gPart) tysOK rfl (by kernel_rfl) (by kernel_rfl) (by kernel_rfl) (h.slots (8, .pointer (some ⟨k, 0, none⟩)) (by simp))) ?_⟩
      rw [show (rOp (tkN 1) 6).dst = some 78 by kernel_rfl, show 0 + offs gWin (fieldPath 2 1) = 1 by kernel_rfl]
      exact TkPhi5.six _ _ (h.keep (k := 78) (v := .pointer (some ⟨k, 1, none⟩)) (by kernel_rfl) (by omega) (by simp))
    | six a w h =>
      rw [tk_ready6] at hr
      have hi : i = 7 := by simpa using hr
      subst hi
      have : o = rOp (tkN 1) 7 := Option.some.inj (ho'.symm.trans (show (rOps (tkN 1))[7]? = some (rOp (tkN 1) 7) by kernel_rfl))
      subst this
      obtain ⟨va, vm, vc, hv⟩ := h.tip_slice (t := 77) (c := 77) (e := 52) (d := false) (fz := false) (g := gPart) (xs := y.2.2.2.1 ++ [y.2.2.2.2.2.1]) (by kernel_rfl) (by kernel_rfl)
      have h2 := h.hold (t := 77)
      rw [hv] at h2
      generalize hvv : Value.slice va vm vc = v' at h2
      obtain ⟨r1, r2⟩ := Kv.store_run (τ := tys) (T := 29) (off := 1) (o := rOp (tkN 1) 7) (x := .tmp 78) (y := .tmp 77) (ti := ⟨.sl gPart, _, _, _⟩) (v := v') h2 (tysOK _ _ rfl) rfl (by kernel_rfl) (h2.slots (78, .pointer (some ⟨k, 1, none⟩)) (by simp)) (h2.slots (77, v') (by simp)) (by rw [← hvv]; rfl) (by rw [← hvv]; rfl) (by simp)
      refine ⟨by kernel_rfl, op_skip r1 ?_⟩
      rw [show (rOp (tkN 1) 7).dst = none by kernel_rfl]
      exact TkPhi5.seven _ _ v' (r2.less (fun p hp => by simp at hp ⊢; rcases hp with rfl | rfl <;> simp))
    | seven a w v' h =>
      rw [tk_ready7] at hr
      cases hr
  · intro listed a w hs hΦ hr
    cases hΦ with
    | mid i c a w hi hc h =>
      rw [tk_ready i c hi hc] at hr
      exfalso
      unfold tkR at hr
      by_cases h1 : i < 2
      · rw [if_pos h1] at hr; simp at hr
      · by_cases h2 : c < 3
        · rw [if_neg h1, if_pos h2] at hr; simp at hr
        · rw [if_neg h1, if_neg h2, if_pos ⟨by omega, by omega⟩] at hr; simp at hr
    | five a w h => rw [tk_ready5] at hr; cases hr
    | six a w h => rw [tk_ready6] at hr; cases hr
    | seven a w v' h => exact hQ a w v' h
noncomputable def tkS77 (y : TkU) : Nat → St
  | 0 => mkS tkU77 tkMU y
  | 1 => (mkS tkU77 tkMU y).after (rOp (tkN 1) 2) ⟨.val gPart y.2.2.2.2.2.1, [], none⟩
  | 2 => ((mkS tkU77 tkMU y).after (rOp (tkN 1) 2) ⟨.val gPart y.2.2.2.2.2.1, [], none⟩).after (rOp (tkN 1) 3) ⟨.val gPart y.2.2.2.2.2.1, [], some (y.2.2.2.2.2.1.2.2.2.2.length ≤ 100000)⟩
  | _ => (((mkS tkU77 tkMU y).after (rOp (tkN 1) 2) ⟨.val gPart y.2.2.2.2.2.1, [], none⟩).after (rOp (tkN 1) 3) ⟨.val gPart y.2.2.2.2.2.1, [], some (y.2.2.2.2.2.1.2.2.2.2.length ≤ 100000)⟩).after (rOp (tkN 1) 4) ⟨.tip 76, [(76, true, .row 52 gPart [y.2.2.2.2.2.1] false)], none⟩
def tkSl77 (k : Nat) (v : Value) : Nat → List (Nat × Value)
  | 0 => [(8, .pointer (some ⟨k, 0, none⟩)), (77, v)]
  | 1 => [(72, .pointer (some ⟨k, 1, none⟩)), (8, .pointer (some ⟨k, 0, none⟩)), (77, v)]
  | _ => [(73, v), (72, .pointer (some ⟨k, 1, none⟩)), (8, .pointer (some ⟨k, 0, none⟩)), (77, v)]
theorem tk_op2_77 (y : TkU) : opEff tys (fun f => lk f ownG) (((rOp (tkN 1) 2).dst).getD 0) (rOp (tkN 1) 2) ((tkS77 y 0).args (rOp (tkN 1) 2)) = some ⟨.val gPart y.2.2.2.2.2.1, [], none⟩ := by kernel_rfl
theorem tk_op3_77 (y : TkU) : opEff tys (fun f => lk f ownG) (((rOp (tkN 1) 3).dst).getD 0) (rOp (tkN 1) 3) ((tkS77 y 1).args (rOp (tkN 1) 3)) = some ⟨.val gPart y.2.2.2.2.2.1, [], some (y.2.2.2.2.2.1.2.2.2.2.length ≤ 100000)⟩ := by kernel_rfl
theorem tk_op4_77 (y : TkU) : opEff tys (fun f => lk f ownG) (((rOp (tkN 1) 4).dst).getD 0) (rOp (tkN 1) 4) ((tkS77 y 2).args (rOp (tkN 1) 4)) = some ⟨.tip 76, [(76, true, .row 52 gPart [y.2.2.2.2.2.1] false)], none⟩ := by kernel_rfl
theorem tk_op5_77 (y : TkU) : opEff tys (fun f => lk f ownG) (((rOp (tkN 1) 5).dst).getD 0) (rOp (tkN 1) 5) (((tkS77 y 3).put 73 (.tip 77)).args (rOp (tkN 1) 5)) = some ⟨.tip 77, [(77, true, .row 52 gPart (y.2.2.2.1 ++ [y.2.2.2.2.2.1]) false)], some ((y.2.2.2.1.length + [y.2.2.2.2.2.1].length) * 64 ≤ maxRow)⟩ := by kernel_rfl
theorem tk_look73_77 (y : TkU) : (tkS77 y 3).look 77 = .tip 77 := by kernel_rfl
theorem tk_undef72_77 (y : TkU) : ∀ c, c ≤ 3 → (tkS77 y c).look 72 = .undef ∧ (tkS77 y c).look 73 = .undef
  | 0, _ | 1, _ | 2, _ | 3, _ => ⟨by kernel_rfl, by kernel_rfl⟩
  | c + 4, h => by omega
theorem tk_end_77 (y : TkU) : restrict { prom := [], keep := tkT77.map (·.1), boxes := tkMT.map (·.1), sum := fun _ => .stuck } (((tkS77 y 3).put 73 (.tip 77)).after (rOp (tkN 1) 5) ⟨.tip 77, [(77, true, .row 52 gPart (y.2.2.2.1 ++ [y.2.2.2.2.2.1]) false)], some ((y.2.2.2.1.length + [y.2.2.2.2.2.1].length) * 64 ≤ maxRow)⟩) = some (mkS tkT77 tkMT (y.1, (y.2.1, y.2.2.1, y.2.2.2.1 ++ [y.2.2.2.2.2.1], y.2.2.2.2.1, ()))) := by kernel_rfl
inductive TkPhi77 (R0 : Ref) (k e : Nat) (nn : Int) (v : Value) (y : TkU) : Array Bool → Act → World → Prop
  | mid (i c : Nat) (a : Act) (w : World) (hi : i ≤ 2) (hc : c ≤ 3) (h : Kv R0 k #[.int .i64 nn, v] e 92 (tkSl77 k v i) (tkS77 y c) a w) : TkPhi77 R0 k e nn v y (tkA i c) a w
  | five (a : Act) (w : World) (h : Kv R0 k #[.int .i64 nn, v] e 92 [(8, .pointer (some ⟨k, 0, none⟩))] (mkS tkT77 tkMT (y.1, (y.2.1, y.2.2.1, y.2.2.2.1 ++ [y.2.2.2.2.2.1], y.2.2.2.2.1, ()))) a w) : TkPhi77 R0 k e nn v y #[true, true, true, true, true, true, false, false] a w
  | six (a : Act) (w : World) (h : Kv R0 k #[.int .i64 nn, v] e 92 [(78, .pointer (some ⟨k, 1, none⟩)), (8, .pointer (some ⟨k, 0, none⟩))] (mkS tkT77 tkMT (y.1, (y.2.1, y.2.2.1, y.2.2.2.1 ++ [y.2.2.2.2.2.1], y.2.2.2.2.1, ()))) a w) : TkPhi77 R0 k e nn v y #[true, true, true, true, true, true, true, false] a w
  | seven (a : Act) (w : World) (v' : Value) (h : Kv R0 k #[.int .i64 nn, v'] e 92 [(8, .pointer (some ⟨k, 0, none⟩)), (77, v')] (mkS tkT77 tkMT (y.1, (y.2.1, y.2.2.1, y.2.2.2.1 ++ [y.2.2.2.2.2.1], y.2.2.2.2.1, ()))) a w) : TkPhi77 R0 k e nn v y #[true, true, true, true, true, true, true, true] a w
theorem tk_any_77 {R0 : Ref} {b : Frame} {Q : Exit → Act → World → Prop} {k e : Nat} {nn : Int} {v : Value} {y : TkU} {a : Act} {w : World} (h : Kv R0 k #[.int .i64 nn, v] e 92 [(8, .pointer (some ⟨k, 0, none⟩)), (77, v)] (mkS tkU77 tkMU y) a w) (hx : y.2.2.2.2.2.1.2.2.2.2.length ≤ 100000) (ho : y.2.2.2.1.length ≤ 100000)
    (hQ : ∀ a' w' v', Kv R0 k #[.int .i64 nn, v'] e 92 [(8, .pointer (some ⟨k, 0, none⟩)), (77, v')] (mkS tkT77 tkMT (y.1, (y.2.1, y.2.2.1, y.2.2.2.1 ++ [y.2.2.2.2.2.1], y.2.2.2.2.1, ()))) a' w' → Q .normal a' w') : CodeTo Tryz.prog b (tkN 1) Q a w := by
  have hG : CtrsOK Tryz.prog (fun f => lk f ownG) := ctrs_cons own_ok ctrs_nil
  rw [tk_n1]
  refine CodeTo.of_wp (region_any mixed (TkPhi77 R0 k e nn v y) ?_ ?_ ?_)
  · have e : Array.replicate (rOps (tkN 1)).size false = tkA 0 0 := by kernel_rfl
    rw [e]
    exact TkPhi77.mid 0 0 a w.drew (by omega) (by omega) h.drew
  · intro listed a w i o hs hΦ hr ho'
    cases hΦ with
    | mid i' c a w hi hc h =>
      rw [tk_ready i' c hi hc] at hr
      have hcase : (i' < 2 ∧ i = i') ∨ (c < 3 ∧ i = 2 + c) ∨ (i' = 2 ∧ c = 3 ∧ i = 5) := by
        unfold tkR at hr
        simp only [List.mem_append] at hr
        rcases hr with (hr | hr) | hr
        · by_cases hh : i' < 2
          · rw [if_pos hh] at hr; exact .inl ⟨hh, by simpa using hr⟩
          · rw [if_neg hh] at hr; cases hr
        · by_cases hh : c < 3
          · rw [if_pos hh] at hr; exact .inr (.inl ⟨hh, by simpa using hr⟩)
          · rw [if_neg hh] at hr; cases hr
        · by_cases hh : i' = 2 ∧ c = 3
          · rw [if_pos hh] at hr; exact .inr (.inr ⟨hh.1, hh.2, by simpa using hr⟩)
          · rw [if_neg hh] at hr; cases hr
      have hu := tk_undef72_77 y c hc
      rcases hcase with ⟨h1, rfl⟩ | ⟨h1, rfl⟩ | ⟨rfl, rfl, rfl⟩
      · match i, h1 with
        | 0, _ =>
          have : o = rOp (tkN 1) 0 := Option.some.inj (ho'.symm.trans (show (rOps (tkN 1))[0]? = some (rOp (tkN 1) 0) by kernel_rfl))
          subst this
          refine ⟨by kernel_rfl, op_value (field_op_run (τ := tys) (k := k) (off := 0) (T := 31) (kk := 1) (x := .tmp 8) (ti := ⟨gWin, 2, _, _⟩) (g := .sl gPart) tysOK rfl (by kernel_rfl) (by kernel_rfl) (by kernel_rfl) (h.slots (8, .pointer (some ⟨k, 0, none⟩)) (by simp [tkSl77]))) ?_⟩
          rw [show (rOp (tkN 1) 0).dst = some 72 by kernel_rfl, show 0 + offs gWin (fieldPath 2 1) = 1 by kernel_rfl]
          have := h.keep (k := 72) (v := .pointer (some ⟨k, 1, none⟩)) hu.1 (by omega) (by simp [tkSl77])
          have e : (tkA 0 c).setIfInBounds 0 true = tkA 1 c := rfl
          rw [e]
          exact TkPhi77.mid 1 c _ _ (by omega) hc this
        | 1, _ =>
          have : o = rOp (tkN 1) 1 := Option.some.inj (ho'.symm.trans (show (rOps (tkN 1))[1]? = some (rOp (tkN 1) 1) by kernel_rfl))
          subst this
          refine ⟨by kernel_rfl, op_value (Kv.load_run (τ := tys) (T := 29) (off := 1) (x := .tmp 72) (ti := ⟨.sl gPart, _, _, _⟩) (v := v) h (tysOK _ _ rfl) rfl (by kernel_rfl) (h.slots (72, .pointer (some ⟨k, 1, none⟩)) (by simp [tkSl77])) rfl) ?_⟩
          rw [show (rOp (tkN 1) 1).dst = some 73 by kernel_rfl]
          have := h.keep (k := 73) (v := v) hu.2 (by omega) (by simp [tkSl77])
          have e : (tkA 1 c).setIfInBounds 1 true = tkA 2 c := rfl
          rw [e]
          exact TkPhi77.mid 2 c _ _ (by omega) hc this
        | i + 2, h1 => omega
      · have hfar : ∀ d, (d = 74 ∨ d = 75 ∨ d = 76) → ∀ p ∈ tkSl77 k v i', p.1 ≠ d := by
          intro d hd p hp
          match i', hi, hp with
          | 0, _, hp => simp [tkSl77] at hp; rcases hp with rfl | rfl <;> (simp only; omega)
          | 1, _, hp => simp [tkSl77] at hp; rcases hp with rfl | rfl | rfl <;> (simp only; omega)
          | 2, _, hp => simp [tkSl77] at hp; rcases hp with rfl | rfl | rfl | rfl <;> (simp only; omega)
          | i + 3, hi, _ => omega
        match c, h1 with
        | 0, _ =>
          have : o = rOp (tkN 1) 2 := Option.some.inj (ho'.symm.trans (show (rOps (tkN 1))[2]? = some (rOp (tkN 1) 2) by kernel_rfl))
          subst this
          refine ⟨by kernel_rfl, Kd.opw (C := mkC tys ownG []) tysOK hG h (tk_op2_77 y) (fun p hp => by cases hp) (fun d hd => by rw [show (rOp (tkN 1) 2).dst = some 74 by kernel_rfl] at hd; cases hd; exact ⟨show (74 : Nat) < 92 by decide, hfar 74 (by simp)⟩) fun a' w' h' => ?_⟩
          have e : (tkA i' 0).setIfInBounds (2 + 0) true = tkA i' 1 := rfl
          rw [e]
          exact TkPhi77.mid i' 1 _ _ hi (by omega) h'
        | 1, _ =>
          have : o = rOp (tkN 1) 3 := Option.some.inj (ho'.symm.trans (show (rOps (tkN 1))[3]? = some (rOp (tkN 1) 3) by kernel_rfl))
          subst this
          refine ⟨by kernel_rfl, Kd.opw (C := mkC tys ownG []) tysOK hG h (tk_op3_77 y) (fun p hp => by cases hp; exact hx) (fun d hd => by rw [show (rOp (tkN 1) 3).dst = some 75 by kernel_rfl] at hd; cases hd; exact ⟨show (75 : Nat) < 92 by decide, hfar 75 (by simp)⟩) fun a' w' h' => ?_⟩
          have e : (tkA i' 1).setIfInBounds (2 + 1) true = tkA i' 2 := rfl
          rw [e]
          exact TkPhi77.mid i' 2 _ _ hi (by omega) h'
        | 2, _ =>
          have : o = rOp (tkN 1) 4 := Option.some.inj (ho'.symm.trans (show (rOps (tkN 1))[4]? = some (rOp (tkN 1) 4) by kernel_rfl))
          subst this
          refine ⟨by kernel_rfl, Kd.opw (C := mkC tys ownG []) tysOK hG h (tk_op4_77 y) (fun p hp => by cases hp) (fun d hd => by rw [show (rOp (tkN 1) 4).dst = some 76 by kernel_rfl] at hd; cases hd; exact ⟨show (76 : Nat) < 92 by decide, hfar 76 (by simp)⟩) fun a' w' h' => ?_⟩
          have e : (tkA i' 2).setIfInBounds (2 + 2) true = tkA i' 3 := rfl
          rw [e]
          exact TkPhi77.mid i' 3 _ _ hi (by omega) h'
        | c + 3, h1 => omega
      · have : o = rOp (tkN 1) 5 := Option.some.inj (ho'.symm.trans (show (rOps (tkN 1))[5]? = some (rOp (tkN 1) 5) by kernel_rfl))
        subst this
        have h5 := h.same (d := 73) (t := 77) ((h.slots (73, v) (by simp [tkSl77])).trans (h.slots (77, v) (by simp [tkSl77])).symm)
        rw [tk_look73_77] at h5
        have h6 := h5.less (sl' := [(8, .pointer (some ⟨k, 0, none⟩))]) (fun p hp => by simp [tkSl77] at hp ⊢; simp [hp])
        refine ⟨by kernel_rfl, Kd.opw (C := mkC tys ownG []) tysOK hG h6 (tk_op5_77 y) (fun p hp => by cases hp; show (y.2.2.2.1.length + 1) * 64 ≤ maxRow; simp only [maxRow]; omega) (fun d hd => by rw [show (rOp (tkN 1) 5).dst = some 77 by kernel_rfl] at hd; cases hd; exact ⟨show (77 : Nat) < 92 by decide, by simp⟩) fun a' w' h' => ?_⟩
        exact TkPhi77.five _ _ (h'.restr (tk_end_77 y))
    | five a w h =>
      rw [tk_ready5] at hr
      have hi : i = 6 := by simpa using hr
      subst hi
      have : o = rOp (tkN 1) 6 := Option.some.inj (ho'.symm.trans (show (rOps (tkN 1))[6]? = some (rOp (tkN 1) 6) by kernel_rfl))
      subst this
      refine ⟨by kernel_rfl, op_value (field_op_run (τ := tys) (k := k) (off := 0) (T := 31) (kk := 1) (x := .tmp 8) (ti := ⟨gWin, 2, _, _⟩) (g := .sl gPart) tysOK rfl (by kernel_rfl) (by kernel_rfl) (by kernel_rfl) (h.slots (8, .pointer (some ⟨k, 0, none⟩)) (by simp))) ?_⟩
      rw [show (rOp (tkN 1) 6).dst = some 78 by kernel_rfl, show 0 + offs gWin (fieldPath 2 1) = 1 by kernel_rfl]
      exact TkPhi77.six _ _ (h.keep (k := 78) (v := .pointer (some ⟨k, 1, none⟩)) (by kernel_rfl) (by omega) (by simp))
    | six a w h =>
      rw [tk_ready6] at hr
      have hi : i = 7 := by simpa using hr
      subst hi
      have : o = rOp (tkN 1) 7 := Option.some.inj (ho'.symm.trans (show (rOps (tkN 1))[7]? = some (rOp (tkN 1) 7) by kernel_rfl))
      subst this
      obtain ⟨va, vm, vc, hv⟩ := h.tip_slice (t := 77) (c := 77) (e := 52) (d := false) (fz := false) (g := gPart) (xs := y.2.2.2.1 ++ [y.2.2.2.2.2.1]) (by kernel_rfl) (by kernel_rfl)
      have h2 := h.hold (t := 77)
      rw [hv] at h2
      generalize hvv : Value.slice va vm vc = v' at h2
      obtain ⟨r1, r2⟩ := Kv.store_run (τ := tys) (T := 29) (off := 1) (o := rOp (tkN 1) 7) (x := .tmp 78) (y := .tmp 77) (ti := ⟨.sl gPart, _, _, _⟩) (v := v') h2 (tysOK _ _ rfl) rfl (by kernel_rfl) (h2.slots (78, .pointer (some ⟨k, 1, none⟩)) (by simp)) (h2.slots (77, v') (by simp)) (by rw [← hvv]; rfl) (by rw [← hvv]; rfl) (by simp)
      refine ⟨by kernel_rfl, op_skip r1 ?_⟩
      rw [show (rOp (tkN 1) 7).dst = none by kernel_rfl]
      exact TkPhi77.seven _ _ v' (r2.less (fun p hp => by simp at hp ⊢; rcases hp with rfl | rfl <;> simp))
    | seven a w v' h =>
      rw [tk_ready7] at hr
      cases hr
  · intro listed a w hs hΦ hr
    cases hΦ with
    | mid i c a w hi hc h =>
      rw [tk_ready i c hi hc] at hr
      exfalso
      unfold tkR at hr
      by_cases h1 : i < 2
      · rw [if_pos h1] at hr; simp at hr
      · by_cases h2 : c < 3
        · rw [if_neg h1, if_pos h2] at hr; simp at hr
        · rw [if_neg h1, if_neg h2, if_pos ⟨by omega, by omega⟩] at hr; simp at hr
    | five a w h => rw [tk_ready5] at hr; cases hr
    | six a w h => rw [tk_ready6] at hr; cases hr
    | seven a w v' h => exact hQ a w v' h
end Go.Ev.Z
/- The window takes a part: its loops. -/
set_option linter.unusedVariables false
set_option linter.unusedSimpArgs false
namespace Go.Ev.Z
open Go.Proofs Go.Conc
@[reducible] def tkO : List (Nat × Sh) := [(2, .ptr 2 gWin), (4, .ptr 4 gWin), (5, .nil), (6, .val (.int .i64)), (7, .val (.sl gPart)), (9, .tip 1009), (52, .val (.sl gPart)), (53, .val (.int .i64)), (54, .val (.int .i64))]
@[reducible] def tkOn : List (Nat × Sh) := [(2, .ptr 2 gWin), (4, .ptr 4 gWin), (5, .nil), (6, .val (.int .i64)), (7, .val (.sl gPart)), (9, .nil), (52, .val (.sl gPart)), (53, .val (.int .i64)), (54, .val (.int .i64))]
@[reducible] def tkOx (t : Nat) (g : GTy) : List (Nat × Sh) := [(2, .ptr 2 gWin), (4, .ptr 4 gWin), (5, .nil), (6, .val (.int .i64)), (7, .val (.sl gPart)), (9, .tip 1009), (52, .val (.sl gPart)), (53, .val (.int .i64)), (54, .val (.int .i64)), (t, .val g)]
@[reducible] def tkO1 : List (Nat × Sh) := [(2, .ptr 2 gWin), (4, .ptr 4 gWin), (5, .nil), (6, .val (.int .i64)), (7, .val (.sl gPart)), (9, .tip 1009), (52, .val (.sl gPart)), (53, .val (.int .i64)), (54, .val (.int .i64)), (10, .val (.int .i64)), (11, .ptr 11 gPart)]
@[reducible] def tkO2 (t : Nat) (g : GTy) : List (Nat × Sh) := [(2, .ptr 2 gWin), (4, .ptr 4 gWin), (5, .nil), (6, .val (.int .i64)), (7, .val (.sl gPart)), (9, .tip 1009), (52, .val (.sl gPart)), (53, .val (.int .i64)), (54, .val (.int .i64)), (10, .val (.int .i64)), (11, .ptr 11 gPart), (t, .val g)]
@[reducible] def tkO3 : List (Nat × Sh) := [(2, .ptr 2 gWin), (4, .ptr 4 gWin), (5, .nil), (6, .val (.int .i64)), (7, .val (.sl gPart)), (9, .tip 1009), (52, .val (.sl gPart)), (53, .val (.int .i64)), (54, .val (.int .i64)), (10, .val (.int .i64)), (11, .ptr 11 gPart), (60, .val (.int .i64)), (62, .val (.int .i64))]
@[reducible] def tkOM : List (Nat × BSh) := [(2, .var gWin), (4, .var gWin), (1009, .row 52 gPart false)]
@[reducible] def tkOM1 : List (Nat × BSh) := [(2, .var gWin), (4, .var gWin), (1009, .row 52 gPart false), (11, .var gPart)]
@[reducible] def tkMn : List (Nat × Sh) := [(2, .ptr 2 gWin), (4, .ptr 4 gWin), (5, .nil), (6, .val (.int .i64)), (9, .tip 1009), (66, .val (.sl gPart)), (67, .val (.int .i64)), (68, .val (.int .i64))]
@[reducible] def tkV5 : List (Nat × Sh) := [(2, .ptr 2 gWin), (4, .ptr 4 gWin), (5, .tip 77), (6, .val (.int .i64)), (9, .tip 1009), (66, .val (.sl gPart)), (67, .val (.int .i64)), (68, .val (.int .i64)), (69, .val .bool)]
@[reducible] def tkV77 : List (Nat × Sh) := [(2, .ptr 2 gWin), (4, .ptr 4 gWin), (77, .tip 77), (6, .val (.int .i64)), (9, .tip 1009), (66, .val (.sl gPart)), (67, .val (.int .i64)), (68, .val (.int .i64)), (69, .val .bool)]
@[reducible] def tkF : List (Nat × Sh) := [(2, .ptr 2 gWin), (4, .ptr 4 gWin), (6, .val (.int .i64)), (8, .ptr 8 gWin), (9, .tip 1009)]
@[reducible] def tkFM : List (Nat × BSh) := [(2, .var gWin), (4, .var gWin), (8, .var gWin), (1009, .row 52 gPart false)]
abbrev TkO := (Int × List DPart × List DPart × Int × Int × Unit) × (DWin × DWin × List DPart × Unit)
abbrev TkO1 := (Int × List DPart × List DPart × Int × Int × Int × Unit) × (DWin × DWin × List DPart × DPart × Unit)
abbrev TkT := (Int × List DPart × Int × Int × Unit) × (DWin × DWin × List DPart × List DPart × Unit)
theorem tk2_tree : (fun x : (Int × List DPart × Unit) × (DWin × DWin × Unit) => opsT (mkC tys [] []) [(2, .ptr 2 gWin), (4, .ptr 4 gWin), (5, .nil), (6, .val (.int .i64)), (7, .val (.sl gPart)), (50, .val (.int .i64))] tkM1 [rOp (tkC 2) 0, rOp (tkC 2) 1] (mkS tkT1 tkM1 x)) = (fun x => Tree.leaf (some ((x.1.1, x.1.2.1, x.2.1.1, ()), x.2.1, x.2.2.1, ()))) := by kernel_rfl
theorem tk3_tree : (fun x : (Int × List DPart × Unit) × (DWin × DWin × Unit) => pieceT (mkC tys wtakeG []) (fnOf Tryz.prog 61) [gWin, .sl gPart, .int .i64] tkOn tkM1 [tkC 3, tkC 4, tkC 5] (mkS tkT1 tkM1 x)) = (fun x => Tree.leaf (none, some ((x.1.1, x.1.2.1, x.1.2.1, (↑(List.length x.1.2.1) : Int), (0 : Int), ()), x.2.1, x.2.2.1, ()))) := by kernel_rfl
theorem tkl0_tree : (fun x : TkO => pieceT (mkC tys wtakeG []) (fnOf Tryz.prog 61) [gWin, .sl gPart, .int .i64] (tkOx 55 .bool) tkOM [tkL 0] (mkS tkO tkOM x)) = (fun x => Tree.leaf (none, some ((x.1.1, x.1.2.1, x.1.2.2.1, x.1.2.2.2.1, x.1.2.2.2.2.1, decide (x.1.2.2.2.2.1 < x.1.2.2.2.1), ()), x.2.1, x.2.2.1, x.2.2.2.1, ()))) := by kernel_rfl
theorem tki0_tree : (fun x : TkO => pieceT (mkC tys wtakeG []) (fnOf Tryz.prog 61) [gWin, .sl gPart, .int .i64] tkO1 tkOM1 [tkI 0] (mkS tkO tkOM x)) = (fun x => Tree.need ((0 : Int) ≤ x.1.2.2.2.2.1 ∧ x.1.2.2.2.2.1 < (↑(List.length x.1.2.2.1) : Int)) (Tree.leaf (none, some ((x.1.1, x.1.2.1, x.1.2.2.1, x.1.2.2.2.1, x.1.2.2.2.2.1, x.1.2.2.2.2.1, ()), x.2.1, x.2.2.1, x.2.2.2.1, List.getD x.1.2.2.1 (Int.toNat x.1.2.2.2.2.1) ((0 : Int), (((0 : Int), (0 : Int)), (0 : Int), (0 : Int)), (0 : Int), false, []), ())))) := by kernel_rfl
theorem tki1_tree : (fun x : TkO1 => opsT (mkC tys [] []) (tkO2 60 (.int .i64)) tkOM1 [rOp (tkI 1) 0, rOp (tkI 1) 1] (mkS tkO1 tkOM1 x)) = (fun x => Tree.leaf (some ((x.1.1, x.1.2.1, x.1.2.2.1, x.1.2.2.2.1, x.1.2.2.2.2.1, x.1.2.2.2.2.2.1, x.2.2.2.2.1.2.2.1, ()), x.2.1, x.2.2.1, x.2.2.2.1, x.2.2.2.2.1, ()))) := by kernel_rfl
theorem tki1b_tree : (fun x : (Int × List DPart × List DPart × Int × Int × Int × Int × Int × Unit) × (DWin × DWin × List DPart × DPart × Unit) => opsT (mkC tys [] []) (tkO2 63 .bool) tkOM1 [rOp (tkI 1) 4] (mkS tkO3 tkOM1 x)) = (fun x => Tree.leaf (some ((x.1.1, x.1.2.1, x.1.2.2.1, x.1.2.2.2.1, x.1.2.2.2.2.1, x.1.2.2.2.2.2.1, x.1.2.2.2.2.2.2.1 != x.1.2.2.2.2.2.2.2.1, ()), x.2.1, x.2.2.1, x.2.2.2.1, x.2.2.2.2.1, ()))) := by kernel_rfl
theorem tkt0_tree : (fun x : TkO1 => pieceT (mkC tys wtakeG []) (fnOf Tryz.prog 61) [gWin, .sl gPart, .int .i64] tkMn tkOM [tkT 0] (mkS tkO1 tkOM1 x)) = (fun x => Tree.need ((0 : Int) ≤ x.1.2.2.2.2.2.1 ∧ x.1.2.2.2.2.2.1 ≤ (↑(List.length x.1.2.1) : Int)) (Tree.leaf (none, some ((x.1.1, List.drop (Int.toNat x.1.2.2.2.2.2.1) x.1.2.1, (↑(List.length (List.drop (Int.toNat x.1.2.2.2.2.2.1) x.1.2.1)) : Int), (0 : Int), ()), x.2.1, x.2.2.1, x.2.2.2.1, ())))) := by kernel_rfl
theorem tki3_tree : (fun x : TkO1 => pieceT (mkC tys ownG []) (fnOf Tryz.prog 61) [gWin, .sl gPart, .int .i64] tkO tkOM [tkI 3] (mkS tkO1 tkOM1 x)) = (fun x => Tree.need (List.length x.2.2.2.2.1.2.2.2.2 ≤ (100000 : Nat)) (Tree.need ((List.length x.2.2.2.1 + (1 : Nat)) * (64 : Nat) ≤ (140737488355328 : Nat)) (Tree.leaf (none, some ((x.1.1, x.1.2.1, x.1.2.2.1, x.1.2.2.2.1, x.1.2.2.2.2.1, ()), x.2.1, x.2.2.1, x.2.2.2.1 ++ [x.2.2.2.2.1], ()))))) := by kernel_rfl
theorem tki4_tree : (fun x : (Int × List DPart × List DPart × Int × Int × Int × Unit) × (DWin × DWin × List DPart × Unit) => opsT (mkC tys [] []) (tkOx 87 (.int .i64)) tkOM [rOp (tkI 4) 2] (mkS (tkOx 86 (.int .i64)) tkOM x)) = (fun x => Tree.leaf (some ((x.1.1, x.1.2.1, x.1.2.2.1, x.1.2.2.2.1, x.1.2.2.2.2.1, IntKind.wrap IntKind.i64 (x.1.2.2.2.2.2.1 + (1 : Int)), ()), x.2.1, x.2.2.1, x.2.2.2.1, ()))) := by kernel_rfl
theorem tkl3_tree : (fun x : TkO => pieceT (mkC tys wtakeG []) (fnOf Tryz.prog 61) [gWin, .sl gPart, .int .i64] tkO tkOM [tkL 3] (mkS tkO tkOM x)) = (fun x => Tree.leaf (none, some ((x.1.1, x.1.2.1, x.1.2.2.1, x.1.2.2.2.1, IntKind.wrap IntKind.i64 (x.1.2.2.2.2.1 + (1 : Int)), ()), x.2.1, x.2.2.1, x.2.2.2.1, ()))) := by kernel_rfl
theorem tkm05_tree : (fun x : TkT => pieceT (mkC tys wtakeG []) (fnOf Tryz.prog 61) [gWin, .sl gPart, .int .i64] tkV5 tkMT [tkM 0] (mkS tkT5 tkMT x)) = (fun x => Tree.leaf (none, some ((x.1.1, x.1.2.1, x.1.2.2.1, x.1.2.2.2.1, decide (x.1.2.2.2.1 < x.1.2.2.1), ()), x.2.1, x.2.2.1, x.2.2.2.1, x.2.2.2.2.1, ()))) := by kernel_rfl
theorem tkm077_tree : (fun x : TkT => pieceT (mkC tys wtakeG []) (fnOf Tryz.prog 61) [gWin, .sl gPart, .int .i64] tkV77 tkMT [tkM 0] (mkS tkT77 tkMT x)) = (fun x => Tree.leaf (none, some ((x.1.1, x.1.2.1, x.1.2.2.1, x.1.2.2.2.1, decide (x.1.2.2.2.1 < x.1.2.2.1), ()), x.2.1, x.2.2.1, x.2.2.2.1, x.2.2.2.2.1, ()))) := by kernel_rfl
theorem tkn05_tree : (fun x : TkT => pieceT (mkC tys wtakeG []) (fnOf Tryz.prog 61) [gWin, .sl gPart, .int .i64] tkU5 tkMU [tkN 0] (mkS tkT5 tkMT x)) = (fun x => Tree.need ((0 : Int) ≤ x.1.2.2.2.1 ∧ x.1.2.2.2.1 < (↑(List.length x.1.2.1) : Int)) (Tree.leaf (none, some ((x.1.1, x.1.2.1, x.1.2.2.1, x.1.2.2.2.1, ()), x.2.1, x.2.2.1, x.2.2.2.1, x.2.2.2.2.1, List.getD x.1.2.1 (Int.toNat x.1.2.2.2.1) ((0 : Int), (((0 : Int), (0 : Int)), (0 : Int), (0 : Int)), (0 : Int), false, []), ())))) := by kernel_rfl
theorem tkn077_tree : (fun x : TkT => pieceT (mkC tys wtakeG []) (fnOf Tryz.prog 61) [gWin, .sl gPart, .int .i64] tkU77 tkMU [tkN 0] (mkS tkT77 tkMT x)) = (fun x => Tree.need ((0 : Int) ≤ x.1.2.2.2.1 ∧ x.1.2.2.2.1 < (↑(List.length x.1.2.1) : Int)) (Tree.leaf (none, some ((x.1.1, x.1.2.1, x.1.2.2.1, x.1.2.2.2.1, ()), x.2.1, x.2.2.1, x.2.2.2.1, x.2.2.2.2.1, List.getD x.1.2.1 (Int.toNat x.1.2.2.2.1) ((0 : Int), (((0 : Int), (0 : Int)), (0 : Int), (0 : Int)), (0 : Int), false, []), ())))) := by kernel_rfl
theorem tkm3_tree : (fun x : TkT => pieceT (mkC tys wtakeG []) (fnOf Tryz.prog 61) [gWin, .sl gPart, .int .i64] tkT77 tkMT [tkM 3] (mkS tkT77 tkMT x)) = (fun x => Tree.leaf (none, some ((x.1.1, x.1.2.1, x.1.2.2.1, IntKind.wrap IntKind.i64 (x.1.2.2.2.1 + (1 : Int)), ()), x.2.1, x.2.2.1, x.2.2.2.1, x.2.2.2.2.1, ()))) := by kernel_rfl
theorem tk7_tree : (fun x : (Int × Unit) × (DWin × DWin × DWin × List DPart × Unit) => pieceT (mkC tys wtakeG []) (fnOf Tryz.prog 61) [gWin, .sl gPart, .int .i64] [] [] [tkC 7, tkC 8] (mkS tkF tkFM x)) = (fun x => Tree.leaf (some (x.2.2.2.1, x.2.2.2.2.1, (0 : Int)), none)) := by kernel_rfl
end Go.Ev.Z
/- The window takes a part: those that wait on are put behind one another. -/
set_option linter.unusedVariables false
set_option linter.unusedSimpArgs false
namespace Go.Ev.Z
open Go.Proofs Go.Conc
attribute [local irreducible] fnOf bodyOf
theorem tk_mround_5 {R0 : Ref} {b : Frame} {Q : Exit → Act → World → Prop} {k e : Nat} {nn : Int} {v : Value} {n6 j : Int} {rest o o9 : List DPart} {w2 w4 : DWin} {a : Act} {w : World} (hr : ∀ y ∈ rest, y.2.2.2.2.length ≤ 100000) (hlen : rest.length ≤ 100000) (h0 : 0 ≤ j) (h1 : j ≤ rest.length) (ho : o = rest.take j.toNat)
    (h : Kv R0 k #[.int .i64 nn, v] e 92 [(8, .pointer (some ⟨k, 0, none⟩)), (5, v)] (mkS tkT5 tkMT ((n6, rest, (rest.length : Int), j, ()), (w2, w4, o, o9, ()))) a w)
    (hgo : j < rest.length → ∀ a' w' v', Kv R0 k #[.int .i64 nn, v'] e 92 [(8, .pointer (some ⟨k, 0, none⟩)), (77, v')] (mkS tkT77 tkMT ((n6, rest, (rest.length : Int), j + 1, ()), (w2, w4, rest.take (j + 1).toNat, o9, ()))) a' w' → Q .normal a' w')
    (hend : ¬ j < rest.length → ∀ a' w', Kv R0 k #[.int .i64 nn, v] e 92 [(8, .pointer (some ⟨k, 0, none⟩)), (5, v)] (mkS tkT5 tkMT ((n6, rest, (rest.length : Int), j, ()), (w2, w4, o, o9, ()))) a' w' → Q (.exit 3) a' w') : CodeTo Tryz.prog b (loopB 3 (bodyOf (fnOf Tryz.prog 61))) Q a w := by
  refine CodeTo.seqs ?_
  rw [tk_mloop]
  show LTo Tryz.prog b ([tkM 0] ++ [tkM 1, tkM 2, tkM 3]) _ a w
  refine h.piece (C := mkC tys wtakeG []) tysOK wtakeG_ok mixed (fn := fnOf Tryz.prog 61) (res := [gWin, .sl gPart, .int .i64]) (ts := tkV5) (bs := tkMT) (G := fun z => z = (none, some ((n6, rest, (rest.length : Int), j, decide (j < rest.length), ()), (w2, w4, o, o9, ())))) (by kernel_rfl) (by kernel_rfl) ?_ ?_ ?_ (fun h => by cases h)
  · have k8 : pieceT (mkC tys wtakeG []) (fnOf Tryz.prog 61) [gWin, .sl gPart, .int .i64] tkV5 tkMT [tkM 0] (mkS tkT5 tkMT ((n6, rest, (rest.length : Int), j, ()), (w2, w4, o, o9, ()))) = _ := congrFun tkm05_tree ((n6, rest, (rest.length : Int), j, ()), (w2, w4, o, o9, ()))
    exact (congrArg (Tree.holds _) k8).mpr rfl
  · intro y s' a' w' hy; cases hy
  · intro z a1 w1 hz k1
    have hz' : z = ((n6, rest, (rest.length : Int), j, decide (j < rest.length), ()), (w2, w4, o, o9, ())) := Option.some.inj (Prod.mk.inj hz).2
    subst hz'
    refine LTo.cons ?_
    rw [tk_m1]
    refine CodeTo.cond (t := decide (j < rest.length)) (k1.old.bool rfl) ?_
    have k2 := k1.restr (L := { prom := [], keep := tkT5.map (·.1), boxes := tkMT.map (·.1), sum := fun _ => .stuck }) (s' := mkS tkT5 tkMT ((n6, rest, (rest.length : Int), j, ()), (w2, w4, o, o9, ()))) (by kernel_rfl)
    cases hlt : decide (j < rest.length) with
    | false =>
      rw [if_neg (by simp)]
      refine CodeTo.exit ?_
      exact hend (of_decide_eq_false hlt) a1 w1 k2
    | true =>
      have hlt' := of_decide_eq_true hlt
      rw [if_pos rfl]
      refine CodeTo.skip ?_
      refine LTo.cons ?_
      rw [tk_m2]
      refine CodeTo.block ?_
      refine CodeTo.seqs ?_
      rw [tk_min]
      have hd := drop_elt (l := rest) part0 h0 hlt'
      show LTo Tryz.prog b ([tkN 0] ++ [tkN 1]) _ a1 w1
      refine k2.piece (C := mkC tys wtakeG []) tysOK wtakeG_ok mixed (fn := fnOf Tryz.prog 61) (res := [gWin, .sl gPart, .int .i64]) (ts := tkU5) (bs := tkMU) (G := fun z => z = (none, some ((n6, rest, (rest.length : Int), j, ()), (w2, w4, o, o9, rest.getD j.toNat part0, ())))) (by kernel_rfl) (by kernel_rfl) ?_ ?_ ?_ (fun h => by cases h)
      · have k8 : pieceT (mkC tys wtakeG []) (fnOf Tryz.prog 61) [gWin, .sl gPart, .int .i64] tkU5 tkMU [tkN 0] (mkS tkT5 tkMT ((n6, rest, (rest.length : Int), j, ()), (w2, w4, o, o9, ()))) = _ := congrFun tkn05_tree ((n6, rest, (rest.length : Int), j, ()), (w2, w4, o, o9, ()))
        exact (congrArg (Tree.holds _) k8).mpr ⟨⟨h0, hlt'⟩, rfl⟩
      · intro y s' a' w' hy; cases hy
      · intro z a2 w3 hz k3
        have hz' : z = ((n6, rest, (rest.length : Int), j, ()), (w2, w4, o, o9, rest.getD j.toNat part0, ())) := Option.some.inj (Prod.mk.inj hz).2
        subst hz'
        refine LTo.cons ?_
        refine tk_any_5 k3 (hr _ (elt_mem part0 h0 hlt')) (by rw [ho]; show (rest.take j.toNat).length ≤ 100000; rw [List.length_take]; omega) fun a' w' v' k4 => ?_
        have eo : o ++ [rest.getD j.toNat part0] = rest.take (j + 1).toNat := by
          have hl : j.toNat < rest.length := by omega
          rw [ho, show (j + 1).toNat = j.toNat + 1 by omega, List.take_add_one]
          simp [List.getD, hl]
        have k5 : Kv R0 k #[.int .i64 nn, v'] e 92 [(8, .pointer (some ⟨k, 0, none⟩)), (77, v')] (mkS tkT77 tkMT ((n6, rest, (rest.length : Int), j, ()), (w2, w4, o ++ [rest.getD j.toNat part0], o9, ()))) a' w' := k4
        rw [eo] at k5
        show LTo Tryz.prog b ([tkM 3] ++ []) _ a' w'
        refine k5.piece (C := mkC tys wtakeG []) tysOK wtakeG_ok mixed (fn := fnOf Tryz.prog 61) (res := [gWin, .sl gPart, .int .i64]) (ts := tkT77) (bs := tkMT) (G := fun z => z = (none, some ((n6, rest, (rest.length : Int), IntKind.i64.wrap (j + 1), ()), (w2, w4, rest.take (j + 1).toNat, o9, ())))) (by kernel_rfl) (by kernel_rfl) ?_ ?_ ?_ (fun h => by cases h)
        · have k8 : pieceT (mkC tys wtakeG []) (fnOf Tryz.prog 61) [gWin, .sl gPart, .int .i64] tkT77 tkMT [tkM 3] (mkS tkT77 tkMT ((n6, rest, (rest.length : Int), j, ()), (w2, w4, rest.take (j + 1).toNat, o9, ()))) = _ := congrFun tkm3_tree ((n6, rest, (rest.length : Int), j, ()), (w2, w4, rest.take (j + 1).toNat, o9, ()))
          exact (congrArg (Tree.holds _) k8).mpr rfl
        · intro y s' a' w' hy; cases hy
        · intro z a6 w6 hz k6
          have hz' : z = ((n6, rest, (rest.length : Int), IntKind.i64.wrap (j + 1), ()), (w2, w4, rest.take (j + 1).toNat, o9, ())) := Option.some.inj (Prod.mk.inj hz).2
          subst hz'
          rw [show IntKind.i64.wrap (j + 1) = j + 1 from i64_id (by omega) (by omega)] at k6
          exact hgo hlt' a6 w6 v' k6
theorem tk_mround_77 {R0 : Ref} {b : Frame} {Q : Exit → Act → World → Prop} {k e : Nat} {nn : Int} {v : Value} {n6 j : Int} {rest o o9 : List DPart} {w2 w4 : DWin} {a : Act} {w : World} (hr : ∀ y ∈ rest, y.2.2.2.2.length ≤ 100000) (hlen : rest.length ≤ 100000) (h0 : 0 ≤ j) (h1 : j ≤ rest.length) (ho : o = rest.take j.toNat)
    (h : Kv R0 k #[.int .i64 nn, v] e 92 [(8, .pointer (some ⟨k, 0, none⟩)), (77, v)] (mkS tkT77 tkMT ((n6, rest, (rest.length : Int), j, ()), (w2, w4, o, o9, ()))) a w)
    (hgo : j < rest.length → ∀ a' w' v', Kv R0 k #[.int .i64 nn, v'] e 92 [(8, .pointer (some ⟨k, 0, none⟩)), (77, v')] (mkS tkT77 tkMT ((n6, rest, (rest.length : Int), j + 1, ()), (w2, w4, rest.take (j + 1).toNat, o9, ()))) a' w' → Q .normal a' w')
    (hend : ¬ j < rest.length → ∀ a' w', Kv R0 k #[.int .i64 nn, v] e 92 [(8, .pointer (some ⟨k, 0, none⟩)), (77, v)] (mkS tkT77 tkMT ((n6, rest, (rest.length : Int), j, ()), (w2, w4, o, o9, ()))) a' w' → Q (.exit 3) a' w') : CodeTo Tryz.prog b (loopB 3 (bodyOf (fnOf Tryz.prog 61))) Q a w := by
  refine CodeTo.seqs ?_
  rw [tk_mloop]
  show LTo Tryz.prog b ([tkM 0] ++ [tkM 1, tkM 2, tkM 3]) _ a w
  refine h.piece (C := mkC tys wtakeG []) tysOK wtakeG_ok mixed (fn := fnOf Tryz.prog 61) (res := [gWin, .sl gPart, .int .i64]) (ts := tkV77) (bs := tkMT) (G := fun z => z = (none, some ((n6, rest, (rest.length : Int), j, decide (j < rest.length), ()), (w2, w4, o, o9, ())))) (by kernel_rfl) (by kernel_rfl) ?_ ?_ ?_ (fun h => by cases h)
  · have k8 : pieceT (mkC tys wtakeG []) (fnOf Tryz.prog 61) [gWin, .sl gPart, .int .i64] tkV77 tkMT [tkM 0] (mkS tkT77 tkMT ((n6, rest, (rest.length : Int), j, ()), (w2, w4, o, o9, ()))) = _ := congrFun tkm077_tree ((n6, rest, (rest.length : Int), j, ()), (w2, w4, o, o9, ()))
    exact (congrArg (Tree.holds _) k8).mpr rfl
  · intro y s' a' w' hy; cases hy
  · intro z a1 w1 hz k1
    have hz' : z = ((n6, rest, (rest.length : Int), j, decide (j < rest.length), ()), (w2, w4, o, o9, ())) := Option.some.inj (Prod.mk.inj hz).2
    subst hz'
    refine LTo.cons ?_
    rw [tk_m1]
    refine CodeTo.cond (t := decide (j < rest.length)) (k1.old.bool rfl) ?_
    have k2 := k1.restr (L := { prom := [], keep := tkT77.map (·.1), boxes := tkMT.map (·.1), sum := fun _ => .stuck }) (s' := mkS tkT77 tkMT ((n6, rest, (rest.length : Int), j, ()), (w2, w4, o, o9, ()))) (by kernel_rfl)
    cases hlt : decide (j < rest.length) with
    | false =>
      rw [if_neg (by simp)]
      refine CodeTo.exit ?_
      exact hend (of_decide_eq_false hlt) a1 w1 k2
    | true =>
      have hlt' := of_decide_eq_true hlt
      rw [if_pos rfl]
      refine CodeTo.skip ?_
      refine LTo.cons ?_
      rw [tk_m2]
      refine CodeTo.block ?_
      refine CodeTo.seqs ?_
      rw [tk_min]
      have hd := drop_elt (l := rest) part0 h0 hlt'
      show LTo Tryz.prog b ([tkN 0] ++ [tkN 1]) _ a1 w1
      refine k2.piece (C := mkC tys wtakeG []) tysOK wtakeG_ok mixed (fn := fnOf Tryz.prog 61) (res := [gWin, .sl gPart, .int .i64]) (ts := tkU77) (bs := tkMU) (G := fun z => z = (none, some ((n6, rest, (rest.length : Int), j, ()), (w2, w4, o, o9, rest.getD j.toNat part0, ())))) (by kernel_rfl) (by kernel_rfl) ?_ ?_ ?_ (fun h => by cases h)
      · have k8 : pieceT (mkC tys wtakeG []) (fnOf Tryz.prog 61) [gWin, .sl gPart, .int .i64] tkU77 tkMU [tkN 0] (mkS tkT77 tkMT ((n6, rest, (rest.length : Int), j, ()), (w2, w4, o, o9, ()))) = _ := congrFun tkn077_tree ((n6, rest, (rest.length : Int), j, ()), (w2, w4, o, o9, ()))
        exact (congrArg (Tree.holds _) k8).mpr ⟨⟨h0, hlt'⟩, rfl⟩
      · intro y s' a' w' hy; cases hy
      · intro z a2 w3 hz k3
        have hz' : z = ((n6, rest, (rest.length : Int), j, ()), (w2, w4, o, o9, rest.getD j.toNat part0, ())) := Option.some.inj (Prod.mk.inj hz).2
        subst hz'
        refine LTo.cons ?_
        refine tk_any_77 k3 (hr _ (elt_mem part0 h0 hlt')) (by rw [ho]; show (rest.take j.toNat).length ≤ 100000; rw [List.length_take]; omega) fun a' w' v' k4 => ?_
        have eo : o ++ [rest.getD j.toNat part0] = rest.take (j + 1).toNat := by
          have hl : j.toNat < rest.length := by omega
          rw [ho, show (j + 1).toNat = j.toNat + 1 by omega, List.take_add_one]
          simp [List.getD, hl]
        have k5 : Kv R0 k #[.int .i64 nn, v'] e 92 [(8, .pointer (some ⟨k, 0, none⟩)), (77, v')] (mkS tkT77 tkMT ((n6, rest, (rest.length : Int), j, ()), (w2, w4, o ++ [rest.getD j.toNat part0], o9, ()))) a' w' := k4
        rw [eo] at k5
        show LTo Tryz.prog b ([tkM 3] ++ []) _ a' w'
        refine k5.piece (C := mkC tys wtakeG []) tysOK wtakeG_ok mixed (fn := fnOf Tryz.prog 61) (res := [gWin, .sl gPart, .int .i64]) (ts := tkT77) (bs := tkMT) (G := fun z => z = (none, some ((n6, rest, (rest.length : Int), IntKind.i64.wrap (j + 1), ()), (w2, w4, rest.take (j + 1).toNat, o9, ())))) (by kernel_rfl) (by kernel_rfl) ?_ ?_ ?_ (fun h => by cases h)
        · have k8 : pieceT (mkC tys wtakeG []) (fnOf Tryz.prog 61) [gWin, .sl gPart, .int .i64] tkT77 tkMT [tkM 3] (mkS tkT77 tkMT ((n6, rest, (rest.length : Int), j, ()), (w2, w4, rest.take (j + 1).toNat, o9, ()))) = _ := congrFun tkm3_tree ((n6, rest, (rest.length : Int), j, ()), (w2, w4, rest.take (j + 1).toNat, o9, ()))
          exact (congrArg (Tree.holds _) k8).mpr rfl
        · intro y s' a' w' hy; cases hy
        · intro z a6 w6 hz k6
          have hz' : z = ((n6, rest, (rest.length : Int), IntKind.i64.wrap (j + 1), ()), (w2, w4, rest.take (j + 1).toNat, o9, ())) := Option.some.inj (Prod.mk.inj hz).2
          subst hz'
          rw [show IntKind.i64.wrap (j + 1) = j + 1 from i64_id (by omega) (by omega)] at k6
          exact hgo hlt' a6 w6 v' k6
def tkMI (R0 : Ref) (k e : Nat) (nn n6 : Int) (rest o9 : List DPart) (w2 w4 : DWin) (m : Nat) (a : Act) (w : World) : Prop :=
  ∃ (j : Int) (v : Value), 0 ≤ j ∧ j ≤ rest.length ∧ (m : Int) = rest.length - j ∧
    ((j = 0 ∧ Kv R0 k #[.int .i64 nn, v] e 92 [(8, .pointer (some ⟨k, 0, none⟩)), (5, v)] (mkS tkT5 tkMT ((n6, rest, (rest.length : Int), j, ()), (w2, w4, rest.take j.toNat, o9, ()))) a w) ∨
    (0 < j ∧ Kv R0 k #[.int .i64 nn, v] e 92 [(8, .pointer (some ⟨k, 0, none⟩)), (77, v)] (mkS tkT77 tkMT ((n6, rest, (rest.length : Int), j, ()), (w2, w4, rest.take j.toNat, o9, ()))) a w))
theorem tk_mloop_ok {R0 : Ref} {b : Frame} {Q : Exit → Act → World → Prop} {k e : Nat} {nn n6 : Int} {rest o9 : List DPart} {w2 w4 : DWin} {a : Act} {w : World} {v : Value} (hr : ∀ y ∈ rest, y.2.2.2.2.length ≤ 100000) (hlen : rest.length ≤ 100000) (hpos : 0 < rest.length)
    (h : Kv R0 k #[.int .i64 nn, v] e 92 [(8, .pointer (some ⟨k, 0, none⟩)), (5, v)] (mkS tkT5 tkMT ((n6, rest, (rest.length : Int), 0, ()), (w2, w4, [], o9, ()))) a w)
    (hend : ∀ a' w' v', Kv R0 k #[.int .i64 nn, v'] e 92 [(8, .pointer (some ⟨k, 0, none⟩)), (77, v')] (mkS tkT77 tkMT ((n6, rest, (rest.length : Int), (rest.length : Int), ()), (w2, w4, rest, o9, ()))) a' w' → Q (.exit 3) a' w') : CodeTo Tryz.prog b (.loop (loopB 3 (bodyOf (fnOf Tryz.prog 61)))) Q a w := by
  refine CodeTo.loop (tkMI R0 k e nn n6 rest o9 w2 w4) rest.length ⟨0, v, by omega, by omega, by omega, .inl ⟨rfl, h⟩⟩ ?_
  rintro m a1 w1 ⟨j, v1, h1, h2, h3, ⟨h4, h5⟩ | ⟨h4, h5⟩⟩
  · refine tk_mround_5 hr hlen h1 h2 rfl h5 (fun hlt a' w' v' k1 => ?_) (fun hlt => absurd (show j < rest.length by omega) hlt)
    exact ⟨m - 1, by omega, j + 1, v', by omega, by omega, by omega, .inr ⟨by omega, k1⟩⟩
  · refine tk_mround_77 hr hlen h1 h2 rfl h5 (fun hlt a' w' v' k1 => ?_) (fun hlt a' w' k1 => ?_)
    · exact ⟨m - 1, by omega, j + 1, v', by omega, by omega, by omega, .inr ⟨by omega, k1⟩⟩
    · have hj : j = rest.length := by omega
      subst hj
      rw [show rest.take (rest.length : Int).toNat = rest by simp] at k1
      exact hend a' w' v1 k1
end Go.Ev.Z
