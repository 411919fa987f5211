/- The window takes a part. -/
import Derived.Test.YtfahhljpjdoagaaGreatTextLinkMeets9

set_option linter.unusedVariables false
set_option linter.unusedSimpArgs false
namespace Go.Ev.Z
open Go.Proofs Go.Conc
theorem tk_z (w : World) : (zeroValue 31).run Tryz.prog w = .ok (.agg #[.int .i64 0, .slice none 0 0]) w := Tryz.zeroValue31 w
attribute [local irreducible] fnOf bodyOf
theorem turn_at {n : Int} {l : List DPart} {i : Int} (h0 : 0 ≤ i) (hi : i < l.length) (hs : (l.getD i.toNat part0).2.2.1 = n + i) : turnF (n + i) (l.drop i.toNat) = ((turnF (n + (i + 1)) (l.drop (i + 1).toNat)).1, l.getD i.toNat part0 :: (turnF (n + (i + 1)) (l.drop (i + 1).toNat)).2.1, (turnF (n + (i + 1)) (l.drop (i + 1).toNat)).2.2) := by
  rw [drop_elt part0 h0 hi, turnF, show ((l.getD i.toNat part0).2.2.1 != n + i) = false by rw [hs]; simp, cond_false, Int.add_assoc]
theorem take_more {l : List DPart} {i : Int} (h0 : 0 ≤ i) (hi : i < l.length) : l.take i.toNat ++ [l.getD i.toNat part0] = l.take (i + 1).toNat := by
  have hl : i.toNat < l.length := by omega
  rw [show (i + 1).toNat = i.toNat + 1 by omega, List.take_add_one]
  simp [List.getD, hl]
section
variable {R0 : Ref} {b : Frame} {Q : Exit → Act → World → Prop} {k e : Nat} {nn n6 i : Int} {l : List DPart} {w2 w4 : DWin} {a : Act} {w : World}
theorem tk_round (hr : ∀ y ∈ l, y.2.2.2.2.length ≤ 100000) (hlen : l.length ≤ 100000) (hn0 : 0 ≤ nn) (hn1 : nn ≤ 65535) (h0 : 0 ≤ i) (h1 : i ≤ l.length)
    (hturn : turnF nn l = ((turnF (nn + i) (l.drop i.toNat)).1, l.take i.toNat ++ (turnF (nn + i) (l.drop i.toNat)).2.1, (turnF (nn + i) (l.drop i.toNat)).2.2))
    (h : Kv R0 k #[.int .i64 (nn + i), .slice none 0 0] e 92 [(8, .pointer (some ⟨k, 0, none⟩))] (mkS tkO tkOM ((n6, l, l, (l.length : Int), i, ()), (w2, w4, l.take i.toNat, ()))) a w)
    (hgo : i < l.length → turnF nn l = ((turnF (nn + (i + 1)) (l.drop (i + 1).toNat)).1, l.take (i + 1).toNat ++ (turnF (nn + (i + 1)) (l.drop (i + 1).toNat)).2.1, (turnF (nn + (i + 1)) (l.drop (i + 1).toNat)).2.2) → ∀ a' w', Kv R0 k #[.int .i64 (nn + (i + 1)), .slice none 0 0] e 92 [(8, .pointer (some ⟨k, 0, none⟩))] (mkS tkO tkOM ((n6, l, l, (l.length : Int), i + 1, ()), (w2, w4, l.take (i + 1).toNat, ()))) a' w' → Q .normal a' w')
    (hE1 : ∀ a' w', turnF nn l = (nn + l.length, l, []) → Kv R0 k #[.int .i64 (nn + l.length), .slice none 0 0] e 92 [(8, .pointer (some ⟨k, 0, none⟩))] (mkS tkO tkOM ((n6, l, l, (l.length : Int), (l.length : Int), ()), (w2, w4, l, ()))) a' w' → Q (.exit 1) a' w')
    (hE2 : ∀ a' w' v j (rest turn : List DPart), turnF nn l = (j, turn, rest) → Kv R0 k #[.int .i64 j, v] e 92 [(8, .pointer (some ⟨k, 0, none⟩)), (77, v)] (mkS tkT77 tkMT ((n6, rest, (rest.length : Int), (rest.length : Int), ()), (w2, w4, rest, turn, ()))) a' w' → Q (.exit 1) a' w') : CodeTo Tryz.prog b (loopB 1 (bodyOf (fnOf Tryz.prog 61))) Q a w := by
  refine CodeTo.seqs ?_
  rw [tk_loop]
  show LTo Tryz.prog b ([tkL 0] ++ [tkL 1, tkL 2, tkL 3]) _ a w
  refine h.piece (C := mkC tys wtakeG []) tysOK wtakeG_ok mixed (fn := fnOf Tryz.prog 61) (res := [gWin, .sl gPart, .int .i64]) (ts := tkOx 55 .bool) (bs := tkOM) (G := fun z => z = (none, some ((n6, l, l, (l.length : Int), i, decide (i < l.length), ()), (w2, w4, l.take i.toNat, ())))) (by kernel_rfl) (by kernel_rfl) ?_ ?_ ?_ (fun h => by cases h)
  · have k8 : pieceT (mkC tys wtakeG []) (fnOf Tryz.prog 61) [gWin, .sl gPart, .int .i64] (tkOx 55 .bool) tkOM [tkL 0] (mkS tkO tkOM ((n6, l, l, (l.length : Int), i, ()), (w2, w4, l.take i.toNat, ()))) = _ := congrFun tkl0_tree ((n6, l, l, (l.length : Int), i, ()), (w2, w4, l.take i.toNat, ()))
    exact (congrArg (Tree.holds _) k8).mpr rfl
  · intro y s' a' w' hy; cases hy
  · intro z a1 w1 hz k1
    have hz' : z = ((n6, l, l, (l.length : Int), i, decide (i < l.length), ()), (w2, w4, l.take i.toNat, ())) := Option.some.inj (Prod.mk.inj hz).2
    subst hz'
    refine LTo.cons ?_
    rw [tk_l1]
    refine CodeTo.cond (t := decide (i < l.length)) (k1.old.bool rfl) ?_
    have k2 := k1.restr (L := { prom := [], keep := tkO.map (·.1), boxes := tkOM.map (·.1), sum := fun _ => .stuck }) (s' := mkS tkO tkOM ((n6, l, l, (l.length : Int), i, ()), (w2, w4, l.take i.toNat, ()))) (by kernel_rfl)
    cases hlt : decide (i < l.length) with
    | false =>
      have hi : i = l.length := by have := of_decide_eq_false hlt; omega
      subst hi
      rw [if_neg (by simp)]
      refine CodeTo.exit ?_
      have ht : l.take (l.length : Int).toNat = l := by simp
      refine hE1 a1 w1 ?_ ((congrArg (fun z : List DPart => Kv R0 k #[.int .i64 (nn + l.length), .slice none 0 0] e 92 [(8, .pointer (some ⟨k, 0, none⟩))] (mkS tkO tkOM ((n6, l, l, (l.length : Int), (l.length : Int), ()), (w2, w4, z, ()))) a1 w1) ht).mp k2)
      rw [hturn]
      have hd : l.drop (l.length : Int).toNat = [] := List.drop_eq_nil_of_le (by omega)
      rw [hd, ht]
      simp [turnF]
    | true =>
      have hlt' := of_decide_eq_true hlt
      rw [if_pos rfl]
      refine CodeTo.skip ?_
      refine LTo.cons ?_
      rw [tk_l2]
      refine CodeTo.block ?_
      refine CodeTo.seqs ?_
      rw [tk_in]
      have hx := hr _ (elt_mem part0 h0 hlt')
      have hd := drop_elt part0 h0 hlt'
      generalize hp : l.getD i.toNat part0 = p at hx hd
      show LTo Tryz.prog b ([tkI 0] ++ [tkI 1, tkI 2, tkI 3, tkI 4]) _ a1 w1
      refine k2.piece (C := mkC tys wtakeG []) tysOK wtakeG_ok mixed (fn := fnOf Tryz.prog 61) (res := [gWin, .sl gPart, .int .i64]) (ts := tkO1) (bs := tkOM1) (G := fun z => z = (none, some ((n6, l, l, (l.length : Int), i, i, ()), (w2, w4, l.take i.toNat, p, ())))) (by kernel_rfl) (by kernel_rfl) ?_ ?_ ?_ (fun h => by cases h)
      · have k8 : pieceT (mkC tys wtakeG []) (fnOf Tryz.prog 61) [gWin, .sl gPart, .int .i64] tkO1 tkOM1 [tkI 0] (mkS tkO tkOM ((n6, l, l, (l.length : Int), i, ()), (w2, w4, l.take i.toNat, ()))) = _ := congrFun tki0_tree ((n6, l, l, (l.length : Int), i, ()), (w2, w4, l.take i.toNat, ()))
        refine (congrArg (Tree.holds _) k8).mpr ⟨⟨h0, hlt'⟩, ?_⟩
        rw [← hp]; rfl
      · intro y s' a' w' hy; cases hy
      · intro z a2 w3 hz k3
        have hz' : z = ((n6, l, l, (l.length : Int), i, i, ()), (w2, w4, l.take i.toNat, p, ())) := Option.some.inj (Prod.mk.inj hz).2
        subst hz'
        refine LTo.cons ?_
        rw [tk_i1]
        refine CodeTo.region ?_
        rw [show List.range (rOps (tkI 1)).size = [0, 1] ++ [2, 3, 4] by kernel_rfl]
        refine k3.opsL (C := mkC tys [] []) tysOK ctrs_nil (ts := tkO2 60 (.int .i64)) (bs := tkOM1) (G := fun z => z = some ((n6, l, l, (l.length : Int), i, i, p.2.2.1, ()), (w2, w4, l.take i.toNat, p, ()))) [0, 1] (by kernel_rfl) (by kernel_rfl) ?_ ?_ (fun h => by cases h)
        · have k8 : opsT (mkC tys [] []) (tkO2 60 (.int .i64)) tkOM1 [rOp (tkI 1) 0, rOp (tkI 1) 1] (mkS tkO1 tkOM1 ((n6, l, l, (l.length : Int), i, i, ()), (w2, w4, l.take i.toNat, p, ()))) = _ := congrFun tki1_tree ((n6, l, l, (l.length : Int), i, i, ()), (w2, w4, l.take i.toNat, p, ()))
          exact (congrArg (Tree.holds _) k8).mpr rfl
        · intro z a3 w4' hz k4
          have hz' : z = ((n6, l, l, (l.length : Int), i, i, p.2.2.1, ()), (w2, w4, l.take i.toNat, p, ())) := Option.some.inj hz
          subst hz'
          refine RegTo.field (τ := tys) (o := rOp (tkI 1) 2) (k := k) (off := 0) (T := 31) (kk := 0) (x := .tmp 8) (d := 61) (ti := ⟨gWin, 2, _, _⟩) (g := .int .i64) tysOK rfl (by kernel_rfl) (by kernel_rfl) (by kernel_rfl) (by kernel_rfl) (by kernel_rfl) (by kernel_rfl) (k4.slots (8, .pointer (some ⟨k, 0, none⟩)) (by simp)) ?_
          rw [show 0 + offs gWin (fieldPath 2 0) = 0 by kernel_rfl]
          have k5 := k4.keep (k := 61) (v := .pointer (some ⟨k, 0, none⟩)) rfl (by omega) (by simp)
          generalize a3.put (some 61) (.pointer (some ⟨k, 0, none⟩)) = a4 at k5 ⊢
          refine Kv.load (τ := tys) (T := 3) (off := 0) (o := rOp (tkI 1) 3) (x := .tmp 61) (d := 62) (ti := ⟨.int .i64, _, _, _⟩) (v := .int .i64 (nn + i)) k5 (tysOK _ _ rfl) rfl (by kernel_rfl) (by kernel_rfl) (by kernel_rfl) (by kernel_rfl) (k5.slots (61, .pointer (some ⟨k, 0, none⟩)) (by simp)) rfl ?_
          have k6 := (k5.less (sl' := [(8, .pointer (some ⟨k, 0, none⟩))]) (fun p hp => by simp at hp ⊢; simp [hp])).known (k := 62) (v := .int .i64 (nn + i)) (av := .val (.int .i64) (nn + i)) (fun M => by simp only [RelV]; exact ⟨[.int .i64 (nn + i)], ⟨rfl, (has_i64 _).2 ⟨by omega, by omega⟩⟩, rfl⟩) (by omega) (by simp)
          have k7 := k6.restr (L := { prom := [], keep := tkO3.map (·.1), boxes := tkOM1.map (·.1), sum := fun _ => .stuck }) (s' := mkS tkO3 tkOM1 ((n6, l, l, (l.length : Int), i, i, p.2.2.1, nn + i, ()), (w2, w4, l.take i.toNat, p, ()))) (by kernel_rfl)
          generalize a4.put (some 62) (.int .i64 (nn + i)) = a5 at k7 ⊢
          show RegTo Tryz.prog b _ ([4] ++ []) _ _ _
          refine k7.opsL (C := mkC tys [] []) tysOK ctrs_nil (ts := tkO2 63 .bool) (bs := tkOM1) (G := fun z => z = some ((n6, l, l, (l.length : Int), i, i, p.2.2.1 != nn + i, ()), (w2, w4, l.take i.toNat, p, ()))) [4] (by kernel_rfl) (by kernel_rfl) ?_ ?_ (fun h => by cases h)
          · have k8 : opsT (mkC tys [] []) (tkO2 63 .bool) tkOM1 [rOp (tkI 1) 4] (mkS tkO3 tkOM1 ((n6, l, l, (l.length : Int), i, i, p.2.2.1, nn + i, ()), (w2, w4, l.take i.toNat, p, ()))) = _ := congrFun tki1b_tree ((n6, l, l, (l.length : Int), i, i, p.2.2.1, nn + i, ()), (w2, w4, l.take i.toNat, p, ()))
            exact (congrArg (Tree.holds _) k8).mpr rfl
          · intro z a6 w6 hz k9
            have hz' : z = ((n6, l, l, (l.length : Int), i, i, p.2.2.1 != nn + i, ()), (w2, w4, l.take i.toNat, p, ())) := Option.some.inj hz
            subst hz'
            refine RegTo.nil ?_
            refine LTo.cons ?_
            rw [tk_i2]
            refine CodeTo.cond (t := p.2.2.1 != nn + i) (k9.old.bool rfl) ?_
            have k10 := k9.restr (L := { prom := [], keep := tkO1.map (·.1), boxes := tkOM1.map (·.1), sum := fun _ => .stuck }) (s' := mkS tkO1 tkOM1 ((n6, l, l, (l.length : Int), i, i, ()), (w2, w4, l.take i.toNat, p, ()))) (by kernel_rfl)
            cases hne : p.2.2.1 != nn + i with
            | true =>
              rw [if_pos rfl]
              refine CodeTo.seqs ?_
              rw [tk_then]
              show LTo Tryz.prog b ([tkT 0] ++ [tkT 1, tkT 2]) _ a6 w6
              refine k10.piece (C := mkC tys wtakeG []) tysOK wtakeG_ok mixed (fn := fnOf Tryz.prog 61) (res := [gWin, .sl gPart, .int .i64]) (ts := tkMn) (bs := tkOM) (G := fun z => z = (none, some ((n6, l.drop i.toNat, ((l.drop i.toNat).length : Int), 0, ()), (w2, w4, l.take i.toNat, ())))) (by kernel_rfl) (by kernel_rfl) ?_ ?_ ?_ (fun h => by cases h)
              · have k8 : pieceT (mkC tys wtakeG []) (fnOf Tryz.prog 61) [gWin, .sl gPart, .int .i64] tkMn tkOM [tkT 0] (mkS tkO1 tkOM1 ((n6, l, l, (l.length : Int), i, i, ()), (w2, w4, l.take i.toNat, p, ()))) = _ := congrFun tkt0_tree ((n6, l, l, (l.length : Int), i, i, ()), (w2, w4, l.take i.toNat, p, ()))
                exact (congrArg (Tree.holds _) k8).mpr ⟨⟨h0, h1⟩, rfl⟩
              · intro y s' a' w' hy; cases hy
              · intro z a7 w7 hz k11
                have hz' : z = ((n6, l.drop i.toNat, ((l.drop i.toNat).length : Int), 0, ()), (w2, w4, l.take i.toNat, ())) := Option.some.inj (Prod.mk.inj hz).2
                subst hz'
                have h5 : a7.tmps.getD 5 undef = .slice none 0 0 := by
                  obtain ⟨M, _, _, _, hr⟩ := k11.old
                  have := hr 5
                  have h6 : RelV M (.cst (.slice none 0 0)) (a7.tmps.getD 5 undef) := this
                  simpa [RelV] using h6
                have k12 := k11.hold (t := 5)
                rw [h5] at k12
                have k13 := k12.rows (l := [(5, 77, 52, gPart)]) (L := { prom := [], keep := tkT5.map (·.1), boxes := tkMT.map (·.1), sum := fun _ => .stuck }) (s' := mkS tkT5 tkMT ((n6, l.drop i.toNat, ((l.drop i.toNat).length : Int), 0, ()), (w2, w4, [], l.take i.toNat, ()))) (by kernel_rfl)
                have k14 := k13.less (sl' := [(8, .pointer (some ⟨k, 0, none⟩)), (5, .slice none 0 0)]) (fun p hp => by simp at hp ⊢; rcases hp with rfl | rfl <;> simp)
                have hl0 : 0 < (l.drop i.toNat).length := by rw [List.length_drop]; omega
                refine LTo.cons ?_
                rw [tk_t1]
                refine CodeTo.block ?_
                refine tk_mloop_ok (fun y hy => hr y (List.mem_of_mem_drop hy)) (by rw [List.length_drop]; omega) hl0 k14 fun a' w' v' k15 => ?_
                show LTo Tryz.prog b [tkT 2] _ a' w'
                refine LTo.cons ?_
                rw [tk_t2]
                refine CodeTo.exit ?_
                refine hE2 a' w' v' (nn + i) (l.drop i.toNat) (l.take i.toNat) ?_ k15
                rw [hturn, hd, turnF, hne]
                simp
            | false =>
              have hs : p.2.2.1 = nn + i := by simpa using hne
              rw [if_neg (by simp)]
              refine CodeTo.skip ?_
              show LTo Tryz.prog b ([tkI 3] ++ [tkI 4]) _ a6 w6
              have hG : CtrsOK Tryz.prog (fun f => lk f ownG) := ctrs_cons own_ok ctrs_nil
              refine k10.piece (C := mkC tys ownG []) tysOK hG mixed (fn := fnOf Tryz.prog 61) (res := [gWin, .sl gPart, .int .i64]) (ts := tkO) (bs := tkOM) (G := fun z => z = (none, some ((n6, l, l, (l.length : Int), i, ()), (w2, w4, l.take i.toNat ++ [p], ())))) (by kernel_rfl) (by kernel_rfl) ?_ ?_ ?_ (fun h => by cases h)
              · have k8 : pieceT (mkC tys ownG []) (fnOf Tryz.prog 61) [gWin, .sl gPart, .int .i64] tkO tkOM [tkI 3] (mkS tkO1 tkOM1 ((n6, l, l, (l.length : Int), i, i, ()), (w2, w4, l.take i.toNat, p, ()))) = _ := congrFun tki3_tree ((n6, l, l, (l.length : Int), i, i, ()), (w2, w4, l.take i.toNat, p, ()))
                refine (congrArg (Tree.holds _) k8).mpr ⟨hx, ?_, rfl⟩
                show ((l.take i.toNat).length + 1) * 64 ≤ _
                rw [List.length_take]; omega
              · intro y s' a' w' hy; cases hy
              · intro z a7 w7 hz k11
                have hz' : z = ((n6, l, l, (l.length : Int), i, ()), (w2, w4, l.take i.toNat ++ [p], ())) := Option.some.inj (Prod.mk.inj hz).2
                subst hz'
                have etk : l.take i.toNat ++ [p] = l.take (i + 1).toNat := by rw [← hp]; exact take_more h0 hlt'
                rw [etk] at k11
                refine LTo.cons ?_
                rw [tk_i4]
                refine CodeTo.region ?_
                rw [show List.range (rOps (tkI 4)).size = [0, 1, 2, 3, 4] by kernel_rfl]
                refine RegTo.field (τ := tys) (o := rOp (tkI 4) 0) (k := k) (off := 0) (T := 31) (kk := 0) (x := .tmp 8) (d := 85) (ti := ⟨gWin, 2, _, _⟩) (g := .int .i64) tysOK rfl (by kernel_rfl) (by kernel_rfl) (by kernel_rfl) (by kernel_rfl) (by kernel_rfl) (by kernel_rfl) (k11.slots (8, .pointer (some ⟨k, 0, none⟩)) (by simp)) ?_
                rw [show 0 + offs gWin (fieldPath 2 0) = 0 by kernel_rfl]
                have k12 := k11.keep (k := 85) (v := .pointer (some ⟨k, 0, none⟩)) rfl (by omega) (by simp)
                generalize a7.put (some 85) (.pointer (some ⟨k, 0, none⟩)) = a8 at k12 ⊢
                refine Kv.load (τ := tys) (T := 3) (off := 0) (o := rOp (tkI 4) 1) (x := .tmp 85) (d := 86) (ti := ⟨.int .i64, _, _, _⟩) (v := .int .i64 (nn + i)) k12 (tysOK _ _ rfl) rfl (by kernel_rfl) (by kernel_rfl) (by kernel_rfl) (by kernel_rfl) (k12.slots (85, .pointer (some ⟨k, 0, none⟩)) (by simp)) rfl ?_
                have k13 := (k12.less (sl' := [(8, .pointer (some ⟨k, 0, none⟩))]) (fun p hp => by simp at hp ⊢; simp [hp])).known (k := 86) (v := .int .i64 (nn + i)) (av := .val (.int .i64) (nn + i)) (fun M => by simp only [RelV]; exact ⟨[.int .i64 (nn + i)], ⟨rfl, (has_i64 _).2 ⟨by omega, by omega⟩⟩, rfl⟩) (by omega) (by simp)
                have k14 := k13.restr (L := { prom := [], keep := (tkOx 86 (.int .i64)).map (·.1), boxes := tkOM.map (·.1), sum := fun _ => .stuck }) (s' := mkS (tkOx 86 (.int .i64)) tkOM ((n6, l, l, (l.length : Int), i, nn + i, ()), (w2, w4, l.take (i + 1).toNat, ()))) (by kernel_rfl)
                generalize a8.put (some 86) (.int .i64 (nn + i)) = a9 at k14 ⊢
                show RegTo Tryz.prog b _ ([2] ++ [3, 4]) _ _ _
                refine k14.opsL (C := mkC tys [] []) tysOK ctrs_nil (ts := tkOx 87 (.int .i64)) (bs := tkOM) (G := fun z => z = some ((n6, l, l, (l.length : Int), i, nn + (i + 1), ()), (w2, w4, l.take (i + 1).toNat, ()))) [2] (by kernel_rfl) (by kernel_rfl) ?_ ?_ (fun h => by cases h)
                · have k8 : opsT (mkC tys [] []) (tkOx 87 (.int .i64)) tkOM [rOp (tkI 4) 2] (mkS (tkOx 86 (.int .i64)) tkOM ((n6, l, l, (l.length : Int), i, nn + i, ()), (w2, w4, l.take (i + 1).toNat, ()))) = _ := congrFun tki4_tree ((n6, l, l, (l.length : Int), i, nn + i, ()), (w2, w4, l.take (i + 1).toNat, ()))
                  refine (congrArg (Tree.holds _) k8).mpr ?_
                  show some ((n6, l, l, (l.length : Int), i, IntKind.i64.wrap (nn + i + 1), ()), (w2, w4, l.take (i + 1).toNat, ())) = _
                  rw [i64_id (n := nn + i + 1) (by omega) (by omega), Int.add_assoc]
                · intro z a10 w10 hz k15
                  have hz' : z = ((n6, l, l, (l.length : Int), i, nn + (i + 1), ()), (w2, w4, l.take (i + 1).toNat, ())) := Option.some.inj hz
                  subst hz'
                  have h87 : a10.tmps.getD 87 undef = .int .i64 (nn + (i + 1)) := known_i64 k15.old rfl
                  have k16 := k15.hold (t := 87)
                  rw [h87] at k16
                  refine RegTo.field (τ := tys) (o := rOp (tkI 4) 3) (k := k) (off := 0) (T := 31) (kk := 0) (x := .tmp 8) (d := 88) (ti := ⟨gWin, 2, _, _⟩) (g := .int .i64) tysOK rfl (by kernel_rfl) (by kernel_rfl) (by kernel_rfl) (by kernel_rfl) (by kernel_rfl) (by kernel_rfl) (k16.slots (8, .pointer (some ⟨k, 0, none⟩)) (by simp)) ?_
                  rw [show 0 + offs gWin (fieldPath 2 0) = 0 by kernel_rfl]
                  have k17 := k16.keep (k := 88) (v := .pointer (some ⟨k, 0, none⟩)) rfl (by omega) (by simp)
                  generalize a10.put (some 88) (.pointer (some ⟨k, 0, none⟩)) = a11 at k17 ⊢
                  refine Kv.store (τ := tys) (T := 3) (off := 0) (o := rOp (tkI 4) 4) (x := .tmp 88) (y := .tmp 87) (ti := ⟨.int .i64, _, _, _⟩) (v := .int .i64 (nn + (i + 1))) k17 (tysOK _ _ rfl) rfl (by kernel_rfl) (by kernel_rfl) (by kernel_rfl) (k17.slots (88, .pointer (some ⟨k, 0, none⟩)) (by simp)) (k17.slots (87, .int .i64 (nn + (i + 1))) (by simp)) rfl rfl (by simp) (by kernel_rfl) fun w12 k18 => ?_
                  refine RegTo.nil ?_
                  have k19 := (k18.less (sl' := [(8, .pointer (some ⟨k, 0, none⟩))]) (fun p hp => by simp at hp ⊢; simp [hp])).restr (L := { prom := [], keep := tkO.map (·.1), boxes := tkOM.map (·.1), sum := fun _ => .stuck }) (s' := mkS tkO tkOM ((n6, l, l, (l.length : Int), i, ()), (w2, w4, l.take (i + 1).toNat, ()))) (by kernel_rfl)
                  rw [show (#[.int .i64 (nn + i), .slice none 0 0] : Array Value).set! 0 (.int .i64 (nn + (i + 1))) = #[.int .i64 (nn + (i + 1)), .slice none 0 0] from rfl] at k19
                  show LTo Tryz.prog b ([tkL 3] ++ []) _ a11 w12
                  refine k19.piece (C := mkC tys wtakeG []) tysOK wtakeG_ok mixed (fn := fnOf Tryz.prog 61) (res := [gWin, .sl gPart, .int .i64]) (ts := tkO) (bs := tkOM) (G := fun z => z = (none, some ((n6, l, l, (l.length : Int), i + 1, ()), (w2, w4, l.take (i + 1).toNat, ())))) (by kernel_rfl) (by kernel_rfl) ?_ ?_ ?_ (fun h => by cases h)
                  · have k8 : pieceT (mkC tys wtakeG []) (fnOf Tryz.prog 61) [gWin, .sl gPart, .int .i64] tkO tkOM [tkL 3] (mkS tkO tkOM ((n6, l, l, (l.length : Int), i, ()), (w2, w4, l.take (i + 1).toNat, ()))) = _ := congrFun tkl3_tree ((n6, l, l, (l.length : Int), i, ()), (w2, w4, l.take (i + 1).toNat, ()))
                    refine (congrArg (Tree.holds _) k8).mpr ?_
                    show (none, some ((n6, l, l, (l.length : Int), IntKind.i64.wrap (i + 1), ()), (w2, w4, l.take (i + 1).toNat, ()))) = _
                    rw [i64_id (n := i + 1) (by omega) (by omega)]
                  · intro y s' a' w' hy; cases hy
                  · intro z a13 w13 hz k20
                    have hz' : z = ((n6, l, l, (l.length : Int), i + 1, ()), (w2, w4, l.take (i + 1).toNat, ())) := Option.some.inj (Prod.mk.inj hz).2
                    subst hz'
                    refine hgo hlt' ?_ a13 w13 k20
                    rw [hturn, turn_at h0 hlt' (by rw [hp]; exact hs), ← take_more h0 hlt', List.append_assoc]
                    rfl
end
theorem take_first (x : DWin × DPart) (hp : takePre x) : (pieceT (mkC tys wtakeG []) (fnOf Tryz.prog 61) [gWin, .sl gPart, .int .i64] tkT1 tkM1 [tkC 0, tkC 1] (mkS tkT0 tkM0 ((0, ()), (x.1, x.2, (0, []), ())))).holds (fun z => z = (some (wtakeF x.1 x.2), none) ∨
    z = (none, some ((0, putF x.1.2 x.2, ()), (x.1, (0, []), ()))) ∧ 0 ≤ x.1.1 ∧ x.1.1 ≤ 65535 ∧ x.2.2.2.2.2.length ≤ 1000 ∧ wtakeF x.1 x.2 = (((turnF x.1.1 (putF x.1.2 x.2)).1, (turnF x.1.1 (putF x.1.2 x.2)).2.2), (turnF x.1.1 (putF x.1.2 x.2)).2.1, 0)) := by
  have k8 : pieceT (mkC tys wtakeG []) (fnOf Tryz.prog 61) [gWin, .sl gPart, .int .i64] tkT1 tkM1 [tkC 0, tkC 1] (mkS tkT0 tkM0 ((0, ()), (x.1, x.2, (0, []), ()))) = _ := congrFun tk1_tree ((0, ()), (x.1, x.2, (0, []), ()))
  refine (congrArg (Tree.holds _) k8).mpr ?_
  obtain ⟨h1, h2⟩ := hp
  simp only [Tree.holds]
  have eb : (bif !pokF x.2 then !pokF x.2 else !nearF x.1.1) = (bif !pokF x.2 then true else !nearF x.1.1) := by cases pokF x.2 <;> rfl
  rw [eb]
  unfold wtakeF
  refine ⟨fun h => .inl (by rw [h]; rfl), fun h => ⟨fun g => .inl (by rw [h, g]; rfl), fun g => ⟨fun g2 => .inl (by rw [h, g, g2]; rfl), fun g2 => ⟨by omega, by unfold seqsF; rw [List.length_map]; omega, fun g3 => .inl (by rw [h, g, g2, g3]; rfl), fun g3 => ⟨by omega, .inr ⟨rfl, ?_⟩⟩⟩⟩⟩⟩
  have hp : pokF x.2 = true := by cases hq : pokF x.2 <;> rw [hq] at h <;> first | rfl | cases h
  have hn : nearF x.1.1 = true := by
    rw [hp] at h
    cases hq : nearF x.1.1 <;> rw [hq] at h <;> first | rfl | cases h
  have hn' := near_iff.1 hn
  refine ⟨hn'.1, hn'.2, ?_, by rw [h, g, g2, g3]; rfl⟩
  unfold pokF at hp
  have hb : (bodyF x.2.2.2.2.2).2 = true := by
    cases hq : (bodyF x.2.2.2.2.2).2 with
    | true => rfl
    | false => rw [hq] at hp; simp at hp
  unfold bodyF at hb
  have h0 : (allF x.2.2.2.2.2).2 = 0 := by
    cases hq : (allF x.2.2.2.2.2).2 == (0 : Int) with
    | true => simpa using hq
    | false => rw [hq] at hb; cases hb
  obtain ⟨_, _, h3⟩ := allG_zero x.2.2.2.2.2 [] 0 h0
  rcases h3 with h3 | h3
  · rw [h3]; simp
  · omega
end Go.Ev.Z
/- The window takes a part: the whole. -/
set_option linter.unusedVariables false
set_option linter.unusedSimpArgs false
namespace Go.Ev.Z
open Go.Proofs Go.Conc
theorem put_small {x : DWin × DPart} (hp : takePre x) (h : x.2.2.2.2.2.length ≤ 1000) : (putF x.1.2 x.2).length ≤ 1001 ∧ ∀ y ∈ putF x.1.2 x.2, y.2.2.2.2.length ≤ 100000 := by
  obtain ⟨h1, h2⟩ := hp
  refine ⟨?_, fun y hy => ?_⟩
  · have e : (x.1.2.takeWhile (ptB x.2)).length + (x.1.2.dropWhile (ptB x.2)).length = x.1.2.length := by
      rw [← List.length_append, List.takeWhile_append_dropWhile]
    have : (putF x.1.2 x.2).length = (x.1.2.takeWhile (ptB x.2)).length + ((x.1.2.dropWhile (ptB x.2)).length + 1) := by
      unfold putF
      rw [List.length_append, List.length_cons]
      rfl
    omega
  · rcases mem_put.1 hy with rfl | hy
    · omega
    · have := h2 y hy; omega
theorem turn_le : ∀ (l : List DPart) (n : Int), n ≤ (turnF n l).1 ∧ (turnF n l).1 ≤ n + l.length
  | [], n => by simp [turnF]
  | x :: l, n => by
    rw [turnF]
    cases x.2.2.1 != n with
    | true => simp only [cond_true, List.length_cons]; omega
    | false =>
      have := turn_le l (n + 1)
      simp only [cond_false, List.length_cons]
      omega
def tkTi : TInfo := (tys 31).getD ⟨.bool, 0, 0, 0⟩
theorem tkTi_is : tys 31 = some tkTi := by kernel_rfl
theorem tkTi_two : ncell tkTi.g = 2 := by kernel_rfl
theorem tk_made (ev : Operand → Value) (n : Int) (h : ev (.tmp 50) = .int .i64 n) (w : World) : (execOp ev (rOp (tkC 2) 2)).run Tryz.prog w = .ok (.value (.agg #[.int .i64 n, .slice none 0 0])) w := by
  unfold execOp
  rw [show (rOp (tkC 2) 2).op = .build 31 #[(0, .tmp 50)] by kernel_rfl]
  simp only [List.map_toArray, List.map_cons, List.map_nil, h]
  exact maybe_run (tk_build _ _)
attribute [local irreducible] fnOf bodyOf
def tkLI (R0 : Ref) (k e : Nat) (nn n6 : Int) (l : List DPart) (w2 w4 : DWin) (m : Nat) (a : Act) (w : World) : Prop :=
  ∃ i : Int, 0 ≤ i ∧ i ≤ l.length ∧ (m : Int) = l.length - i ∧ turnF nn l = ((turnF (nn + i) (l.drop i.toNat)).1, l.take i.toNat ++ (turnF (nn + i) (l.drop i.toNat)).2.1, (turnF (nn + i) (l.drop i.toNat)).2.2) ∧
    Kv R0 k #[.int .i64 (nn + i), .slice none 0 0] e 92 [(8, .pointer (some ⟨k, 0, none⟩))] (mkS tkO tkOM ((n6, l, l, (l.length : Int), i, ()), (w2, w4, l.take i.toNat, ()))) a w
theorem wtake_ok : CtrOK Tryz.prog 61 wtakeC :=
  ctr_of_own (C := mkC tys wtakeG []) tysOK (by kernel_rfl) (by kernel_rfl) (by kernel_rfl) (fun x => by rw [tk_n]; show 2 ≤ 92; omega) fun R0 b (x : DWin × DPart) a0 hown hbk hw hpre h0 hsz0 hd0 => by
    rw [tk_n] at hsz0
    have hS := S0_lt h0
    have hp : takePre x := hpre takePre rfl
    rw [tk_all]
    have k0 := Kd.start (W := fun _ => none) (n := 92) (sl := []) (D := []) h0 hsz0 hd0 (fun _ h => by cases h)
    have fin : ∀ (s' : St) (a' : Act) (w' : World) (y : DWin × List DPart × Int), y = wtakeF x.1 x.2 → IsSt R0 s' a' w' → a'.defers = [] → (evRes (mkC tys wtakeG []) (fnOf Tryz.prog 61) [gWin, .sl gPart, .int .i64] (.normal, s')).holds (fun z => z = y) → finQ (mkC tys wtakeG []) (fnOf Tryz.prog 61) wtakeC.res R0 (wtakeC.fn x) .ret a' w' := by
      intro s' a' w' y hy j1 j2 j3
      rw [hy] at j3
      exact ⟨.inr rfl, j2, s', j1, j3⟩
    have last : ∀ (W : Nat → Option Obj) (K : Nat → Prop) (a : Act) (w : World) (n6 : Int) (w2 w4 w8 : DWin) (turn : List DPart), (w8, turn, 0) = wtakeF x.1 x.2 → Kd R0 K W 92 [] (mkS tkF tkFM ((n6, ()), (w2, w4, w8, turn, ()))) a w → LTo Tryz.prog b [tkC 7, tkC 8] (finQ (mkC tys wtakeG []) (fnOf Tryz.prog 61) wtakeC.res R0 (wtakeC.fn x)) a w := by
      intro W K a w n6 w2 w4 w8 turn hP k
      show LTo Tryz.prog b ([tkC 7, tkC 8] ++ []) _ a w
      refine k.piece (C := mkC tys wtakeG []) tysOK wtakeG_ok mixed (fn := fnOf Tryz.prog 61) (res := [gWin, .sl gPart, .int .i64]) (ts := []) (bs := []) (G := fun z => z = (some (w8, turn, 0), none)) (by kernel_rfl) (by kernel_rfl) ?_ ?_ ?_ ?_
      · have k8 : pieceT (mkC tys wtakeG []) (fnOf Tryz.prog 61) [gWin, .sl gPart, .int .i64] [] [] [tkC 7, tkC 8] (mkS tkF tkFM ((n6, ()), (w2, w4, w8, turn, ()))) = _ := congrFun tk7_tree ((n6, ()), (w2, w4, w8, turn, ()))
        exact (congrArg (Tree.holds _) k8).mpr rfl
      · intro y s' a' w' hy j1 j2 j3
        exact fin s' a' w' y ((Option.some.inj (Prod.mk.inj hy).1).trans hP) j1 j2 j3
      · intro z a' w' hz; cases hz
      · intro h; cases h
    show LTo Tryz.prog b ([tkB 0] ++ [tkB 1]) _ a0 R0.w0
    refine k0.piece (C := mkC tys [] []) tysOK ctrs_nil mixed (fn := fnOf Tryz.prog 61) (res := [gWin, .sl gPart, .int .i64]) (ts := tkT0) (bs := tkM0) (G := fun z => z = (none, some ((0, ()), (x.1, x.2, (0, []), ())))) (by kernel_rfl) (by kernel_rfl) ?_ ?_ ?_ (fun h => by cases h)
    · have k8 : pieceT (mkC tys [] []) (fnOf Tryz.prog 61) [gWin, .sl gPart, .int .i64] tkT0 tkM0 [tkB 0] { tmps := number 0 (resL [gWin, gPart] x), boxes := [] } = _ := congrFun tk0_tree x
      exact (congrArg (Tree.holds _) k8).mpr rfl
    · intro y s' a' w' hy; cases hy
    · intro z a1 w1 hz k1
      have hz' : z = ((0, ()), (x.1, x.2, (0, []), ())) := Option.some.inj (Prod.mk.inj hz).2
      subst hz'
      refine LTo.cons ?_
      rw [tk_1]
      refine CodeTo.scope (fun l a w h => by rcases h.1 with h | h <;> cases h) ?_
      refine CodeTo.seqs ?_
      rw [tk_s]
      have hQ : ∀ (l : List Code) (a : Act) (w : World), LTo Tryz.prog b l (finQ (mkC tys wtakeG []) (fnOf Tryz.prog 61) wtakeC.res R0 (wtakeC.fn x)) a w → LTo Tryz.prog b l (Exit.then (LTo Tryz.prog b [] (finQ (mkC tys wtakeG []) (fnOf Tryz.prog 61) wtakeC.res R0 (wtakeC.fn x))) (finQ (mkC tys wtakeG []) (fnOf Tryz.prog 61) wtakeC.res R0 (wtakeC.fn x))) a w := fun l a w h => h.mono fun e a w hq => by cases e <;> exact hq
      refine hQ _ _ _ ?_
      show LTo Tryz.prog b ([tkC 0, tkC 1] ++ [tkC 2, tkC 3, tkC 4, tkC 5, tkC 6, tkC 7, tkC 8]) _ a1 w1
      refine k1.piece (C := mkC tys wtakeG []) tysOK wtakeG_ok mixed (fn := fnOf Tryz.prog 61) (res := [gWin, .sl gPart, .int .i64]) (ts := tkT1) (bs := tkM1) (by kernel_rfl) (by kernel_rfl) (take_first x hp) ?_ ?_ ?_
      · intro y s' a' w' hy j1 j2 j3
        rcases hy with hy | ⟨hy, _⟩
        · exact fin s' a' w' y (Option.some.inj (Prod.mk.inj hy).1) j1 j2 j3
        · cases hy
      · intro z a2 w2 hz k2
        rcases hz with hz | ⟨hz, hn0, hn1, hit, htake⟩
        · cases hz
        have hz' : z = ((0, putF x.1.2 x.2, ()), (x.1, (0, []), ())) := Option.some.inj (Prod.mk.inj hz).2
        subst hz'
        obtain ⟨hl1, hl2⟩ := put_small hp hit
        generalize hL : putF x.1.2 x.2 = l at k2 hl1 hl2 htake
        refine LTo.cons ?_
        rw [tk_2]
        refine CodeTo.region ?_
        rw [show List.range (rOps (tkC 2)).size = [0, 1] ++ [2, 3, 4] by kernel_rfl]
        refine k2.opsL (C := mkC tys [] []) tysOK ctrs_nil (ts := [(2, .ptr 2 gWin), (4, .ptr 4 gWin), (5, .nil), (6, .val (.int .i64)), (7, .val (.sl gPart)), (50, .val (.int .i64))]) (bs := tkM1) (G := fun z => z = some ((0, l, x.1.1, ()), (x.1, (0, []), ()))) [0, 1] (by kernel_rfl) (by kernel_rfl) ?_ ?_ (fun h => by cases h)
        · have k8 : opsT (mkC tys [] []) [(2, .ptr 2 gWin), (4, .ptr 4 gWin), (5, .nil), (6, .val (.int .i64)), (7, .val (.sl gPart)), (50, .val (.int .i64))] tkM1 [rOp (tkC 2) 0, rOp (tkC 2) 1] (mkS tkT1 tkM1 ((0, l, ()), (x.1, (0, []), ()))) = _ := congrFun tk2_tree ((0, l, ()), (x.1, (0, []), ()))
          exact (congrArg (Tree.holds _) k8).mpr rfl
        · intro z a3 w3 hz k3
          have hz' : z = ((0, l, x.1.1, ()), (x.1, (0, []), ())) := Option.some.inj hz
          subst hz'
          have h50 : a3.eval (.tmp 50) = .int .i64 x.1.1 := known_i64 k3.old rfl
          refine RegTo.value (o := rOp (tkC 2) 2) (v := .agg #[.int .i64 x.1.1, .slice none 0 0]) (w' := w3) (by kernel_rfl) (by kernel_rfl) ?_ ?_
          · exact tk_made a3.eval _ h50 w3
          rw [show (rOp (tkC 2) 2).dst = some 51 by kernel_rfl]
          have k4 := k3.keep (k := 51) (v := .agg #[.int .i64 x.1.1, .slice none 0 0]) rfl (by omega) (by simp)
          generalize a3.put (some 51) (.agg #[.int .i64 x.1.1, .slice none 0 0]) = a4 at k4 ⊢
          refine k4.kalloc (T := 31) (d := 8) (o := rOp (tkC 2) 3) (z := .agg #[.int .i64 0, .slice none 0 0]) (cs := #[.int .i64 0, .slice none 0 0]) (by kernel_rfl) (by kernel_rfl) (by kernel_rfl) (by kernel_rfl) tk_z rfl rfl (by omega) (by simp) fun k a5 w5 k5 => ?_
          have q1 : TyOK Tryz.prog tys 31 tkTi := tysOK _ _ tkTi_is
          have q2 : ncell tkTi.g = (#[.int .i64 x.1.1, .slice none 0 0] : Array Value).size := tkTi_two.trans rfl
          have q3 : (rOps (tkC 2))[4]? = some (rOp (tkC 2) 4) := by kernel_rfl
          have q4 : (rOp (tkC 2) 4).guard = none := by kernel_rfl
          have q5 : (rOp (tkC 2) 4).op = .store 31 (.tmp 8) (.tmp 51) := by kernel_rfl
          have q6 : (rOp (tkC 2) 4).dst = none := by kernel_rfl
          refine Kv.storeAll (v := .agg #[.int .i64 x.1.1, .slice none 0 0]) (vs := #[.int .i64 x.1.1, .slice none 0 0]) k5 q1 q2 rfl q3 q4 q5 (k5.slots (8, .pointer (some ⟨k, 0, none⟩)) (by simp)) (k5.slots (51, .agg #[.int .i64 x.1.1, .slice none 0 0]) (by simp)) rfl (fun u hu => by simp at hu; rcases hu with rfl | rfl <;> rfl) q6 fun w6 k6 => ?_
          refine RegTo.nil ?_
          have k7 := (k6.less (sl' := [(8, .pointer (some ⟨k, 0, none⟩))]) (fun p hp => by simp at hp ⊢; simp [hp])).restr (L := { prom := [], keep := tkT1.map (·.1), boxes := tkM1.map (·.1), sum := fun _ => .stuck }) (s' := mkS tkT1 tkM1 ((0, l, ()), (x.1, (0, []), ()))) (by kernel_rfl)
          show LTo Tryz.prog b ([tkC 3, tkC 4, tkC 5] ++ [tkC 6, tkC 7, tkC 8]) _ a5 w6
          refine k7.piece (C := mkC tys wtakeG []) tysOK wtakeG_ok mixed (fn := fnOf Tryz.prog 61) (res := [gWin, .sl gPart, .int .i64]) (ts := tkOn) (bs := tkM1) (G := fun z => z = (none, some ((0, l, l, (l.length : Int), 0, ()), (x.1, (0, []), ())))) (by kernel_rfl) (by kernel_rfl) ?_ ?_ ?_ (fun h => by cases h)
          · have k8 : pieceT (mkC tys wtakeG []) (fnOf Tryz.prog 61) [gWin, .sl gPart, .int .i64] tkOn tkM1 [tkC 3, tkC 4, tkC 5] (mkS tkT1 tkM1 ((0, l, ()), (x.1, (0, []), ()))) = _ := congrFun tk3_tree ((0, l, ()), (x.1, (0, []), ()))
            exact (congrArg (Tree.holds _) k8).mpr rfl
          · intro y s' a' w' hy; cases hy
          · intro z a6 w7 hz k8
            have hz' : z = ((0, l, l, (l.length : Int), 0, ()), (x.1, (0, []), ())) := Option.some.inj (Prod.mk.inj hz).2
            subst hz'
            have k9 := k8.rows (l := [(9, 1009, 52, gPart)]) (L := { prom := [], keep := tkO.map (·.1), boxes := tkOM.map (·.1), sum := fun _ => .stuck }) (s' := mkS tkO tkOM ((0, l, l, (l.length : Int), 0, ()), (x.1, (0, []), [], ()))) (by kernel_rfl)
            refine LTo.cons ?_
            rw [tk_6]
            refine CodeTo.block ?_
            refine CodeTo.loop (tkLI R0 k 31 x.1.1 0 l x.1 (0, [])) l.length ⟨0, by omega, by omega, by omega, ?_, ?_⟩ ?_
            · show turnF x.1.1 l = ((turnF (x.1.1 + 0) l).1, [] ++ (turnF (x.1.1 + 0) l).2.1, (turnF (x.1.1 + 0) l).2.2)
              rw [Int.add_zero, List.nil_append]
            · rw [Int.add_zero]
              exact k9
            · rintro m a7 w8 ⟨i, i1, i2, i3, i4, i5⟩
              refine tk_round hl2 (by omega) hn0 hn1 i1 i2 i4 i5 (fun hlt hturn a' w' k10 => ?_) (fun a' w' hturn k10 => ?_) (fun a' w' v j rest turn hturn k10 => ?_)
              · exact ⟨m - 1, by omega, i + 1, by omega, by omega, by omega, hturn, k10⟩
              · show LTo Tryz.prog b [tkC 7, tkC 8] _ a' w'
                have h8 : a'.tmps.getD 8 undef = .pointer (some ⟨k, 0, none⟩) := k10.slots (8, .pointer (some ⟨k, 0, none⟩)) (by simp)
                have hat := Kv.at k10
                have k11 := k10.adopt (k := k) (bx := 8) (p := 8) (v := .pointer (some ⟨k, 0, none⟩)) (B := .var gWin (x.1.1 + l.length, [])) (av := .ptr 8 gWin []) rfl rfl (by kernel_rfl) hS
                  (fun M hM _ _ hno R' hR' => ⟨k, _, _, rfl, hat, ⟨[.int .i64 (x.1.1 + l.length)], _, rfl, ⟨rfl, (has_i64 _).2 ⟨by omega, by omega⟩⟩, none, 0, rfl, Nat.le_refl _, by simp, by simp, .inl rfl⟩, hno, hR'⟩)
                  (fun M' h1 h2 => by simp only [RelV]; exact ⟨k, true, _, h1, ⟨rfl, by trivial⟩, by rw [h2]; rfl, h8⟩)
                have k12 := (k11.less (sl' := []) (fun p hp => by cases hp)).restr (L := { prom := [], keep := tkF.map (·.1), boxes := tkFM.map (·.1), sum := fun _ => .stuck }) (s' := mkS tkF tkFM ((0, ()), (x.1, (0, []), (x.1.1 + l.length, []), l, ()))) (by kernel_rfl)
                refine last _ _ a' w' 0 x.1 (0, []) (x.1.1 + l.length, []) l ?_ k12
                rw [htake, hturn]
              · show LTo Tryz.prog b [tkC 7, tkC 8] _ a' w'
                have k11 := k10.freeze (t := 77) (c := 77) (e := 52) (d := false) (fz := false) (g := gPart) (xs := rest) (by kernel_rfl) (by kernel_rfl)
                have h8 : a'.tmps.getD 8 undef = .pointer (some ⟨k, 0, none⟩) := k11.slots (8, .pointer (some ⟨k, 0, none⟩)) (by simp)
                have h77 : a'.tmps.getD 77 undef = v := k11.slots (77, v) (by simp)
                have hat := Kv.at k11
                have hj : IntKind.i64.has j := by
                  have := turn_le l x.1.1
                  rw [hturn] at this
                  exact (has_i64 _).2 ⟨by omega, by omega⟩
                have k12 := k11.adopt (k := k) (bx := 8) (p := 8) (v := .pointer (some ⟨k, 0, none⟩)) (B := .var gWin (j, rest)) (av := .ptr 8 gWin []) rfl rfl (by kernel_rfl) hS
                  (fun M hM _ hr hno R' hR' => by
                    have h7 := hr 77
                    rw [h77] at h7
                    have h8 : RelV M (.val (.sl gPart) rest) v := h7
                    simp only [RelV] at h8
                    obtain ⟨c8, h9, h10⟩ := h8
                    have h11 : c8 = [v] := by
                      obtain ⟨ad', cap', e1, _⟩ := h9
                      rw [e1] at h10 ⊢
                      rw [h10]; rfl
                    rw [h11] at h9
                    exact ⟨k, _, _, rfl, hat, ⟨[.int .i64 j], _, rfl, ⟨rfl, hj⟩, hM ▸ h9⟩, hno, hR'⟩)
                  (fun M' h1 h2 => by simp only [RelV]; exact ⟨k, true, _, h1, ⟨rfl, by trivial⟩, by rw [h2]; rfl, h8⟩)
                have k13 := (k12.less (sl' := []) (fun p hp => by cases hp)).restr (L := { prom := [], keep := tkF.map (·.1), boxes := tkFM.map (·.1), sum := fun _ => .stuck }) (s' := mkS tkF tkFM ((0, ()), (x.1, (0, []), (j, rest), turn, ()))) (by kernel_rfl)
                refine last _ _ a' w' 0 x.1 (0, []) (j, rest) turn ?_ k13
                rw [htake, hturn]
      · rintro (h | ⟨h, _⟩) <;> cases h
end Go.Ev.Z
/- A session: new, its room, what must be, what is acknowledged, a tick, idle. -/
set_option linter.unusedVariables false
set_option linter.unusedSimpArgs false
namespace Go.Ev.Z
open Go.Proofs
def wnewC : Ctr := { args := [], res := [gWin], pre := none, fn := fun (x : Unit) => ((0, []) : DWin) }
def wnewG : List (Nat × Ctr) := []
theorem wnew_tree : (fun x : Unit => evFn (mkC tys wnewG []) (fnOf Tryz.prog 92) (resL wnewC.args x) wnewC.res) = (fun x => Tree.leaf ((0 : Int), [])) := by kernel_rfl
theorem wnew_ok : CtrOK Tryz.prog 92 wnewC :=
  fun_ok (G := wnewG) (Λ := []) tysOK ctrs_nil mixed (by kernel_rfl) (by kernel_rfl) (by kernel_rfl) (by kernel_rfl) lp_nil fun (x : Unit) hw _ => by
    rw [congrFun wnew_tree x]
    exact holds_val (d := wnewC.fn x) (by kernel_rfl) (by simp [Tree.safe])
def mnewC : Ctr := { args := [], res := [gBox], pre := none, fn := fun (x : Unit) => ((0, [], (0, []), []) : DMrl) }
def mnewG : List (Nat × Ctr) := [(92, wnewC)]
theorem mnew_tree : (fun x : Unit => evFn (mkC tys mnewG []) (fnOf Tryz.prog 66) (resL mnewC.args x) mnewC.res) = (fun x => Tree.leaf ((0 : Int), [], ((0 : Int), []), [])) := by kernel_rfl
theorem mnew_ok : CtrOK Tryz.prog 66 mnewC :=
  fun_ok (G := mnewG) (Λ := []) tysOK (ctrs_cons wnew_ok ctrs_nil) mixed (by kernel_rfl) (by kernel_rfl) (by kernel_rfl) (by kernel_rfl) lp_nil fun (x : Unit) hw _ => by
    rw [congrFun mnew_tree x]
    exact holds_val (d := mnewC.fn x) (by kernel_rfl) (by simp [Tree.safe])
def midleC : Ctr := { args := [gBox], res := [.bool], pre := none, fn := fun (x : DMrl) => idleF x }
def midleG : List (Nat × Ctr) := []
theorem midle_tree : (fun x : DMrl => evFn (mkC tys midleG []) (fnOf Tryz.prog 16) (resL midleC.args x) midleC.res) = (fun x => Tree.leaf (bif bif (↑(List.length x.2.1) : Int) == (0 : Int) then (↑(List.length x.2.2.1.2) : Int) == (0 : Int) else false then (↑(List.length x.2.2.2) : Int) == (0 : Int) else false)) := by kernel_rfl
theorem midle_ok : CtrOK Tryz.prog 16 midleC :=
  fun_ok (G := midleG) (Λ := []) tysOK ctrs_nil mixed (by kernel_rfl) (by kernel_rfl) (by kernel_rfl) (by kernel_rfl) lp_nil fun (x : DMrl) hw _ => by
    rw [congrFun midle_tree x]
    exact holds_val (d := midleC.fn x) (by kernel_rfl) (by simp [Tree.safe])
def roomF (b : DMrl) : Int := max (8 - (b.2.1.length : Int)) 0
def mroomC : Ctr := { args := [gBox], res := [.int .i64], pre := none, fn := fun (x : DMrl) => roomF x }
theorem mroom_tree : (fun x : DMrl => evFn (mkC tys [] []) (fnOf Tryz.prog 48) (resL [gBox] x) [.int .i64]) = (fun x => Tree.leaf (if IntKind.wrap IntKind.i64 ((8 : Int) - (↑(List.length x.2.1) : Int)) < (0 : Int) then (0 : Int) else IntKind.wrap IntKind.i64 ((8 : Int) - (↑(List.length x.2.1) : Int)))) := by kernel_rfl
theorem mroom_ok : CtrOK Tryz.prog 48 mroomC :=
  fun_ok (G := []) (Λ := []) tysOK ctrs_nil mixed (by kernel_rfl) (by kernel_rfl) (by kernel_rfl) (by kernel_rfl) lp_nil fun (x : DMrl) hw _ => by
    show (evFn (mkC tys [] []) (fnOf Tryz.prog 48) (resL [gBox] x) [.int .i64]).holds (fun y => y = roomF x)
    rw [congrFun mroom_tree x]
    have h1 : x.2.1.length ≤ maxRow := hw.2.1.1
    unfold maxRow at h1
    show (if IntKind.i64.wrap (8 - (x.2.1.length : Int)) < 0 then 0 else IntKind.i64.wrap (8 - (x.2.1.length : Int))) = roomF x
    rw [i64_id (n := 8 - (x.2.1.length : Int)) (by omega) (by omega)]
    unfold roomF
    split <;> omega
def noV (n : Int) : Value := .iface 43 (.int .i64 n)
def mustC : DCtr := { args := [.int .i64], res := [], die := fun (x : Int) => x != 0, val := fun (x : Int) => noV x, fn := fun _ => () }
theorem must_tree : (fun x : Int => evFnD (mkC tys [] []) (fnOf Tryz.prog 47) (resL [.int .i64] x) []) = (fun x => Tree.br (x != (0 : Int)) (Tree.leaf (Sum.inl (Value.iface (43 : Nat) (Value.int IntKind.i64 x)))) (Tree.leaf (Sum.inr ()))) := by kernel_rfl
theorem must_ok : DCtrOK Tryz.prog 47 mustC :=
  funD_ok (G := []) (Λ := []) (D := []) tysOK ctrs_nil ds_nil mixed (by kernel_rfl) (by kernel_rfl) (by kernel_rfl) (by kernel_rfl) lp_nil fun (x : Int) hw _ => by
    have e1 : mustC.die x = (x != 0) := rfl
    have e2 : mustC.val x = noV x := rfl
    have e3 : mustC.fn x = () := rfl
    rw [e1, e2, e3]
    have k2 : evFnD (mkC tys [] []) (fnOf Tryz.prog 47) (resL mustC.args x) mustC.res = _ := congrFun must_tree x
    rw [k2]
    exact ⟨fun h => by rw [h]; rfl, fun h => by rw [h]; rfl⟩
def mackedG : List (Nat × Ctr) := [(65, rackdC)]
theorem mackedG_ok : CtrsOK Tryz.prog (fun f => lk f mackedG) := (ctrs_cons rackd_ok ctrs_nil)
def ackedM (b : DMrl) (a : DAck) : DMrl × Int := ((b.1, (ackedF b.2.1 a).1, b.2.2), (ackedF b.2.1 a).2)
def mackedC : Ctr := { args := [gBox, gAck], res := [gBox, .int .i64], pre := some (fun (x : DMrl × DAck) => x.1.2.1.length ≤ 100000), fn := fun (x : DMrl × DAck) => ackedM x.1 x.2 }
theorem macked_tree : (fun x : DMrl × DAck => evFn (mkC tys mackedG []) (fnOf Tryz.prog 35) (resL [gBox, gAck] x) [gBox, .int .i64]) = (fun x => Tree.need (List.length x.1.2.1 ≤ (100000 : Nat)) (Tree.leaf ((x.1.1, (ackedF x.1.2.1 x.2).1, x.1.2.2), (ackedF x.1.2.1 x.2).2))) := by kernel_rfl
theorem macked_ok : CtrOK Tryz.prog 35 mackedC :=
  fun_ok (G := mackedG) (Λ := []) tysOK mackedG_ok mixed (by kernel_rfl) (by kernel_rfl) (by kernel_rfl) (by kernel_rfl) lp_nil fun (x : DMrl × DAck) hw hp => by
    show (evFn (mkC tys mackedG []) (fnOf Tryz.prog 35) (resL [gBox, gAck] x) [gBox, .int .i64]).holds (fun y => y = ackedM x.1 x.2)
    rw [congrFun macked_tree x]
    have h1 : x.1.2.1.length ≤ 100000 := hp _ rfl
    exact ⟨h1, rfl⟩
def mtickG : List (Nat × Ctr) := [(70, rtickC)]
theorem mtickG_ok : CtrsOK Tryz.prog (fun f => lk f mtickG) := (ctrs_cons rtick_ok ctrs_nil)
def tickM (b : DMrl) (r : DRules) : DMrl × List (List UInt8) × Bool := ((b.1, (ktickF b.2.1 r).1, b.2.2), (ktickF b.2.1 r).2)
def mtickC : Ctr := { args := [gBox, gRules], res := [gBox, .sl .str, .bool], pre := some (fun (x : DMrl × DRules) => x.1.2.1.length ≤ 100000), fn := fun (x : DMrl × DRules) => tickM x.1 x.2 }
theorem mtick_tree : (fun x : DMrl × DRules => evFn (mkC tys mtickG []) (fnOf Tryz.prog 41) (resL [gBox, gRules] x) [gBox, .sl .str, .bool]) = (fun x => Tree.need (List.length x.1.2.1 ≤ (100000 : Nat)) (Tree.leaf ((x.1.1, (ktickF x.1.2.1 x.2).1, x.1.2.2), (ktickF x.1.2.1 x.2).2.1, (ktickF x.1.2.1 x.2).2.2))) := by kernel_rfl
theorem mtick_ok : CtrOK Tryz.prog 41 mtickC :=
  fun_ok (G := mtickG) (Λ := []) tysOK mtickG_ok mixed (by kernel_rfl) (by kernel_rfl) (by kernel_rfl) (by kernel_rfl) lp_nil fun (x : DMrl × DRules) hw hp => by
    show (evFn (mkC tys mtickG []) (fnOf Tryz.prog 41) (resL [gBox, gRules] x) [gBox, .sl .str, .bool]).holds (fun y => y = tickM x.1 x.2)
    rw [congrFun mtick_tree x]
    have h1 : x.1.2.1.length ≤ 100000 := hp _ rfl
    exact ⟨h1, rfl⟩
end Go.Ev.Z
/- What is sent: its trees. -/
set_option linter.unusedVariables false
set_option linter.unusedSimpArgs false
namespace Go.Ev.Z
open Go.Proofs Go.Conc
def sendG : List (Nat × Ctr) := [(47, DCtr.ctr mustC), (46, cutC), (48, mroomC), (49, snextC), (50, fpartC), (51, raddC)]
theorem sendG_ok : CtrsOK Tryz.prog (fun f => lk f sendG) := ctrs_cons must_ok.ctr (ctrs_cons cut_ok (ctrs_cons mroom_ok (ctrs_cons snext_ok (ctrs_cons fpart_ok (ctrs_cons radd_ok ctrs_nil)))))
def sendK : List (Nat × DCtr) := [(47, mustC)]
theorem sendK_ok : DsOK Tryz.prog (mkC tys sendG [] false sendK) := ds_cons must_ok (by kernel_rfl) ds_nil
noncomputable def sdB (i : Nat) : Code := rNth (bodyOf (fnOf Tryz.prog 25)) i
noncomputable def sdL (i : Nat) : Code := rNth (loopB 0 (bodyOf (fnOf Tryz.prog 25))) i
noncomputable def sdI (i : Nat) : Code := rNth (rIn (sdL 2)) i
abbrev gPcs : GTy := .sl (.sl gItem)
@[reducible] def sdT0 : List (Nat × Sh) := [(2, .val (.sl gItem)), (4, .ptr 4 gBox), (5, .ptr 5 gHello), (7, .ptr 7 gRules), (8, .ptr 8 gBox)]
@[reducible] def sdM0 : List (Nat × BSh) := [(4, .var gBox), (5, .var gHello), (7, .var gRules), (8, .var gBox)]
@[reducible] def sdT1 : List (Nat × Sh) := [(2, .val (.sl gItem)), (4, .ptr 4 gBox), (5, .ptr 5 gHello), (7, .ptr 7 gRules), (8, .ptr 8 gBox), (10, .ptr 10 (.int .i64))]
@[reducible] def sdM1 : List (Nat × BSh) := [(4, .var gBox), (5, .var gHello), (7, .var gRules), (8, .var gBox), (10, .var (.int .i64))]
@[reducible] def sdT2 : List (Nat × Sh) := [(4, .ptr 4 gBox), (5, .ptr 5 gHello), (7, .ptr 7 gRules), (8, .ptr 8 gBox), (10, .ptr 10 (.int .i64)), (11, .val gPcs)]
@[reducible] def sdTn : List (Nat × Sh) := [(4, .ptr 4 gBox), (5, .ptr 5 gHello), (7, .ptr 7 gRules), (8, .ptr 8 gBox), (10, .ptr 10 (.int .i64)), (11, .val gPcs), (35, .val gPcs), (36, .val (.int .i64)), (37, .val (.int .i64))]
@[reducible] def sdTt : List (Nat × Sh) := [(4, .ptr 4 gBox), (5, .ptr 5 gHello), (7, .ptr 7 gRules), (8, .ptr 8 gBox), (10, .ptr 10 (.int .i64)), (11, .val gPcs), (35, .val gPcs), (36, .val (.int .i64)), (37, .val (.int .i64)), (89, .tip 89)]
@[reducible] def sdMt : List (Nat × BSh) := [(4, .var gBox), (5, .var gHello), (7, .var gRules), (8, .var gBox), (10, .var (.int .i64)), (89, .row 9 .str false)]
@[reducible] def sdTf : List (Nat × Sh) := [(4, .ptr 4 gBox), (5, .ptr 5 gHello), (7, .ptr 7 gRules), (8, .ptr 8 gBox), (9, .ptr 9 (.sl .str)), (10, .ptr 10 (.int .i64))]
@[reducible] def sdMf : List (Nat × BSh) := [(4, .var gBox), (5, .var gHello), (7, .var gRules), (8, .var gBox), (9, .var (.sl .str)), (10, .var (.int .i64))]
abbrev SdV := DMrl × DHello × DRules × DMrl × Int × Unit
abbrev SdN := (List (List DItem) × List (List DItem) × Int × Int × Unit) × SdV
abbrev SdT := (List (List DItem) × List (List DItem) × Int × Int × Unit) × (DMrl × DHello × DRules × DMrl × Int × List (List UInt8) × Unit)
theorem sd0_tree : (fun x : DMrl × DHello × List DItem × DRules => opsT (mkC tys [] []) sdT0 sdM0 [rOp (sdB 0) 0, rOp (sdB 0) 1, rOp (sdB 0) 2, rOp (sdB 0) 3] { tmps := number 0 (resL [gBox, gHello, .sl gItem, gRules] x), boxes := [] }) = (fun x => Tree.leaf (some ((x.2.2.1, ()), x.1, x.2.1, x.2.2.2, ((0 : Int), [], ((0 : Int), []), []), ()))) := by kernel_rfl
theorem sd05_tree : (fun x : (List DItem × Unit) × (DMrl × DHello × DRules × DMrl × Unit) => opsT (mkC tys [] []) sdT1 sdM1 [rOp (sdB 0) 5] (mkS sdT0 sdM0 x)) = (fun x => Tree.leaf (some ((x.1.1, ()), x.2.1, x.2.2.1, x.2.2.2.1, x.2.2.2.2.1, (0 : Int), ()))) := by kernel_rfl
theorem sd2_tree : (fun x : (List DItem × Unit) × SdV => endT (mkC tys sendG [] false sendK) sdT2 sdM1 [sdB 2, sdB 3, sdB 4, sdB 5, sdB 6] (mkS sdT1 sdM1 x)) = (fun x => Tree.need True (Tree.br ((msplitF x.1.1).2 != (0 : Int)) (Tree.leaf (Ex.die (noV (msplitF x.1.1).2), some (((msplitF x.1.1).1, ()), x.2.1, x.2.2.1, x.2.2.2.1, x.2.2.2.2.1, x.2.2.2.2.2.1, ()))) (Tree.need (True ∧ ((msplitF x.1.1).2 != (0 : Int)) = false) (Tree.br (decide ((↑(List.length (msplitF x.1.1).1) : Int) > roomF x.2.1)) (Tree.need True (Tree.br true (Tree.leaf (Ex.die (noV (8 : Int)), some (((msplitF x.1.1).1, ()), x.2.1, x.2.2.1, x.2.2.2.1, x.2.2.2.2.1, x.2.2.2.2.2.1, ()))) (Tree.need (True ∧ true = false) (Tree.leaf (Ex.normal, some (((msplitF x.1.1).1, ()), x.2.1, x.2.2.1, x.2.2.2.1, x.2.1, x.2.2.2.2.2.1, ())))))) (Tree.leaf (Ex.normal, some (((msplitF x.1.1).1, ()), x.2.1, x.2.2.1, x.2.2.2.1, x.2.1, x.2.2.2.2.2.1, ()))))))) := by kernel_rfl
theorem sd7_tree : (fun x : (List (List DItem) × Unit) × SdV => endT (mkC tys [] []) sdTn sdM1 [sdB 7] (mkS sdT2 sdM1 x)) = (fun x => Tree.leaf (Ex.normal, some ((x.1.1, x.1.1, (↑(List.length x.1.1) : Int), (0 : Int), ()), x.2.1, x.2.2.1, x.2.2.2.1, x.2.2.2.2.1, x.2.2.2.2.2.1, ()))) := by kernel_rfl
theorem sdl0n_tree : (fun x : SdN => endT (mkC tys [] []) (sdTn ++ [(38, .val .bool)]) sdM1 [sdL 0] (mkS sdTn sdM1 x)) = (fun x => Tree.leaf (Ex.normal, some ((x.1.1, x.1.2.1, x.1.2.2.1, x.1.2.2.2.1, decide (x.1.2.2.2.1 < x.1.2.2.1), ()), x.2.1, x.2.2.1, x.2.2.2.1, x.2.2.2.2.1, x.2.2.2.2.2.1, ()))) := by kernel_rfl
theorem sdl0t_tree : (fun x : SdT => endT (mkC tys [] []) (sdTt ++ [(38, .val .bool)]) sdMt [sdL 0] (mkS sdTt sdMt x)) = (fun x => Tree.leaf (Ex.normal, some ((x.1.1, x.1.2.1, x.1.2.2.1, x.1.2.2.2.1, decide (x.1.2.2.2.1 < x.1.2.2.1), ()), x.2.1, x.2.2.1, x.2.2.2.1, x.2.2.2.2.1, x.2.2.2.2.2.1, x.2.2.2.2.2.2.1, ()))) := by kernel_rfl
theorem sdin_tree : (fun x : SdN => endT (mkC tys sendG [] false sendK) (sdTn ++ [(18, .val .str)]) sdM1 [sdI 0, sdI 1, sdI 2, sdI 3, sdI 4, sdI 5, sdI 6, sdI 7, sdI 8] (mkS sdTn sdM1 x)) = (fun x => Tree.need ((0 : Int) ≤ x.1.2.2.2.1 ∧ x.1.2.2.2.1 < (↑(List.length x.1.2.1) : Int)) (Tree.need True (Tree.br ((nextS x.2.2.2.2.1.1).2 != (0 : Int)) (Tree.leaf (Ex.die (noV (nextS x.2.2.2.2.1.1).2), none)) (Tree.need (True ∧ ((nextS x.2.2.2.2.1.1).2 != (0 : Int)) = false) (Tree.need True (Tree.br ((fpartF (x.2.2.1.1, x.2.2.1.2, x.2.2.2.2.1.1, decide (x.1.2.2.2.1 < IntKind.wrap IntKind.i64 ((↑(List.length x.1.1) : Int) - (1 : Int))), List.getD x.1.2.1 (Int.toNat x.1.2.2.2.1) [])).2 != (0 : Int)) (Tree.leaf (Ex.die (noV (fpartF (x.2.2.1.1, x.2.2.1.2, x.2.2.2.2.1.1, decide (x.1.2.2.2.1 < IntKind.wrap IntKind.i64 ((↑(List.length x.1.1) : Int) - (1 : Int))), List.getD x.1.2.1 (Int.toNat x.1.2.2.2.1) [])).2), some ((x.1.1, x.1.2.1, x.1.2.2.1, x.1.2.2.2.1, (fpartF (x.2.2.1.1, x.2.2.1.2, x.2.2.2.2.1.1, decide (x.1.2.2.2.1 < IntKind.wrap IntKind.i64 ((↑(List.length x.1.1) : Int) - (1 : Int))), List.getD x.1.2.1 (Int.toNat x.1.2.2.2.1) [])).1, ()), x.2.1, x.2.2.1, x.2.2.2.1, x.2.2.2.2.1, x.2.2.2.2.2.1, ()))) (Tree.need (True ∧ ((fpartF (x.2.2.1.1, x.2.2.1.2, x.2.2.2.2.1.1, decide (x.1.2.2.2.1 < IntKind.wrap IntKind.i64 ((↑(List.length x.1.1) : Int) - (1 : Int))), List.getD x.1.2.1 (Int.toNat x.1.2.2.2.1) [])).2 != (0 : Int)) = false) (Tree.need True (Tree.br ((addF x.2.2.2.2.1.2.1 x.2.2.2.2.1.1 (fpartF (x.2.2.1.1, x.2.2.1.2, x.2.2.2.2.1.1, decide (x.1.2.2.2.1 < IntKind.wrap IntKind.i64 ((↑(List.length x.1.1) : Int) - (1 : Int))), List.getD x.1.2.1 (Int.toNat x.1.2.2.2.1) [])).1 x.2.2.2.1).2 != (0 : Int)) (Tree.leaf (Ex.die (noV (addF x.2.2.2.2.1.2.1 x.2.2.2.2.1.1 (fpartF (x.2.2.1.1, x.2.2.1.2, x.2.2.2.2.1.1, decide (x.1.2.2.2.1 < IntKind.wrap IntKind.i64 ((↑(List.length x.1.1) : Int) - (1 : Int))), List.getD x.1.2.1 (Int.toNat x.1.2.2.2.1) [])).1 x.2.2.2.1).2), some ((x.1.1, x.1.2.1, x.1.2.2.1, x.1.2.2.2.1, (fpartF (x.2.2.1.1, x.2.2.1.2, x.2.2.2.2.1.1, decide (x.1.2.2.2.1 < IntKind.wrap IntKind.i64 ((↑(List.length x.1.1) : Int) - (1 : Int))), List.getD x.1.2.1 (Int.toNat x.1.2.2.2.1) [])).1, ()), x.2.1, x.2.2.1, x.2.2.2.1, x.2.2.2.2.1, x.2.2.2.2.2.1, ()))) (Tree.need (True ∧ ((addF x.2.2.2.2.1.2.1 x.2.2.2.2.1.1 (fpartF (x.2.2.1.1, x.2.2.1.2, x.2.2.2.2.1.1, decide (x.1.2.2.2.1 < IntKind.wrap IntKind.i64 ((↑(List.length x.1.1) : Int) - (1 : Int))), List.getD x.1.2.1 (Int.toNat x.1.2.2.2.1) [])).1 x.2.2.2.1).2 != (0 : Int)) = false) (Tree.leaf (Ex.normal, some ((x.1.1, x.1.2.1, x.1.2.2.1, x.1.2.2.2.1, (fpartF (x.2.2.1.1, x.2.2.1.2, x.2.2.2.2.1.1, decide (x.1.2.2.2.1 < IntKind.wrap IntKind.i64 ((↑(List.length x.1.1) : Int) - (1 : Int))), List.getD x.1.2.1 (Int.toNat x.1.2.2.2.1) [])).1, ()), x.2.1, x.2.2.1, x.2.2.2.1, ((nextS x.2.2.2.2.1.1).1, (addF x.2.2.2.2.1.2.1 x.2.2.2.2.1.1 (fpartF (x.2.2.1.1, x.2.2.1.2, x.2.2.2.2.1.1, decide (x.1.2.2.2.1 < IntKind.wrap IntKind.i64 ((↑(List.length x.1.1) : Int) - (1 : Int))), List.getD x.1.2.1 (Int.toNat x.1.2.2.2.1) [])).1 x.2.2.2.1).1, x.2.2.2.2.1.2.2), x.2.2.2.2.2.1, ()))))))))))))) := by kernel_rfl
theorem sdit_tree : (fun x : SdT => endT (mkC tys sendG [] false sendK) (sdTt ++ [(18, .val .str)]) sdMt [sdI 0, sdI 1, sdI 2, sdI 3, sdI 4, sdI 5, sdI 6, sdI 7, sdI 8] (mkS sdTt sdMt x)) = (fun x => Tree.need ((0 : Int) ≤ x.1.2.2.2.1 ∧ x.1.2.2.2.1 < (↑(List.length x.1.2.1) : Int)) (Tree.need True (Tree.br ((nextS x.2.2.2.2.1.1).2 != (0 : Int)) (Tree.leaf (Ex.die (noV (nextS x.2.2.2.2.1.1).2), none)) (Tree.need (True ∧ ((nextS x.2.2.2.2.1.1).2 != (0 : Int)) = false) (Tree.need True (Tree.br ((fpartF (x.2.2.1.1, x.2.2.1.2, x.2.2.2.2.1.1, decide (x.1.2.2.2.1 < IntKind.wrap IntKind.i64 ((↑(List.length x.1.1) : Int) - (1 : Int))), List.getD x.1.2.1 (Int.toNat x.1.2.2.2.1) [])).2 != (0 : Int)) (Tree.leaf (Ex.die (noV (fpartF (x.2.2.1.1, x.2.2.1.2, x.2.2.2.2.1.1, decide (x.1.2.2.2.1 < IntKind.wrap IntKind.i64 ((↑(List.length x.1.1) : Int) - (1 : Int))), List.getD x.1.2.1 (Int.toNat x.1.2.2.2.1) [])).2), some ((x.1.1, x.1.2.1, x.1.2.2.1, x.1.2.2.2.1, (fpartF (x.2.2.1.1, x.2.2.1.2, x.2.2.2.2.1.1, decide (x.1.2.2.2.1 < IntKind.wrap IntKind.i64 ((↑(List.length x.1.1) : Int) - (1 : Int))), List.getD x.1.2.1 (Int.toNat x.1.2.2.2.1) [])).1, ()), x.2.1, x.2.2.1, x.2.2.2.1, x.2.2.2.2.1, x.2.2.2.2.2.1, x.2.2.2.2.2.2.1, ()))) (Tree.need (True ∧ ((fpartF (x.2.2.1.1, x.2.2.1.2, x.2.2.2.2.1.1, decide (x.1.2.2.2.1 < IntKind.wrap IntKind.i64 ((↑(List.length x.1.1) : Int) - (1 : Int))), List.getD x.1.2.1 (Int.toNat x.1.2.2.2.1) [])).2 != (0 : Int)) = false) (Tree.need True (Tree.br ((addF x.2.2.2.2.1.2.1 x.2.2.2.2.1.1 (fpartF (x.2.2.1.1, x.2.2.1.2, x.2.2.2.2.1.1, decide (x.1.2.2.2.1 < IntKind.wrap IntKind.i64 ((↑(List.length x.1.1) : Int) - (1 : Int))), List.getD x.1.2.1 (Int.toNat x.1.2.2.2.1) [])).1 x.2.2.2.1).2 != (0 : Int)) (Tree.leaf (Ex.die (noV (addF x.2.2.2.2.1.2.1 x.2.2.2.2.1.1 (fpartF (x.2.2.1.1, x.2.2.1.2, x.2.2.2.2.1.1, decide (x.1.2.2.2.1 < IntKind.wrap IntKind.i64 ((↑(List.length x.1.1) : Int) - (1 : Int))), List.getD x.1.2.1 (Int.toNat x.1.2.2.2.1) [])).1 x.2.2.2.1).2), some ((x.1.1, x.1.2.1, x.1.2.2.1, x.1.2.2.2.1, (fpartF (x.2.2.1.1, x.2.2.1.2, x.2.2.2.2.1.1, decide (x.1.2.2.2.1 < IntKind.wrap IntKind.i64 ((↑(List.length x.1.1) : Int) - (1 : Int))), List.getD x.1.2.1 (Int.toNat x.1.2.2.2.1) [])).1, ()), x.2.1, x.2.2.1, x.2.2.2.1, x.2.2.2.2.1, x.2.2.2.2.2.1, x.2.2.2.2.2.2.1, ()))) (Tree.need (True ∧ ((addF x.2.2.2.2.1.2.1 x.2.2.2.2.1.1 (fpartF (x.2.2.1.1, x.2.2.1.2, x.2.2.2.2.1.1, decide (x.1.2.2.2.1 < IntKind.wrap IntKind.i64 ((↑(List.length x.1.1) : Int) - (1 : Int))), List.getD x.1.2.1 (Int.toNat x.1.2.2.2.1) [])).1 x.2.2.2.1).2 != (0 : Int)) = false) (Tree.leaf (Ex.normal, some ((x.1.1, x.1.2.1, x.1.2.2.1, x.1.2.2.2.1, (fpartF (x.2.2.1.1, x.2.2.1.2, x.2.2.2.2.1.1, decide (x.1.2.2.2.1 < IntKind.wrap IntKind.i64 ((↑(List.length x.1.1) : Int) - (1 : Int))), List.getD x.1.2.1 (Int.toNat x.1.2.2.2.1) [])).1, ()), x.2.1, x.2.2.1, x.2.2.2.1, ((nextS x.2.2.2.2.1.1).1, (addF x.2.2.2.2.1.2.1 x.2.2.2.2.1.1 (fpartF (x.2.2.1.1, x.2.2.1.2, x.2.2.2.2.1.1, decide (x.1.2.2.2.1 < IntKind.wrap IntKind.i64 ((↑(List.length x.1.1) : Int) - (1 : Int))), List.getD x.1.2.1 (Int.toNat x.1.2.2.2.1) [])).1 x.2.2.2.1).1, x.2.2.2.2.1.2.2), x.2.2.2.2.2.1, x.2.2.2.2.2.2.1, ()))))))))))))) := by kernel_rfl
@[reducible] def sdT3 : List (Nat × Sh) := [(4, .ptr 4 gBox), (5, .ptr 5 gHello), (7, .ptr 7 gRules), (8, .ptr 8 gBox), (10, .ptr 10 (.int .i64)), (11, .val gPcs), (35, .val gPcs), (36, .val (.int .i64)), (37, .val (.int .i64)), (18, .val .str), (86, .tip 89)]
theorem sdi9_tree : (fun x : (List (List DItem) × List (List DItem) × Int × Int × List UInt8 × Unit) × (DMrl × DHello × DRules × DMrl × Int × List (List UInt8) × Unit) => opsT (mkC tys [] []) sdTt sdMt [rOp (sdI 9) 1, rOp (sdI 9) 2, rOp (sdI 9) 3] (mkS sdT3 sdMt x)) = (fun x => Tree.need ((List.length x.2.2.2.2.2.2.1 + (1 : Nat)) * (16 : Nat) ≤ (140737488355328 : Nat)) (Tree.leaf (some ((x.1.1, x.1.2.1, x.1.2.2.1, x.1.2.2.2.1, ()), x.2.1, x.2.2.1, x.2.2.2.1, x.2.2.2.2.1, x.2.2.2.2.2.1, x.2.2.2.2.2.2.1 ++ [x.1.2.2.2.2.1], ())))) := by kernel_rfl
theorem sdl3_tree : (fun x : SdT => endT (mkC tys [] []) sdTt sdMt [sdL 3] (mkS sdTt sdMt x)) = (fun x => Tree.leaf (Ex.normal, some ((x.1.1, x.1.2.1, x.1.2.2.1, IntKind.wrap IntKind.i64 (x.1.2.2.2.1 + (1 : Int)), ()), x.2.1, x.2.2.1, x.2.2.2.1, x.2.2.2.2.1, x.2.2.2.2.2.1, x.2.2.2.2.2.2.1, ()))) := by kernel_rfl
theorem sd9_tree : (fun x : Unit × (DMrl × DHello × DRules × DMrl × List (List UInt8) × Int × Unit) => endT (mkC tys [] []) sdTf sdMf [sdB 9, sdB 10] (mkS sdTf sdMf x)) = (fun x => Tree.leaf (Ex.ret, some ((), x.2.1, x.2.2.1, x.2.2.2.1, x.2.2.2.2.1, x.2.2.2.2.2.1, (0 : Int), ()))) := by kernel_rfl
noncomputable def scB (i : Nat) : Code := rNth (bodyOf (fnOf Tryz.prog 45)) i
theorem sc2_tree : (fun x : Int × (Unit × (DMrl × DHello × DRules × DMrl × List (List UInt8) × Int × Unit)) => (runOpsC (mkC tys [] []) [rOp (rThen (scB 2)) 0, rOp (rThen (scB 2)) 1, rOp (rThen (scB 2)) 2, rOp (rThen (scB 2)) 3, rOp (rThen (scB 2)) 4] { tmps := [(0, .ptr 4 gBox []), (1, .ptr 8 gBox []), (2, .ptr 9 (.sl .str) []), (3, .ptr 10 (.int .i64) []), (4, .val (.int .i64) x.1)], boxes := (mkS sdTf sdMf x.2).boxes }).bind fun s => Tree.leaf s.boxes) = (fun x => Tree.leaf [((4 : Nat), false, Box.var (GTy.prod (GTy.int IntKind.i64) (GTy.prod (GTy.sl (GTy.prod (GTy.int IntKind.i64) (GTy.prod GTy.str (GTy.prod (GTy.int IntKind.i64) (GTy.int IntKind.i64))))) (GTy.prod (GTy.prod (GTy.int IntKind.i64) (GTy.sl (GTy.prod (GTy.int IntKind.i64) (GTy.prod (GTy.prod (GTy.prod (GTy.int IntKind.u32) (GTy.int IntKind.u32)) (GTy.prod (GTy.int IntKind.u32) (GTy.int IntKind.u32))) (GTy.prod (GTy.int IntKind.i64) (GTy.prod GTy.bool (GTy.sl (GTy.prod (GTy.int IntKind.i64) (GTy.prod (GTy.int IntKind.i64) (GTy.prod (GTy.int IntKind.u32) (GTy.int IntKind.i64))))))))))) (GTy.sl (GTy.prod (GTy.int IntKind.i64) (GTy.prod (GTy.int IntKind.i64) (GTy.prod (GTy.int IntKind.u32) (GTy.int IntKind.i64)))))))) x.2.2.1), ((5 : Nat), false, Box.var (GTy.prod (GTy.int IntKind.i64) (GTy.prod (GTy.prod (GTy.int IntKind.u32) (GTy.int IntKind.u32)) (GTy.prod (GTy.int IntKind.u32) (GTy.int IntKind.u32)))) x.2.2.2.1), ((7 : Nat), false, Box.var (GTy.prod (GTy.int IntKind.i64) (GTy.prod (GTy.int IntKind.i64) (GTy.prod (GTy.int IntKind.i64) (GTy.int IntKind.i64)))) x.2.2.2.2.1), ((8 : Nat), true, Box.var (GTy.prod (GTy.int IntKind.i64) (GTy.prod (GTy.sl (GTy.prod (GTy.int IntKind.i64) (GTy.prod GTy.str (GTy.prod (GTy.int IntKind.i64) (GTy.int IntKind.i64))))) (GTy.prod (GTy.prod (GTy.int IntKind.i64) (GTy.sl (GTy.prod (GTy.int IntKind.i64) (GTy.prod (GTy.prod (GTy.prod (GTy.int IntKind.u32) (GTy.int IntKind.u32)) (GTy.prod (GTy.int IntKind.u32) (GTy.int IntKind.u32))) (GTy.prod (GTy.int IntKind.i64) (GTy.prod GTy.bool (GTy.sl (GTy.prod (GTy.int IntKind.i64) (GTy.prod (GTy.int IntKind.i64) (GTy.prod (GTy.int IntKind.u32) (GTy.int IntKind.i64))))))))))) (GTy.sl (GTy.prod (GTy.int IntKind.i64) (GTy.prod (GTy.int IntKind.i64) (GTy.prod (GTy.int IntKind.u32) (GTy.int IntKind.i64)))))))) x.2.2.1), ((9 : Nat), true, Box.var (GTy.sl GTy.str) []), ((10 : Nat), true, Box.var (GTy.int IntKind.i64) x.1)]) := by kernel_rfl
theorem sd_all : seqs (bodyOf (fnOf Tryz.prog 25)) = [sdB 0, sdB 1, sdB 2, sdB 3, sdB 4, sdB 5, sdB 6, sdB 7, sdB 8, sdB 9, sdB 10] := by kernel_rfl
theorem sd_0 : sdB 0 = .region 0 (rOps (sdB 0)) false := by kernel_rfl
theorem sd_1 : sdB 1 = .region 1 (rOps (sdB 1)) false := by kernel_rfl
theorem sd_8 : sdB 8 = .block 0 (.loop (loopB 0 (bodyOf (fnOf Tryz.prog 25)))) := by kernel_rfl
theorem sd_loop : seqs (loopB 0 (bodyOf (fnOf Tryz.prog 25))) = [sdL 0, sdL 1, sdL 2, sdL 3] := by kernel_rfl
theorem sd_l1 : sdL 1 = .cond (.tmp 38) .skip (.exit 0) := by kernel_rfl
theorem sd_l2 : sdL 2 = .block 1 (rIn (sdL 2)) := by kernel_rfl
theorem sd_in : seqs (rIn (sdL 2)) = [sdI 0, sdI 1, sdI 2, sdI 3, sdI 4, sdI 5, sdI 6, sdI 7, sdI 8, sdI 9] := by kernel_rfl
theorem sd_i9 : sdI 9 = .region 18 (rOps (sdI 9)) false := by kernel_rfl
theorem sc_body : (fnOf Tryz.prog 45).body = some (.seq (scB 0) (.seq (scB 1) (scB 2))) := by kernel_rfl
theorem sc_0 : scB 0 = .region 0 (rOps (scB 0)) false := by kernel_rfl
theorem sc_1 : scB 1 = .region 1 (rOps (scB 1)) false := by kernel_rfl
theorem sc_2 : scB 2 = .cond (.tmp 11) (rThen (scB 2)) .skip := by kernel_rfl
theorem sc_2r : rThen (scB 2) = .region 2 (rOps (rThen (scB 2))) false := by kernel_rfl
theorem sc_n : (fnOf Tryz.prog 45).ntmps = 14 := by kernel_rfl
theorem sc_res : (fnOf Tryz.prog 45).results = #[] := by kernel_rfl
theorem sc_f : Tryz.prog.funcs[45]? = some (fnOf Tryz.prog 45) := fnOf_eq (by kernel_rfl)
theorem sd_n : (fnOf Tryz.prog 25).ntmps = 93 := by kernel_rfl
end Go.Ev.Z
/- What is sent: the closure that recovers. -/
set_option linter.unusedVariables false
set_option linter.unusedSimpArgs false
namespace Go.Ev.Z
open Go.Proofs Go.Conc
theorem ta_some (n : Int) (w : World) : (Instr.typeAssert (noV n) 20 43 true).run Tryz.prog w = .ok (.tuple #[.int .i64 n, .bool true]) w := by kernel_rfl
theorem ta_none (w : World) : (Instr.typeAssert .nilIface 20 43 true).run Tryz.prog w = .ok (.tuple #[.int .i64 0, .bool false]) w := by kernel_rfl
abbrev ScS := Unit × (DMrl × DHello × DRules × DMrl × List (List UInt8) × Int × Unit)
def scOut (x : ScS) (n : Int) : Bxs := [(4, false, .var gBox x.2.1), (5, false, .var gHello x.2.2.1), (7, false, .var gRules x.2.2.2.1), (8, true, .var gBox x.2.1), (9, true, .var (.sl .str) []), (10, true, .var (.int .i64) n)]
theorem run_move {P : Program} {ρ : Operand → Value} {o : Oper} {x : Operand} {w : World} (hop : o.op = .move x ∨ o.op = .assign x) : (execOp ρ o).run P w = .ok (.value (ρ x)) w := by
  unfold execOp
  rcases hop with hop | hop <;> rw [hop] <;> rfl
theorem run_extract {P : Program} {ρ : Operand → Value} {o : Oper} {x : Operand} {j : Nat} {vs : Array Value} {v : Value} {w : World} (hop : o.op = .extract x j) (hx : ρ x = .tuple vs) (hv : vs[j]? = some v) : (execOp ρ o).run P w = .ok (.value v) w := by
  unfold execOp
  rw [hop]
  simp [hx, hv, Instr.extract]
theorem sc_assert {ρ : Operand → Value} {v : Value} {u : Value} {w : World} (hx : ρ (.tmp 7) = v) (h : (Instr.typeAssert v 20 43 true).run Tryz.prog w = .ok u w) : (execOp ρ (rOp (scB 0) 1)).run Tryz.prog w = .ok (.value u) w := by
  unfold execOp
  rw [show (rOp (scB 0) 1).op = .typeAssert (.tmp 7) 20 43 true by kernel_rfl]
  simp only [hx]
  exact maybe_run h
theorem sc_c1 : (rOp (scB 0) 2).op = .move (.tmp 8) := by kernel_rfl
theorem sc_c2 : (rOp (scB 0) 3).op = .extract (.tmp 6) 0 := by kernel_rfl
theorem sc_c3 : (rOp (scB 0) 4).op = .extract (.tmp 6) 1 := by kernel_rfl
theorem sc_c4 : (rOp (scB 0) 5).op = .assign (.tmp 9) := by kernel_rfl
theorem sc_c5 : (rOp (scB 0) 6).op = .assign (.tmp 10) := by kernel_rfl
theorem sc_c6 : (rOp (scB 1) 0).op = .move (.tmp 5) := by kernel_rfl
theorem sc_none (tmps : Array Value) (w : World) : (results (fnOf Tryz.prog 45) tmps).run Tryz.prog w = .ok (.tuple #[]) w := by
  simp [results, sc_res]
theorem sc_2l : (rOps (rThen (scB 2))).toList = [rOp (rThen (scB 2)) 0, rOp (rThen (scB 2)) 1, rOp (rThen (scB 2)) 2, rOp (rThen (scB 2)) 3, rOp (rThen (scB 2)) 4] := by kernel_rfl
attribute [local irreducible] fnOf bodyOf
theorem sc_head {u4 u8 u9 u10 v : Value} {t : Bool} {n : Int} {w : World} {Q : Exit → Act → List Frame → World → Prop} {cs cs' : List Frame} (hta : (Instr.typeAssert v 20 43 true).run Tryz.prog w = .ok (.tuple #[.int .i64 n, .bool t]) w)
    (hrec : recoverD cs = some (v, cs') ∨ (recoverD cs = none ∧ v = .nilIface ∧ cs' = cs))
    (hnext : ∀ a : Act, a.tmps.size = 14 → a.defers = [] → a.tmps.getD 0 undef = u4 → a.tmps.getD 1 undef = u8 → a.tmps.getD 2 undef = u9 → a.tmps.getD 3 undef = u10 → a.tmps.getD 4 undef = .int .i64 n → a.tmps.getD 11 undef = .bool t → (scB 2).wpS Tryz.prog Q a cs' w) :
    (Code.seq (scB 0) (.seq (scB 1) (scB 2))).wpS Tryz.prog Q { tmps := #[u4, u8, u9, u10] ++ Array.replicate 10 undef, defers := [] } cs w := by
  refine wpS_seq ?_
  rw [sc_0]
  refine wpS_region ?_
  rw [show List.range (rOps (scB 0)).size = [0, 1, 2, 3, 4, 5, 6] by kernel_rfl]
  have key : wpOpsS Tryz.prog (rOps (scB 0)) (Exit.thenS ((Code.seq (scB 1) (scB 2)).wpS Tryz.prog Q) Q) [1, 2, 3, 4, 5, 6] (({ tmps := #[u4, u8, u9, u10] ++ Array.replicate 10 undef, defers := [] } : Act).put (some 7) v) cs' w := by
    refine opsS_value (o := rOp (scB 0) 1) (v := .tuple #[.int .i64 n, .bool t]) (w' := w) (by kernel_rfl) (by kernel_rfl) (sc_assert (v := v) (by simp [Act.put, Act.eval]) hta) ?_
    rw [show (rOp (scB 0) 1).dst = some 8 by kernel_rfl]
    refine opsS_value (o := rOp (scB 0) 2) (w' := w) (by kernel_rfl) (by kernel_rfl) (run_move (.inl sc_c1)) ?_
    rw [show (rOp (scB 0) 2).dst = some 6 by kernel_rfl]
    refine opsS_value (o := rOp (scB 0) 3) (v := .int .i64 n) (w' := w) (by kernel_rfl) (by kernel_rfl) (run_extract (vs := #[.int .i64 n, .bool t]) sc_c2 (by simp [Act.put, Act.eval]) rfl) ?_
    rw [show (rOp (scB 0) 3).dst = some 9 by kernel_rfl]
    refine opsS_value (o := rOp (scB 0) 4) (v := .bool t) (w' := w) (by kernel_rfl) (by kernel_rfl) (run_extract (vs := #[.int .i64 n, .bool t]) sc_c3 (by simp [Act.put, Act.eval]) rfl) ?_
    rw [show (rOp (scB 0) 4).dst = some 10 by kernel_rfl]
    refine opsS_value (o := rOp (scB 0) 5) (w' := w) (by kernel_rfl) (by kernel_rfl) (run_move (.inr sc_c4)) ?_
    rw [show (rOp (scB 0) 5).dst = some 4 by kernel_rfl]
    refine opsS_value (o := rOp (scB 0) 6) (w' := w) (by kernel_rfl) (by kernel_rfl) (run_move (.inr sc_c5)) ?_
    rw [show (rOp (scB 0) 6).dst = some 5 by kernel_rfl]
    show (Code.seq (scB 1) (scB 2)).wpS Tryz.prog Q _ cs' w
    refine wpS_seq ?_
    rw [sc_1]
    refine wpS_region ?_
    rw [show List.range (rOps (scB 1)).size = [0] by kernel_rfl]
    refine opsS_value (o := rOp (scB 1) 0) (w' := w) (by kernel_rfl) (by kernel_rfl) (run_move (.inl sc_c6)) ?_
    rw [show (rOp (scB 1) 0).dst = some 11 by kernel_rfl]
    show (scB 2).wpS Tryz.prog Q _ cs' w
    refine hnext _ ?_ ?_ ?_ ?_ ?_ ?_ ?_ ?_ <;> simp [Act.put, Act.eval]
  rcases hrec with hrec | ⟨hrec, rfl, rfl⟩
  · refine opsS_recover (o := rOp (scB 0) 0) (by kernel_rfl) (by kernel_rfl) (by kernel_rfl) hrec ?_
    rw [show (rOp (scB 0) 0).dst = some 7 by kernel_rfl]
    exact key
  · refine opsS_idle (o := rOp (scB 0) 0) (by kernel_rfl) (by kernel_rfl) (by kernel_rfl) hrec ?_
    rw [show (rOp (scB 0) 0).dst = some 7 by kernel_rfl]
    exact key
theorem sc_idle {u4 u8 u9 u10 : Value} (w : World) :
    CallsD Tryz.prog 45 #[u4, u8, u9, u10] .returning w fun e u' w' => (∃ v, e = .returned v) ∧ u' = .returning ∧ w' = w := by
  refine callsD_of_wpS sc_f sc_body fun c₀ cs hu => ?_
  rw [sc_n]
  refine sc_head (v := .nilIface) (t := false) (n := 0) (u4 := u4) (u8 := u8) (u9 := u9) (u10 := u10) (ta_none w) (.inr ⟨by simp [recoverD, hu], rfl, rfl⟩) fun a hs hd _ _ _ _ _ h11 => ?_
  rw [sc_2]
  refine wpS_cond (t := false) h11 ?_
  rw [if_neg (by simp)]
  refine wpS_of_wp (wp_skip ?_)
  exact ⟨hd, .returning, by rw [← hu], .tuple #[], sc_none _ _, ⟨_, rfl⟩, rfl, rfl⟩
theorem sc_catch {R : Ref} {M : Mem} {x : ScS} {u4 u8 u9 u10 : Value} {n : Int} (hn : IntKind.i64.has n) (I : InvM R M) (hb : M.bs = (mkS sdTf sdMf x).boxes) (h4 : RelV M (.ptr 4 gBox []) u4) (h8 : RelV M (.ptr 8 gBox []) u8) (h9 : RelV M (.ptr 9 (.sl .str) []) u9) (h10 : RelV M (.ptr 10 (.int .i64) []) u10) :
    CallsD Tryz.prog 45 #[u4, u8, u9, u10] (.panicking [{ v := noV n, recovered := false }]) M.w fun e u' w' => (∃ v, e = .returned v) ∧ u' = .panicking [{ v := noV n, recovered := true }] ∧ ∃ M', M'.w = w' ∧ InvM R M' ∧ Step M M' (fun _ => False) ∧ M'.bs = scOut x n := by
  refine callsD_of_wpS sc_f sc_body fun c₀ cs hu => ?_
  rw [sc_n]
  have hrec : recoverD (c₀ :: cs) = some (noV n, { c₀ with mode := .panicking [{ v := noV n, recovered := true }] } :: cs) := by simp [recoverD, hu, noV]
  refine sc_head (v := noV n) (t := true) (n := n) (u4 := u4) (u8 := u8) (u9 := u9) (u10 := u10) (ta_some n M.w) (.inl hrec) fun a hs hd t0 t1 t2 t3 t4 h11 => ?_
  rw [sc_2]
  refine wpS_cond (t := true) h11 ?_
  rw [if_pos rfl]
  refine wpS_of_wp ?_
  rw [sc_2r]
  refine wp_region ?_
  rw [List.range_eq_range', show (rOps (rThen (scB 2))).size = [rOp (rThen (scB 2)) 0, rOp (rThen (scB 2)) 1, rOp (rThen (scB 2)) 2, rOp (rThen (scB 2)) 3, rOp (rThen (scB 2)) 4].length by kernel_rfl]
  have key : ((runOpsC (mkC tys [] []) [rOp (rThen (scB 2)) 0, rOp (rThen (scB 2)) 1, rOp (rThen (scB 2)) 2, rOp (rThen (scB 2)) 3, rOp (rThen (scB 2)) 4] { tmps := [(0, .ptr 4 gBox []), (1, .ptr 8 gBox []), (2, .ptr 9 (.sl .str) []), (3, .ptr 10 (.int .i64) []), (4, .val (.int .i64) n)], boxes := (mkS sdTf sdMf x).boxes }).bind fun s => Tree.leaf s.boxes).holds (fun y => y = scOut x n) := by
    have k2 : ((runOpsC (mkC tys [] []) [rOp (rThen (scB 2)) 0, rOp (rThen (scB 2)) 1, rOp (rThen (scB 2)) 2, rOp (rThen (scB 2)) 3, rOp (rThen (scB 2)) 4] { tmps := [(0, .ptr 4 gBox []), (1, .ptr 8 gBox []), (2, .ptr 9 (.sl .str) []), (3, .ptr 10 (.int .i64) []), (4, .val (.int .i64) n)], boxes := (mkS sdTf sdMf x).boxes }).bind fun s => Tree.leaf s.boxes) = _ := congrFun sc2_tree (n, x)
    exact (congrArg (Tree.holds _) k2).mpr rfl
  refine runOpsC_wp (C := mkC tys [] []) tysOK ctrs_nil (M0 := M) (R := R) [rOp (rThen (scB 2)) 0, rOp (rThen (scB 2)) 1, rOp (rThen (scB 2)) 2, rOp (rThen (scB 2)) 3, rOp (rThen (scB 2)) 4] 0 { tmps := [(0, .ptr 4 gBox []), (1, .ptr 8 gBox []), (2, .ptr 9 (.sl .str) []), (3, .ptr 10 (.int .i64) []), (4, .val (.int .i64) n)], boxes := (mkS sdTf sdMf x).boxes } a M _ (fun i o hi => ?_) (fun o ho => ?_) hb I (fun t => ?_) (Step.refl M _) (holds_bind.1 key) ?_
  · rw [Nat.zero_add, ← Array.getElem?_toList, sc_2l]; exact hi
  · have := farO_all (n := 14) (ds := []) (l := [rOp (rThen (scB 2)) 0, rOp (rThen (scB 2)) 1, rOp (rThen (scB 2)) 2, rOp (rThen (scB 2)) 3, rOp (rThen (scB 2)) 4]) (by kernel_rfl) o ho
    exact ⟨this.1, fun d hd => by rw [hs]; exact this.2 d hd⟩
  · match t with
    | 0 => rw [t0]; exact h4
    | 1 => rw [t1]; exact h8
    | 2 => rw [t2]; exact h9
    | 3 => rw [t3]; exact h10
    | 4 =>
      rw [t4]
      show RelV M (.val (.int .i64) n) _
      simp only [RelV]
      exact ⟨[.int .i64 n], ⟨rfl, hn⟩, rfl⟩
    | t + 5 =>
      show RelV M .undef _
      simp [RelV]
  · intro s' a' M' hF hb' I' hr' hst hdef
    refine ⟨hdef.trans hd, _, rfl, .tuple #[], sc_none _ _, ⟨_, rfl⟩, rfl, M', rfl, I', hst, hb'.trans hF⟩
end Go.Ev.Z
/- What is sent: a round of the loop. -/
set_option linter.unusedVariables false
set_option linter.unusedSimpArgs false
namespace Go.Ev.Z
open Go.Proofs Go.Conc
attribute [local irreducible] fnOf bodyOf
def sentB (pcs : List (List DItem)) (h : DHello) (n i : Int) : List UInt8 := frPart (h.1, h.2, n, decide (i < (pcs.length : Int) - 1), pcs.getD i.toNat [])
structure SendOk (pcs : List (List DItem)) (h : DHello) (r : DRules) (out : DMrl) (i : Int) : Prop where
  part : PartIn (h.1, h.2, out.1, decide (i < (pcs.length : Int) - 1), pcs.getD i.toNat [])
  next : nextS out.1 = (out.1 + 1, 0)
  add : ∀ s, addF out.2.1 out.1 s r = (out.2.1 ++ [(out.1, s, 1, r.2.2.1)], 0)
theorem sd_round_n {R0 : Ref} {b : Frame} {Q : Exit → Act → World → Prop} {k e : Nat} {pcs : List (List DItem)} {b0 out : DMrl} {h : DHello} {r : DRules} {i : Int} {u4 u8 u10 : Value} {D : List Deferred} {a : Act} {w : World} (h0 : 0 ≤ i) (h1 : i ≤ pcs.length) (hlen : pcs.length ≤ 1000)
    (hgood : i < pcs.length → SendOk pcs h r out i)
    (hk : Kv R0 k #[.slice none 0 0] e 93 [(9, .pointer (some ⟨k, 0, none⟩)), (4, u4), (8, u8), (10, u10)] (mkS sdTn sdM1 ((pcs, pcs, (pcs.length : Int), i, ()), (b0, h, r, out, 0, ()))) a w D)
    (hgo : i < pcs.length → ∀ a' w' v', Kv R0 k #[v'] e 93 [(89, v'), (9, .pointer (some ⟨k, 0, none⟩)), (4, u4), (8, u8), (10, u10)] (mkS sdTt sdMt ((pcs, pcs, (pcs.length : Int), i + 1, ()), (b0, h, r, (out.1 + 1, out.2.1 ++ [(out.1, sentB pcs h out.1 i, 1, r.2.2.1)], out.2.2), 0, [] ++ [sentB pcs h out.1 i], ()))) a' w' D → Q .normal a' w')
    (hend : ¬ i < pcs.length → ∀ a' w', Kv R0 k #[.slice none 0 0] e 93 [(9, .pointer (some ⟨k, 0, none⟩)), (4, u4), (8, u8), (10, u10)] (mkS sdTn sdM1 ((pcs, pcs, (pcs.length : Int), i, ()), (b0, h, r, out, 0, ()))) a' w' D → Q (.exit 0) a' w') : CodeTo Tryz.prog b (loopB 0 (bodyOf (fnOf Tryz.prog 25))) Q a w := by
  refine CodeTo.seqs ?_
  rw [sd_loop]
  show LTo Tryz.prog b ([sdL 0] ++ [sdL 1, sdL 2, sdL 3]) _ a w
  refine hk.ends (C := mkC tys [] []) tysOK ctrs_nil mixed (dsOK_nil rfl) (ts := sdTn ++ [(38, .val .bool)]) (bs := sdM1) (G := fun z => z = (.normal, some ((pcs, pcs, (pcs.length : Int), i, decide (i < pcs.length), ()), (b0, h, r, out, 0, ())))) (by kernel_rfl) (by kernel_rfl) ?_ ?_ (fun z h => by cases h)
  · have k8 : endT (mkC tys [] []) (sdTn ++ [(38, .val .bool)]) sdM1 [sdL 0] (mkS sdTn sdM1 ((pcs, pcs, (pcs.length : Int), i, ()), (b0, h, r, out, 0, ()))) = _ := congrFun sdl0n_tree ((pcs, pcs, (pcs.length : Int), i, ()), (b0, h, r, out, 0, ()))
    exact (congrArg (Tree.holds _) k8).mpr rfl
  · intro z x a1 w1 hz k1
    have hz1 := (Prod.mk.inj hz).1
    have hz2 := Option.some.inj (Prod.mk.inj hz).2
    subst hz1 hz2
    show LTo Tryz.prog b [sdL 1, sdL 2, sdL 3] _ a1 w1
    refine LTo.cons ?_
    rw [sd_l1]
    refine CodeTo.cond (t := decide (i < pcs.length)) (k1.old.bool rfl) ?_
    have k2 := k1.restr (L := { prom := [], keep := sdTn.map (·.1), boxes := sdM1.map (·.1), sum := fun _ => .stuck }) (s' := mkS sdTn sdM1 ((pcs, pcs, (pcs.length : Int), i, ()), (b0, h, r, out, 0, ()))) (by kernel_rfl)
    cases hlt : decide (i < pcs.length) with
    | false =>
      rw [if_neg (by simp)]
      refine CodeTo.exit ?_
      exact hend (of_decide_eq_false hlt) a1 w1 k2
    | true =>
      have hlt' := of_decide_eq_true hlt
      obtain ⟨g1, g2, g3⟩ := hgood hlt'
      have g4 := fpart_in g1
      rw [if_pos rfl]
      refine CodeTo.skip ?_
      refine LTo.cons ?_
      rw [sd_l2]
      refine CodeTo.block ?_
      refine CodeTo.seqs ?_
      rw [sd_in]
      show LTo Tryz.prog b ([sdI 0, sdI 1, sdI 2, sdI 3, sdI 4, sdI 5, sdI 6, sdI 7, sdI 8] ++ [sdI 9]) _ a1 w1
      refine k2.ends (C := mkC tys sendG [] false sendK) tysOK sendG_ok mixed sendK_ok (ts := sdTn ++ [(18, .val .str)]) (bs := sdM1) (G := fun z => z = (.normal, some ((pcs, pcs, (pcs.length : Int), i, sentB pcs h out.1 i, ()), (b0, h, r, (out.1 + 1, out.2.1 ++ [(out.1, sentB pcs h out.1 i, 1, r.2.2.1)], out.2.2), 0, ())))) (by kernel_rfl) (by kernel_rfl) ?_ ?_ (fun z h => by cases h)
      · have k8 : endT (mkC tys sendG [] false sendK) (sdTn ++ [(18, .val .str)]) sdM1 [sdI 0, sdI 1, sdI 2, sdI 3, sdI 4, sdI 5, sdI 6, sdI 7, sdI 8] (mkS sdTn sdM1 ((pcs, pcs, (pcs.length : Int), i, ()), (b0, h, r, out, 0, ()))) = _ := congrFun sdin_tree ((pcs, pcs, (pcs.length : Int), i, ()), (b0, h, r, out, 0, ()))
        refine (congrArg (Tree.holds _) k8).mpr ?_
        have hw1 : IntKind.i64.wrap ((pcs.length : Int) - 1) = (pcs.length : Int) - 1 := i64_id (by omega) (by omega)
        simp only [Tree.holds, hw1, g2, g4, g3]
        exact ⟨⟨h0, hlt'⟩, trivial, (fun h => by cases h), fun _ => ⟨⟨trivial, rfl⟩, trivial, (fun h => by cases h), fun _ => ⟨⟨trivial, rfl⟩, trivial, (fun h => by cases h), fun _ => ⟨⟨trivial, rfl⟩, rfl⟩⟩⟩⟩
      · intro z x a2 w2 hz k3
        have hz1 := (Prod.mk.inj hz).1
        have hz2 := Option.some.inj (Prod.mk.inj hz).2
        subst hz1 hz2
        show LTo Tryz.prog b [sdI 9] _ a2 w2
        refine LTo.cons ?_
        rw [sd_i9]
        refine CodeTo.region ?_
        rw [show List.range (rOps (sdI 9)).size = 0 :: ([1, 2, 3] ++ [4]) by kernel_rfl]
        refine Kv.load (τ := tys) (T := 42) (off := 0) (o := rOp (sdI 9) 0) (x := .tmp 9) (d := 86) (ti := ⟨.sl .str, _, _, _⟩) (v := .slice none 0 0) k3 (tysOK _ _ rfl) rfl (by kernel_rfl) (by kernel_rfl) (by kernel_rfl) (by kernel_rfl) (k3.slots (9, .pointer (some ⟨k, 0, none⟩)) (by simp)) rfl ?_
        have k4 := k3.known (k := 86) (v := .slice none 0 0) (av := .cst (.slice none 0 0)) (fun M => by simp [RelV]) (by omega) (by simp)
        have k5 := k4.rows (l := [(86, 89, 9, .str)]) (L := { prom := [], keep := sdT3.map (·.1), boxes := sdMt.map (·.1), sum := fun _ => .stuck }) (s' := mkS sdT3 sdMt ((pcs, pcs, (pcs.length : Int), i, sentB pcs h out.1 i, ()), (b0, h, r, (out.1 + 1, out.2.1 ++ [(out.1, sentB pcs h out.1 i, 1, r.2.2.1)], out.2.2), 0, [], ()))) (by kernel_rfl)
        generalize a2.put (some 86) (.slice none 0 0) = a3 at k5 ⊢
        refine k5.opsL (C := mkC tys [] []) tysOK ctrs_nil (ts := sdTt) (bs := sdMt) (G := fun z => z = some ((pcs, pcs, (pcs.length : Int), i, ()), (b0, h, r, (out.1 + 1, out.2.1 ++ [(out.1, sentB pcs h out.1 i, 1, r.2.2.1)], out.2.2), 0, [] ++ [sentB pcs h out.1 i], ()))) [1, 2, 3] (by kernel_rfl) (by kernel_rfl) ?_ ?_ (fun h => by cases h)
        · have k8 : opsT (mkC tys [] []) sdTt sdMt [rOp (sdI 9) 1, rOp (sdI 9) 2, rOp (sdI 9) 3] (mkS sdT3 sdMt ((pcs, pcs, (pcs.length : Int), i, sentB pcs h out.1 i, ()), (b0, h, r, (out.1 + 1, out.2.1 ++ [(out.1, sentB pcs h out.1 i, 1, r.2.2.1)], out.2.2), 0, [], ()))) = _ := congrFun sdi9_tree ((pcs, pcs, (pcs.length : Int), i, sentB pcs h out.1 i, ()), (b0, h, r, (out.1 + 1, out.2.1 ++ [(out.1, sentB pcs h out.1 i, 1, r.2.2.1)], out.2.2), 0, [], ()))
          refine (congrArg (Tree.holds _) k8).mpr ⟨?_, rfl⟩
          show (([] : List (List UInt8)).length + 1) * 16 ≤ 140737488355328
          simp
        · intro z a4 w4 hz k6
          have hz' := Option.some.inj hz
          subst hz'
          obtain ⟨ad, m, cap, e89⟩ := k6.tip_slice (t := 89) (c := 89) (e := 9) (d := false) (fz := false) (g := .str) (xs := [] ++ [sentB pcs h out.1 i]) rfl (by kernel_rfl)
          have k7 := k6.hold (t := 89)
          rw [e89] at k7
          refine Kv.store (τ := tys) (T := 42) (off := 0) (o := rOp (sdI 9) 4) (x := .tmp 9) (y := .tmp 89) (ti := ⟨.sl .str, _, _, _⟩) (v := .slice ad m cap) k7 (tysOK _ _ rfl) rfl (by kernel_rfl) (by kernel_rfl) (by kernel_rfl) (k7.slots (9, .pointer (some ⟨k, 0, none⟩)) (by simp)) (k7.slots (89, .slice ad m cap) (by simp)) rfl rfl (by simp) (by kernel_rfl) fun w5 k8 => ?_
          refine RegTo.nil ?_
          rw [show (#[.slice none 0 0] : Array Value).set! 0 (.slice ad m cap) = #[.slice ad m cap] from rfl] at k8
          show LTo Tryz.prog b ([sdL 3] ++ []) _ a4 w5
          refine k8.ends (C := mkC tys [] []) tysOK ctrs_nil mixed (dsOK_nil rfl) (ts := sdTt) (bs := sdMt) (G := fun z => z = (.normal, some ((pcs, pcs, (pcs.length : Int), i + 1, ()), (b0, h, r, (out.1 + 1, out.2.1 ++ [(out.1, sentB pcs h out.1 i, 1, r.2.2.1)], out.2.2), 0, [] ++ [sentB pcs h out.1 i], ())))) (by kernel_rfl) (by kernel_rfl) ?_ ?_ (fun z h => by cases h)
          · have k9 : endT (mkC tys [] []) sdTt sdMt [sdL 3] (mkS sdTt sdMt ((pcs, pcs, (pcs.length : Int), i, ()), (b0, h, r, (out.1 + 1, out.2.1 ++ [(out.1, sentB pcs h out.1 i, 1, r.2.2.1)], out.2.2), 0, [] ++ [sentB pcs h out.1 i], ()))) = _ := congrFun sdl3_tree ((pcs, pcs, (pcs.length : Int), i, ()), (b0, h, r, (out.1 + 1, out.2.1 ++ [(out.1, sentB pcs h out.1 i, 1, r.2.2.1)], out.2.2), 0, [] ++ [sentB pcs h out.1 i], ()))
            refine (congrArg (Tree.holds _) k9).mpr ?_
            show (Ex.normal, some ((pcs, pcs, (pcs.length : Int), IntKind.i64.wrap (i + 1), ()), (b0, h, r, (out.1 + 1, out.2.1 ++ [(out.1, sentB pcs h out.1 i, 1, r.2.2.1)], out.2.2), (0 : Int), [] ++ [sentB pcs h out.1 i], ()))) = _
            rw [i64_id (n := i + 1) (by omega) (by omega)]
            rfl
          · intro z x a6 w6 hz k10
            have hz1 := (Prod.mk.inj hz).1
            have hz2 := Option.some.inj (Prod.mk.inj hz).2
            subst hz1 hz2
            exact hgo hlt' a6 w6 _ k10
theorem sd_round_t {R0 : Ref} {b : Frame} {Q : Exit → Act → World → Prop} {k e : Nat} {pcs : List (List DItem)} {b0 out : DMrl} {h : DHello} {r : DRules} {i : Int} {u4 u8 u10 : Value} {v : Value} {xs : List (List UInt8)} {D : List Deferred} {a : Act} {w : World} (h0 : 0 ≤ i) (h1 : i ≤ pcs.length) (hlen : pcs.length ≤ 1000) (hxs : xs.length ≤ 1000)
    (hgood : i < pcs.length → SendOk pcs h r out i)
    (hk : Kv R0 k #[v] e 93 [(89, v), (9, .pointer (some ⟨k, 0, none⟩)), (4, u4), (8, u8), (10, u10)] (mkS sdTt sdMt ((pcs, pcs, (pcs.length : Int), i, ()), (b0, h, r, out, 0, xs, ()))) a w D)
    (hgo : i < pcs.length → ∀ a' w' v', Kv R0 k #[v'] e 93 [(89, v'), (9, .pointer (some ⟨k, 0, none⟩)), (4, u4), (8, u8), (10, u10)] (mkS sdTt sdMt ((pcs, pcs, (pcs.length : Int), i + 1, ()), (b0, h, r, (out.1 + 1, out.2.1 ++ [(out.1, sentB pcs h out.1 i, 1, r.2.2.1)], out.2.2), 0, xs ++ [sentB pcs h out.1 i], ()))) a' w' D → Q .normal a' w')
    (hend : ¬ i < pcs.length → ∀ a' w', Kv R0 k #[v] e 93 [(89, v), (9, .pointer (some ⟨k, 0, none⟩)), (4, u4), (8, u8), (10, u10)] (mkS sdTt sdMt ((pcs, pcs, (pcs.length : Int), i, ()), (b0, h, r, out, 0, xs, ()))) a' w' D → Q (.exit 0) a' w') : CodeTo Tryz.prog b (loopB 0 (bodyOf (fnOf Tryz.prog 25))) Q a w := by
  refine CodeTo.seqs ?_
  rw [sd_loop]
  show LTo Tryz.prog b ([sdL 0] ++ [sdL 1, sdL 2, sdL 3]) _ a w
  refine hk.ends (C := mkC tys [] []) tysOK ctrs_nil mixed (dsOK_nil rfl) (ts := sdTt ++ [(38, .val .bool)]) (bs := sdMt) (G := fun z => z = (.normal, some ((pcs, pcs, (pcs.length : Int), i, decide (i < pcs.length), ()), (b0, h, r, out, 0, xs, ())))) (by kernel_rfl) (by kernel_rfl) ?_ ?_ (fun z h => by cases h)
  · have k8 : endT (mkC tys [] []) (sdTt ++ [(38, .val .bool)]) sdMt [sdL 0] (mkS sdTt sdMt ((pcs, pcs, (pcs.length : Int), i, ()), (b0, h, r, out, 0, xs, ()))) = _ := congrFun sdl0t_tree ((pcs, pcs, (pcs.length : Int), i, ()), (b0, h, r, out, 0, xs, ()))
    exact (congrArg (Tree.holds _) k8).mpr rfl
  · intro z x a1 w1 hz k1
    have hz1 := (Prod.mk.inj hz).1
    have hz2 := Option.some.inj (Prod.mk.inj hz).2
    subst hz1 hz2
    show LTo Tryz.prog b [sdL 1, sdL 2, sdL 3] _ a1 w1
    refine LTo.cons ?_
    rw [sd_l1]
    refine CodeTo.cond (t := decide (i < pcs.length)) (k1.old.bool rfl) ?_
    have k2 := k1.restr (L := { prom := [], keep := sdTt.map (·.1), boxes := sdMt.map (·.1), sum := fun _ => .stuck }) (s' := mkS sdTt sdMt ((pcs, pcs, (pcs.length : Int), i, ()), (b0, h, r, out, 0, xs, ()))) (by kernel_rfl)
    cases hlt : decide (i < pcs.length) with
    | false =>
      rw [if_neg (by simp)]
      refine CodeTo.exit ?_
      exact hend (of_decide_eq_false hlt) a1 w1 k2
    | true =>
      have hlt' := of_decide_eq_true hlt
      obtain ⟨g1, g2, g3⟩ := hgood hlt'
      have g4 := fpart_in g1
      rw [if_pos rfl]
      refine CodeTo.skip ?_
      refine LTo.cons ?_
      rw [sd_l2]
      refine CodeTo.block ?_
      refine CodeTo.seqs ?_
      rw [sd_in]
      show LTo Tryz.prog b ([sdI 0, sdI 1, sdI 2, sdI 3, sdI 4, sdI 5, sdI 6, sdI 7, sdI 8] ++ [sdI 9]) _ a1 w1
      refine k2.ends (C := mkC tys sendG [] false sendK) tysOK sendG_ok mixed sendK_ok (ts := sdTt ++ [(18, .val .str)]) (bs := sdMt) (G := fun z => z = (.normal, some ((pcs, pcs, (pcs.length : Int), i, sentB pcs h out.1 i, ()), (b0, h, r, (out.1 + 1, out.2.1 ++ [(out.1, sentB pcs h out.1 i, 1, r.2.2.1)], out.2.2), 0, xs, ())))) (by kernel_rfl) (by kernel_rfl) ?_ ?_ (fun z h => by cases h)
      · have k8 : endT (mkC tys sendG [] false sendK) (sdTt ++ [(18, .val .str)]) sdMt [sdI 0, sdI 1, sdI 2, sdI 3, sdI 4, sdI 5, sdI 6, sdI 7, sdI 8] (mkS sdTt sdMt ((pcs, pcs, (pcs.length : Int), i, ()), (b0, h, r, out, 0, xs, ()))) = _ := congrFun sdit_tree ((pcs, pcs, (pcs.length : Int), i, ()), (b0, h, r, out, 0, xs, ()))
        refine (congrArg (Tree.holds _) k8).mpr ?_
        have hw1 : IntKind.i64.wrap ((pcs.length : Int) - 1) = (pcs.length : Int) - 1 := i64_id (by omega) (by omega)
        simp only [Tree.holds, hw1, g2, g4, g3]
        exact ⟨⟨h0, hlt'⟩, trivial, (fun h => by cases h), fun _ => ⟨⟨trivial, rfl⟩, trivial, (fun h => by cases h), fun _ => ⟨⟨trivial, rfl⟩, trivial, (fun h => by cases h), fun _ => ⟨⟨trivial, rfl⟩, rfl⟩⟩⟩⟩
      · intro z x a2 w2 hz k3
        have hz1 := (Prod.mk.inj hz).1
        have hz2 := Option.some.inj (Prod.mk.inj hz).2
        subst hz1 hz2
        show LTo Tryz.prog b [sdI 9] _ a2 w2
        refine LTo.cons ?_
        rw [sd_i9]
        refine CodeTo.region ?_
        rw [show List.range (rOps (sdI 9)).size = 0 :: ([1, 2, 3] ++ [4]) by kernel_rfl]
        refine Kv.load (τ := tys) (T := 42) (off := 0) (o := rOp (sdI 9) 0) (x := .tmp 9) (d := 86) (ti := ⟨.sl .str, _, _, _⟩) (v := v) k3 (tysOK _ _ rfl) rfl (by kernel_rfl) (by kernel_rfl) (by kernel_rfl) (by kernel_rfl) (k3.slots (9, .pointer (some ⟨k, 0, none⟩)) (by simp)) rfl ?_
        have k4 := (k3.copy (d := 86) (t := 89) (v := v) (k3.slots (89, v) (by simp)) (by omega) (by simp)).less (sl' := [(9, .pointer (some ⟨k, 0, none⟩)), (4, u4), (8, u8), (10, u10)]) (fun p hp => by simp at hp ⊢; simp [hp])
        have k5 := k4.restr (L := { prom := [], keep := sdT3.map (·.1), boxes := sdMt.map (·.1), sum := fun _ => .stuck }) (s' := mkS sdT3 sdMt ((pcs, pcs, (pcs.length : Int), i, sentB pcs h out.1 i, ()), (b0, h, r, (out.1 + 1, out.2.1 ++ [(out.1, sentB pcs h out.1 i, 1, r.2.2.1)], out.2.2), 0, xs, ()))) (by kernel_rfl)
        generalize a2.put (some 86) (v) = a3 at k5 ⊢
        refine k5.opsL (C := mkC tys [] []) tysOK ctrs_nil (ts := sdTt) (bs := sdMt) (G := fun z => z = some ((pcs, pcs, (pcs.length : Int), i, ()), (b0, h, r, (out.1 + 1, out.2.1 ++ [(out.1, sentB pcs h out.1 i, 1, r.2.2.1)], out.2.2), 0, xs ++ [sentB pcs h out.1 i], ()))) [1, 2, 3] (by kernel_rfl) (by kernel_rfl) ?_ ?_ (fun h => by cases h)
        · have k8 : opsT (mkC tys [] []) sdTt sdMt [rOp (sdI 9) 1, rOp (sdI 9) 2, rOp (sdI 9) 3] (mkS sdT3 sdMt ((pcs, pcs, (pcs.length : Int), i, sentB pcs h out.1 i, ()), (b0, h, r, (out.1 + 1, out.2.1 ++ [(out.1, sentB pcs h out.1 i, 1, r.2.2.1)], out.2.2), 0, xs, ()))) = _ := congrFun sdi9_tree ((pcs, pcs, (pcs.length : Int), i, sentB pcs h out.1 i, ()), (b0, h, r, (out.1 + 1, out.2.1 ++ [(out.1, sentB pcs h out.1 i, 1, r.2.2.1)], out.2.2), 0, xs, ()))
          refine (congrArg (Tree.holds _) k8).mpr ⟨?_, rfl⟩
          show ((xs : List (List UInt8)).length + 1) * 16 ≤ 140737488355328
          omega
        · intro z a4 w4 hz k6
          have hz' := Option.some.inj hz
          subst hz'
          obtain ⟨ad, m, cap, e89⟩ := k6.tip_slice (t := 89) (c := 89) (e := 9) (d := false) (fz := false) (g := .str) (xs := xs ++ [sentB pcs h out.1 i]) rfl (by kernel_rfl)
          have k7 := k6.hold (t := 89)
          rw [e89] at k7
          refine Kv.store (τ := tys) (T := 42) (off := 0) (o := rOp (sdI 9) 4) (x := .tmp 9) (y := .tmp 89) (ti := ⟨.sl .str, _, _, _⟩) (v := .slice ad m cap) k7 (tysOK _ _ rfl) rfl (by kernel_rfl) (by kernel_rfl) (by kernel_rfl) (k7.slots (9, .pointer (some ⟨k, 0, none⟩)) (by simp)) (k7.slots (89, .slice ad m cap) (by simp)) rfl rfl (by simp) (by kernel_rfl) fun w5 k8 => ?_
          refine RegTo.nil ?_
          rw [show (#[v] : Array Value).set! 0 (.slice ad m cap) = #[.slice ad m cap] from rfl] at k8
          show LTo Tryz.prog b ([sdL 3] ++ []) _ a4 w5
          refine k8.ends (C := mkC tys [] []) tysOK ctrs_nil mixed (dsOK_nil rfl) (ts := sdTt) (bs := sdMt) (G := fun z => z = (.normal, some ((pcs, pcs, (pcs.length : Int), i + 1, ()), (b0, h, r, (out.1 + 1, out.2.1 ++ [(out.1, sentB pcs h out.1 i, 1, r.2.2.1)], out.2.2), 0, xs ++ [sentB pcs h out.1 i], ())))) (by kernel_rfl) (by kernel_rfl) ?_ ?_ (fun z h => by cases h)
          · have k9 : endT (mkC tys [] []) sdTt sdMt [sdL 3] (mkS sdTt sdMt ((pcs, pcs, (pcs.length : Int), i, ()), (b0, h, r, (out.1 + 1, out.2.1 ++ [(out.1, sentB pcs h out.1 i, 1, r.2.2.1)], out.2.2), 0, xs ++ [sentB pcs h out.1 i], ()))) = _ := congrFun sdl3_tree ((pcs, pcs, (pcs.length : Int), i, ()), (b0, h, r, (out.1 + 1, out.2.1 ++ [(out.1, sentB pcs h out.1 i, 1, r.2.2.1)], out.2.2), 0, xs ++ [sentB pcs h out.1 i], ()))
            refine (congrArg (Tree.holds _) k9).mpr ?_
            show (Ex.normal, some ((pcs, pcs, (pcs.length : Int), IntKind.i64.wrap (i + 1), ()), (b0, h, r, (out.1 + 1, out.2.1 ++ [(out.1, sentB pcs h out.1 i, 1, r.2.2.1)], out.2.2), (0 : Int), xs ++ [sentB pcs h out.1 i], ()))) = _
            rw [i64_id (n := i + 1) (by omega) (by omega)]
            rfl
          · intro z x a6 w6 hz k10
            have hz1 := (Prod.mk.inj hz).1
            have hz2 := Option.some.inj (Prod.mk.inj hz).2
            subst hz1 hz2
            exact hgo hlt' a6 w6 _ k10
end Go.Ev.Z
/- What is sent: the loop. -/
set_option linter.unusedVariables false
set_option linter.unusedSimpArgs false
namespace Go.Ev.Z
open Go.Proofs Go.Conc
theorem itemF_no (x : DItem) : (itemF x).2 = 0 ∨ (itemF x).2 = 1 := by
  unfold itemF
  cases itemOk x with
  | true => exact .inl rfl
  | false => exact .inr rfl
theorem allG_no : ∀ (l : List DItem) (out : List UInt8) (i : Nat), (allG out i l).2 = 0 ∨ (allG out i l).2 = 1 ∨ (allG out i l).2 = 4
  | [], out, i => .inl rfl
  | x :: l, out, i => by
    rw [allG]
    have h := itemF_no x
    cases (itemF x).2 != (0 : Int) with
    | true => rw [cond_true]; exact h.imp id .inl
    | false =>
      rw [cond_false]
      cases decide ((i : Int) ≥ 48) with
      | true => exact .inr (.inr rfl)
      | false => exact allG_no l _ _
theorem split_no (l : List DItem) : IntKind.i64.has (msplitF l).2 := by
  have h : (msplitF l).2 = 0 ∨ (msplitF l).2 = 1 ∨ (msplitF l).2 = 4 := by
    unfold msplitF
    have h := allG_no l [] 0
    cases decide ((l.length : Int) > 48) with
    | true => exact .inr (.inr rfl)
    | false =>
      rw [cond_false]
      cases (allF l).2 != 0 with
      | true => exact h
      | false => exact .inl rfl
  rw [has_i64]
  omega
structure SendPre (b : DMrl) (h : DHello) (r : DRules) : Prop where
  from0 : 0 ≤ h.1
  from1 : h.1 < 16
  next0 : 0 ≤ b.1
  next1 : b.1 ≤ 60000
  wait : 1 ≤ r.2.2.1
  below : ∀ x ∈ b.2.1, x.1 < b.1
structure SendIn (pcs : List (List DItem)) (b : DMrl) (h : DHello) (r : DRules) : Prop extends SendPre b h r where
  pair : wt gPair h.2
  room : b.2.1.length + pcs.length ≤ 8
  some : pcs ≠ []
  items : ∀ p ∈ pcs, p.length ≤ 6 ∧ ∀ x ∈ p, wtI x ∧ itemOk x = true
theorem add_ok {l : List DKept} {n : Int} {r : DRules} (h0 : 0 ≤ n) (h1 : n ≤ 65535) (hr : 1 ≤ r.2.2.1) (hl : l.length < 8) (hb : ∀ x ∈ l, x.1 < n) (s : List UInt8) : addF l n s r = (l ++ [(n, s, 1, r.2.2.1)], 0) := by
  unfold addF
  have a1 : nearF n = true := near_iff.2 ⟨h0, h1⟩
  have a2 : l.any (fun x => decide (x.1 ≥ n)) = false := by
    rw [List.any_eq_false]
    intro x hx
    have := hb x hx
    simp; omega
  rw [a1, a2, decide_eq_false (by omega), decide_eq_false (by omega)]
  rfl
theorem nextS_ok {n : Int} (h0 : 0 ≤ n) (h1 : n < 65000) : nextS n = (n + 1, 0) := by
  unfold nextS
  have a1 : nearF n = true := near_iff.2 ⟨h0, by omega⟩
  rw [a1, decide_eq_false (by omega)]
  rfl
theorem sendOk_at {pcs : List (List DItem)} {b : DMrl} {h : DHello} {r : DRules} (s : SendIn pcs b h r) {i : Int} (h0 : 0 ≤ i) (h1 : i < pcs.length) {A : List DKept} (hA : (A.length : Int) = i) (hlt : ∀ x ∈ A, x.1 < b.1 + i) : SendOk pcs h r (b.1 + i, b.2.1 ++ A, b.2.2) i := by
  have hroom := s.room
  have n0 := s.next0
  have n1 := s.next1
  have hm : pcs.getD i.toNat [] ∈ pcs := elt_mem [] h0 h1
  obtain ⟨k1, k2⟩ := s.items _ hm
  refine ⟨⟨s.from0, s.from1, ?_, ?_, k1, k2, s.pair⟩, nextS_ok ?_ ?_, add_ok ?_ ?_ s.wait ?_ ?_⟩
  · show 0 ≤ b.1 + i; omega
  · show b.1 + i ≤ 65535; omega
  · show 0 ≤ b.1 + i; omega
  · show b.1 + i < 65000; omega
  · show 0 ≤ b.1 + i; omega
  · show b.1 + i ≤ 65535; omega
  · show (b.2.1 ++ A).length < 8
    rw [List.length_append]; omega
  · intro x hx
    show x.1 < b.1 + i
    rcases List.mem_append.1 hx with hx | hx
    · have := s.below x hx; omega
    · exact hlt x hx
theorem sendGo_at {pcs : List (List DItem)} {h : DHello} {t n i : Int} (h0 : 0 ≤ i) (h1 : i < pcs.length) (hp : PartIn (h.1, h.2, n + i, decide (i < (pcs.length : Int) - 1), pcs.getD i.toNat [])) :
    sendGo h t (n + i) (pcs.drop i.toNat) = ((n + i, sentB pcs h (n + i) i, 1, t) :: (sendGo h t (n + (i + 1)) (pcs.drop (i + 1).toNat)).1, sentB pcs h (n + i) i :: (sendGo h t (n + (i + 1)) (pcs.drop (i + 1).toNat)).2) := by
  rw [drop_elt [] h0 h1, sendGo]
  have e : (!(pcs.drop (i + 1).toNat).isEmpty) = decide (i < (pcs.length : Int) - 1) := by
    by_cases hh : i < (pcs.length : Int) - 1
    · rw [decide_eq_true hh]
      cases hd : pcs.drop (i + 1).toNat with
      | nil =>
        have := List.drop_eq_nil_iff.1 hd
        omega
      | cons _ _ => rfl
    · rw [decide_eq_false hh, List.drop_eq_nil_of_le (by omega)]
      rfl
  rw [e, fpart_in hp, Int.add_assoc]
  rfl
attribute [local irreducible] fnOf bodyOf
def sdLI (R0 : Ref) (k e : Nat) (pcs : List (List DItem)) (b : DMrl) (h : DHello) (r : DRules) (u4 u8 u10 : Value) (D : List Deferred) (m : Nat) (a : Act) (w : World) : Prop :=
  ∃ (i : Int) (A : List DKept) (B : List (List UInt8)), 0 ≤ i ∧ i ≤ pcs.length ∧ (m : Int) = pcs.length - i ∧ (A.length : Int) = i ∧ (B.length : Int) = i ∧ (∀ x ∈ A, x.1 < b.1 + i) ∧
    sendGo h r.2.2.1 b.1 pcs = (A ++ (sendGo h r.2.2.1 (b.1 + i) (pcs.drop i.toNat)).1, B ++ (sendGo h r.2.2.1 (b.1 + i) (pcs.drop i.toNat)).2) ∧
    ((i = 0 ∧ Kv R0 k #[.slice none 0 0] e 93 [(9, .pointer (some ⟨k, 0, none⟩)), (4, u4), (8, u8), (10, u10)] (mkS sdTn sdM1 ((pcs, pcs, (pcs.length : Int), i, ()), (b, h, r, b, 0, ()))) a w D) ∨
     (0 < i ∧ ∃ v, Kv R0 k #[v] e 93 [(89, v), (9, .pointer (some ⟨k, 0, none⟩)), (4, u4), (8, u8), (10, u10)] (mkS sdTt sdMt ((pcs, pcs, (pcs.length : Int), i, ()), (b, h, r, (b.1 + i, b.2.1 ++ A, b.2.2), 0, B, ()))) a w D))
theorem sd_loop_ok {R0 : Ref} {b : Frame} {Q : Exit → Act → World → Prop} {k e : Nat} {pcs : List (List DItem)} {b0 : DMrl} {h : DHello} {r : DRules} {u4 u8 u10 : Value} {D : List Deferred} {a : Act} {w : World} (s : SendIn pcs b0 h r)
    (hk : Kv R0 k #[.slice none 0 0] e 93 [(9, .pointer (some ⟨k, 0, none⟩)), (4, u4), (8, u8), (10, u10)] (mkS sdTn sdM1 ((pcs, pcs, (pcs.length : Int), 0, ()), (b0, h, r, b0, 0, ()))) a w D)
    (hend : ∀ a' w' v', Kv R0 k #[v'] e 93 [(89, v'), (9, .pointer (some ⟨k, 0, none⟩)), (4, u4), (8, u8), (10, u10)] (mkS sdTt sdMt ((pcs, pcs, (pcs.length : Int), (pcs.length : Int), ()), (b0, h, r, (b0.1 + pcs.length, b0.2.1 ++ (sendGo h r.2.2.1 b0.1 pcs).1, b0.2.2), 0, (sendGo h r.2.2.1 b0.1 pcs).2, ()))) a' w' D → Q (.exit 0) a' w') :
    CodeTo Tryz.prog b (.loop (loopB 0 (bodyOf (fnOf Tryz.prog 25)))) Q a w := by
  have hroom := s.room
  have hpos : 0 < pcs.length := List.length_pos_iff.2 s.some
  refine CodeTo.loop (sdLI R0 k e pcs b0 h r u4 u8 u10 D) pcs.length ⟨0, [], [], by omega, by omega, by omega, rfl, rfl, (fun x hx => by cases hx), ?_, .inl ⟨rfl, hk⟩⟩ ?_
  · show sendGo h r.2.2.1 b0.1 pcs = ([] ++ (sendGo h r.2.2.1 (b0.1 + 0) pcs).1, [] ++ (sendGo h r.2.2.1 (b0.1 + 0) pcs).2)
    rw [Int.add_zero]
    rfl
  · rintro m a1 w1 ⟨i, A, B, h1, h2, h3, h4, h5, h6, h7, ⟨h8, h9⟩ | ⟨h8, v, h9⟩⟩
    · subst h8
      have hA : A = [] := List.eq_nil_of_length_eq_zero (by omega)
      have hB : B = [] := List.eq_nil_of_length_eq_zero (by omega)
      subst hA hB
      have so := sendOk_at s (i := 0) (by omega) (by omega) (A := []) rfl (fun x hx => by cases hx)
      rw [Int.add_zero, List.append_nil] at so
      have so : SendOk pcs h r b0 0 := so
      refine sd_round_n (by omega) (by omega) (by omega) (fun _ => so) h9 (fun hlt a' w' v' k1 => ?_) (fun hlt => absurd (show (0 : Int) < pcs.length by omega) hlt)
      have hg := sendGo_at (h := h) (t := r.2.2.1) (n := b0.1) (i := 0) (by omega) (by omega) (by rw [Int.add_zero]; exact so.part)
      refine ⟨m - 1, by omega, 0 + 1, [(b0.1 + 0, sentB pcs h (b0.1 + 0) 0, 1, r.2.2.1)], [sentB pcs h (b0.1 + 0) 0], by omega, by omega, by omega, rfl, rfl, ?_, (by rw [h7, hg]; rfl), .inr ⟨by omega, v', ?_⟩⟩
      · intro x hx
        rw [List.mem_singleton.1 hx]
        show b0.1 + 0 < b0.1 + (0 + 1)
        omega
      · rw [Int.add_zero]
        exact k1
    · refine sd_round_t h1 h2 (by omega) (by omega) (fun hlt => sendOk_at s h1 hlt h4 h6) h9 (fun hlt a' w' v' k1 => ?_) (fun hlt a' w' k1 => ?_)
      · have so := sendOk_at s h1 hlt h4 h6
        have hg := sendGo_at (h := h) (t := r.2.2.1) (n := b0.1) h1 hlt so.part
        refine ⟨m - 1, by omega, i + 1, A ++ [(b0.1 + i, sentB pcs h (b0.1 + i) i, 1, r.2.2.1)], B ++ [sentB pcs h (b0.1 + i) i], by omega, by omega, by omega, ?_, ?_, ?_, ?_, .inr ⟨by omega, v', ?_⟩⟩
        · rw [List.length_append]; simp; omega
        · rw [List.length_append]; simp; omega
        · intro x hx
          rcases List.mem_append.1 hx with hx | hx
          · have := h6 x hx; omega
          · rw [List.mem_singleton.1 hx]
            show b0.1 + i < b0.1 + (i + 1)
            omega
        · rw [h7, hg, List.append_assoc, List.append_assoc]
          rfl
        · rw [← List.append_assoc, ← Int.add_assoc]
          exact k1
      · have hi : i = pcs.length := by omega
        subst hi
        have hd : pcs.drop (pcs.length : Int).toNat = [] := List.drop_eq_nil_of_le (by omega)
        rw [hd] at h7
        have hA : A = (sendGo h r.2.2.1 b0.1 pcs).1 := by rw [h7]; simp [sendGo]
        have hB : B = (sendGo h r.2.2.1 b0.1 pcs).2 := by rw [h7]; simp [sendGo]
        rw [hA, hB] at k1
        exact hend a' w' v k1
end Go.Ev.Z
/- What is sent: the whole. -/
set_option linter.unusedVariables false
set_option linter.unusedSimpArgs false
namespace Go.Ev.Z
open Go.Proofs Go.Conc
theorem sd_z (w : World) : (zeroValue 42).run Tryz.prog w = .ok (.slice none 0 0) w := by kernel_rfl
theorem sd_mkop : (rOp (sdB 1) 0).op = .makeFunc (.func 45) #[] #[.tmp 4, .tmp 8, .tmp 9, .tmp 10] := by kernel_rfl
theorem sd_made (ev : Operand → Value) (w : World) : (execOp ev (rOp (sdB 1) 0)).run Tryz.prog w = .ok (.value (.func (.func 45) #[] #[ev (.tmp 4), ev (.tmp 8), ev (.tmp 9), ev (.tmp 10)])) w := by
  unfold execOp
  rw [sd_mkop]
  simp only [List.map_toArray, List.map_cons, List.map_nil]
  simp [Instr.makeFunc]
theorem sd_defer : (rOp (sdB 1) 1).op = .defer { callee := .value (.tmp 20), args := #[], argTypes := #[] } := by kernel_rfl
theorem sd_fin {x : ScS} {o : DMrl} {l : List (List UInt8)} {n : Int} {f8 f9 f10 : Bool} : (evRes (mkC tys [] []) (fnOf Tryz.prog 25) [gBox, .sl .str, .int .i64] (.normal, { tmps := (mkS sdTf sdMf x).tmps, boxes := [(4, false, .var gBox x.2.1), (5, false, .var gHello x.2.2.1), (7, false, .var gRules x.2.2.2.1), (8, f8, .var gBox o), (9, f9, .var (.sl .str) l), (10, f10, .var (.int .i64) n)] })) = .leaf (o, l, n) := by kernel_rfl
theorem sd_fin0 {x : ScS} : (evRes (mkC tys [] []) (fnOf Tryz.prog 25) [gBox, .sl .str, .int .i64] (.normal, mkS sdTf sdMf x)) = .leaf (x.2.2.2.2.1, x.2.2.2.2.2.1, x.2.2.2.2.2.2.1) := by kernel_rfl
attribute [local irreducible] fnOf bodyOf
def sendP (x : DMrl × DHello × List DItem × DRules) : Prop := SendPre x.1 x.2.1 x.2.2.2
def sendC : Ctr := { args := [gBox, gHello, .sl gItem, gRules], res := [gBox, .sl .str, .int .i64], pre := some sendP, fn := fun (x : DMrl × DHello × List DItem × DRules) => sendF x.1 x.2.1 x.2.2.1 x.2.2.2 }
def sdDf (u4 u8 u9 u10 : Value) : Deferred := { target := .fn (.func 45) #[u4, u8, u9, u10], args := #[] }
theorem sd_die {R0 : Ref} {k e : Nat} {pcs : List (List DItem)} {b out : DMrl} {h : DHello} {r : DRules} {u4 u8 u10 : Value} {a : Act} {w : World} {Rp : Ending → World → Prop} {n : Int} (hn : IntKind.i64.has n) (hS : ∀ j o, R0.S0 j o → j < R0.w0.heap.size)
    (hk : Kv R0 k #[.slice none 0 0] e 93 [(9, .pointer (some ⟨k, 0, none⟩)), (4, u4), (8, u8), (10, u10)] (mkS sdT2 sdM1 ((pcs, ()), (b, h, r, out, 0, ()))) a w [sdDf u4 u8 (.pointer (some ⟨k, 0, none⟩)) u10])
    (fin : ∀ s' a' w', IsSt R0 s' a' w' → (evRes (mkC tys [] []) (fnOf Tryz.prog 25) [gBox, .sl .str, .int .i64] (.normal, s')).holds (fun z => z = (b, [], n)) → Leaves Tryz.prog (fnOf Tryz.prog 25) a'.tmps Rp [] .returning w') :
    Leaves Tryz.prog (fnOf Tryz.prog 25) a.tmps Rp a.defers (.panicking [{ v := noV n, recovered := false }]) w := by
  have h9 : a.tmps.getD 9 undef = .pointer (some ⟨k, 0, none⟩) := hk.slots (9, .pointer (some ⟨k, 0, none⟩)) (by simp)
  have h4 : a.tmps.getD 4 undef = u4 := hk.slots (4, u4) (by simp)
  have h8 : a.tmps.getD 8 undef = u8 := hk.slots (8, u8) (by simp)
  have h10 : a.tmps.getD 10 undef = u10 := hk.slots (10, u10) (by simp)
  have hat := Kv.at hk
  have k1 := hk.adopt (k := k) (bx := 9) (p := 9) (v := .pointer (some ⟨k, 0, none⟩)) (B := .var (.sl .str) []) (av := .ptr 9 (.sl .str) []) rfl rfl (by kernel_rfl) hS
    (fun M hM _ _ hno R' hR' => ⟨k, _, _, rfl, hat, ⟨none, 0, rfl, Nat.le_refl _, by simp, by simp, .inl rfl⟩, hno, hR'⟩)
    (fun M' g1 g2 => by simp only [RelV]; exact ⟨k, true, _, g1, ⟨rfl, by trivial⟩, by rw [g2]; rfl, h9⟩)
  have k2 := (k1.less (sl' := []) (fun p hp => by cases hp)).restr (L := { prom := [], keep := sdTf.map (·.1), boxes := sdMf.map (·.1), sum := fun _ => .stuck }) (s' := mkS sdTf sdMf ((), (b, h, r, out, [], 0, ()))) (by kernel_rfl)
  have hdef : a.defers = [sdDf u4 u8 (.pointer (some ⟨k, 0, none⟩)) u10] := hk.defers
  obtain ⟨M, rfl, hb, I, hr⟩ := k2.old
  rw [hdef]
  refine leaves_cons (by simp) (invoke_fn sc_f (by kernel_rfl) (by kernel_rfl) _) ?_
  have q4 := hr 4
  have q8 := hr 8
  have q9 := hr 9
  have q10 := hr 10
  rw [h4] at q4
  rw [h8] at q8
  rw [h9] at q9
  rw [h10] at q10
  refine (sc_catch (x := ((), (b, h, r, out, [], 0, ()))) hn I hb q4 q8 q9 q10).mono ?_
  rintro e' u' w'' ⟨⟨v, rfl⟩, rfl, M', rfl, I', hst, hb'⟩
  refine fin { tmps := (mkS sdTf sdMf ((), (b, h, r, out, [], 0, ()))).tmps, boxes := scOut ((), (b, h, r, out, [], 0, ())) n } a M'.w ⟨M', rfl, hb', I', fun t => (hr t).step hst (fun b hb => hb.elim)⟩ ?_
  have k3 := sd_fin (x := ((), (b, h, r, out, [], 0, ()))) (o := b) (l := []) (n := n) (f8 := true) (f9 := true) (f10 := true)
  exact (congrArg (Tree.holds _) k3).mpr rfl
theorem wt_items {l : List DItem} (h : wt (.sl gItem) l) : ∀ x ∈ l, wtI x := fun x hx => by
  have h1 := h.2.2 x hx
  have h2 : IntKind.u32.has x.2.2.1 := h1.2.2.1
  have h3 := (has_u32 _).1 h2
  exact ⟨h3.1, by omega⟩
theorem send_in {b : DMrl} {h : DHello} {l : List DItem} {r : DRules} (hp : SendPre b h r) (hw : ∀ x ∈ l, wtI x) (hpair : wt gPair h.2) (h0 : (msplitF l).2 = 0) (h1 : tooF b ((msplitF l).1.length : Int) = false) : SendIn (msplitF l).1 b h r := by
  obtain ⟨k1, k2⟩ := split_in hw h0
  rw [k2] at h1 ⊢
  have hs := pieces_some l.length l
  have hm := pieces_most l.length l (Nat.le_refl _)
  have hpos : 0 < (piecesF 6 l.length l).length := List.length_pos_iff.2 hs
  have h2 := of_decide_eq_false h1
  have hlt : ((piecesF 6 l.length l, (0 : Int)).1.length : Int) = (piecesF 6 l.length l).length := rfl
  rw [hlt] at h2
  refine ⟨hp, hpair, ?_, hs, fun p hp => ⟨(hm p hp).1, fun x hx => k1.ok x ((hm p hp).2 x hx)⟩⟩
  show b.2.1.length + (piecesF 6 l.length l).length ≤ 8
  omega
theorem send_ok : CtrOK Tryz.prog 25 sendC :=
  ctr_of_toD (C := mkC tys [] []) tysOK (by kernel_rfl) (by kernel_rfl) (by kernel_rfl) (fun x => by rw [sd_n]; show 4 ≤ 93; omega) fun R0 bb (x : DMrl × DHello × List DItem × DRules) a0 Rp fin hw hp h0 hsz0 hd0 => by
    rw [sd_n] at hsz0
    obtain ⟨b, h, l, r⟩ := x
    have hS := S0_lt h0
    have hp : SendPre b h r := hp sendP rfl
    have hwl : ∀ x ∈ l, wtI x := wt_items hw.2.2.1
    have hwp : wt gPair h.2 := hw.2.1.2
    have fin : ∀ s' a' w', IsSt R0 s' a' w' → (evRes (mkC tys [] []) (fnOf Tryz.prog 25) [gBox, .sl .str, .int .i64] (.normal, s')).holds (fun z => z = sendF b h l r) → Leaves Tryz.prog (fnOf Tryz.prog 25) a'.tmps Rp [] .returning w' := fin
    rw [sd_all]
    have k0 := Kd.start (W := fun _ => none) (n := 93) (sl := []) (D := []) h0 hsz0 hd0 (fun _ h => by cases h)
    refine LTo.cons ?_
    rw [sd_0]
    refine CodeTo.region ?_
    rw [show List.range (rOps (sdB 0)).size = [0, 1, 2, 3] ++ (4 :: ([5] ++ [])) by kernel_rfl]
    refine k0.opsL (C := mkC tys [] []) tysOK ctrs_nil (ts := sdT0) (bs := sdM0) (G := fun z => z = some ((l, ()), (b, h, r, (0, [], (0, []), []), ()))) [0, 1, 2, 3] (by kernel_rfl) (by kernel_rfl) ?_ ?_ (fun h => by cases h)
    · have k8 : opsT (mkC tys [] []) sdT0 sdM0 [rOp (sdB 0) 0, rOp (sdB 0) 1, rOp (sdB 0) 2, rOp (sdB 0) 3] { tmps := number 0 (resL [gBox, gHello, .sl gItem, gRules] (b, h, l, r)), boxes := [] } = _ := congrFun sd0_tree (b, h, l, r)
      exact (congrArg (Tree.holds _) k8).mpr rfl
    intro z a1 w1 hz k1
    have hz' := Option.some.inj hz
    subst hz'
    refine k1.kalloc (T := 42) (d := 9) (o := rOp (sdB 0) 4) (z := .slice none 0 0) (cs := #[.slice none 0 0]) (by kernel_rfl) (by kernel_rfl) (by kernel_rfl) (by kernel_rfl) sd_z rfl rfl (by omega) (by simp) fun k a2 w2 k2 => ?_
    refine k2.opsL (C := mkC tys [] []) tysOK ctrs_nil (ts := sdT1) (bs := sdM1) (G := fun z => z = some ((l, ()), (b, h, r, (0, [], (0, []), []), 0, ()))) [5] (by kernel_rfl) (by kernel_rfl) ?_ ?_ (fun h => by cases h)
    · have k8 : opsT (mkC tys [] []) sdT1 sdM1 [rOp (sdB 0) 5] (mkS sdT0 sdM0 ((l, ()), (b, h, r, (0, [], (0, []), []), ()))) = _ := congrFun sd05_tree ((l, ()), (b, h, r, (0, [], (0, []), []), ()))
      exact (congrArg (Tree.holds _) k8).mpr rfl
    intro z a3 w3 hz k3
    have hz' := Option.some.inj hz
    subst hz'
    refine RegTo.nil ?_
    show LTo Tryz.prog bb [sdB 1, sdB 2, sdB 3, sdB 4, sdB 5, sdB 6, sdB 7, sdB 8, sdB 9, sdB 10] _ a3 w3
    refine LTo.cons ?_
    rw [sd_1]
    refine CodeTo.of_wp (wp_region ?_)
    rw [show List.range (rOps (sdB 1)).size = [0, 1] by kernel_rfl]
    simp only [wpOps, show (rOps (sdB 1))[0]? = some (rOp (sdB 1) 0) by kernel_rfl, show (rOps (sdB 1))[1]? = some (rOp (sdB 1) 1) by kernel_rfl]
    rw [if_pos (by simp [Region.wanted, show (rOp (sdB 1) 0).guard = none by kernel_rfl])]
    refine .inl (op_value (sd_made a3.eval w3) ?_)
    rw [if_pos (by simp [Region.wanted, show (rOp (sdB 1) 1).guard = none by kernel_rfl])]
    have k4 := ((k3.hold (t := 10)).hold (t := 8)).hold (t := 4)
    have e9 : a3.eval (.tmp 9) = .pointer (some ⟨k, 0, none⟩) := k3.slots (9, .pointer (some ⟨k, 0, none⟩)) (by simp)
    rw [e9, show a3.eval (.tmp 4) = a3.tmps.getD 4 undef from rfl, show a3.eval (.tmp 8) = a3.tmps.getD 8 undef from rfl, show a3.eval (.tmp 10) = a3.tmps.getD 10 undef from rfl]
    generalize a3.tmps.getD 4 undef = u4 at k4 ⊢
    generalize a3.tmps.getD 8 undef = u8 at k4 ⊢
    generalize a3.tmps.getD 10 undef = u10 at k4 ⊢
    rw [show (rOp (sdB 1) 0).dst = some 20 by kernel_rfl]
    have k5 := k4.keep (k := 20) (v := .func (.func 45) #[] #[u4, u8, .pointer (some ⟨k, 0, none⟩), u10]) rfl (by omega) (by simp)
    generalize a3.put (some 20) (.func (.func 45) #[] #[u4, u8, .pointer (some ⟨k, 0, none⟩), u10]) = a4 at k5 ⊢
    refine .inl (defer_wp (x := .tmp 20) (f := 45) (caps := #[u4, u8, .pointer (some ⟨k, 0, none⟩), u10]) sd_defer (k5.slots (20, .func (.func 45) #[] #[u4, u8, .pointer (some ⟨k, 0, none⟩), u10]) (by simp)) ?_)
    rw [show (rOp (sdB 1) 1).dst = none by kernel_rfl, k5.defers]
    have k6 : Kv R0 k #[.slice none 0 0] 42 93 [(9, .pointer (some ⟨k, 0, none⟩)), (4, u4), (8, u8), (10, u10)] (mkS sdT1 sdM1 ((l, ()), (b, h, r, (0, [], (0, []), []), 0, ()))) { a4 with defers := [sdDf u4 u8 (.pointer (some ⟨k, 0, none⟩)) u10] } w3 [sdDf u4 u8 (.pointer (some ⟨k, 0, none⟩)) u10] :=
      ⟨k5.new, k5.size, rfl, fun p hp => k5.slots p (by simp at hp ⊢; rcases hp with h | h | h | h <;> simp [h]), k5.st⟩
    show LTo Tryz.prog bb ([sdB 2, sdB 3, sdB 4, sdB 5, sdB 6] ++ [sdB 7, sdB 8, sdB 9, sdB 10]) _ { a4 with defers := [sdDf u4 u8 (.pointer (some ⟨k, 0, none⟩)) u10] } w3
    generalize ({ a4 with defers := [sdDf u4 u8 (.pointer (some ⟨k, 0, none⟩)) u10] } : Act) = a5 at k6 ⊢
    refine k6.ends (C := mkC tys sendG [] false sendK) tysOK sendG_ok mixed sendK_ok (ts := sdT2) (bs := sdM1)
      (G := fun z => ((msplitF l).2 != (0 : Int)) = true ∧ z = (.die (noV (msplitF l).2), some (((msplitF l).1, ()), (b, h, r, (0, [], (0, []), []), 0, ()))) ∨
        ((msplitF l).2 != (0 : Int)) = false ∧ tooF b ((msplitF l).1.length : Int) = true ∧ z = (.die (noV 8), some (((msplitF l).1, ()), (b, h, r, (0, [], (0, []), []), 0, ()))) ∨
        ((msplitF l).2 != (0 : Int)) = false ∧ tooF b ((msplitF l).1.length : Int) = false ∧ z = (.normal, some (((msplitF l).1, ()), (b, h, r, b, 0, ()))))
      (by kernel_rfl) (by kernel_rfl) ?_ ?_ ?_
    · have k8 : endT (mkC tys sendG [] false sendK) sdT2 sdM1 [sdB 2, sdB 3, sdB 4, sdB 5, sdB 6] (mkS sdT1 sdM1 ((l, ()), (b, h, r, (0, [], (0, []), []), 0, ()))) = _ := congrFun sd2_tree ((l, ()), (b, h, r, (0, [], (0, []), []), 0, ()))
      refine (congrArg (Tree.holds _) k8).mpr ?_
      simp only [Tree.holds]
      exact ⟨trivial, fun g => .inl ⟨g, rfl⟩, fun g => ⟨⟨trivial, g⟩, fun g2 => ⟨trivial, fun _ => .inr (.inl ⟨g, g2, rfl⟩), fun g3 => by cases g3⟩, fun g2 => .inr (.inr ⟨g, g2, rfl⟩)⟩⟩
    · intro z x a6 w6 hz k7
      rcases hz with ⟨g, hz⟩ | ⟨g, g2, hz⟩ | ⟨g, g2, hz⟩
      · have hz1 := (Prod.mk.inj hz).1
        have hz2 := Option.some.inj (Prod.mk.inj hz).2
        subst hz1 hz2
        show Leaves Tryz.prog (fnOf Tryz.prog 25) a6.tmps Rp a6.defers (.panicking [{ v := noV (msplitF l).2, recovered := false }]) w6
        refine sd_die (split_no l) hS k7 fun s' a' w' q1 q2 => fin s' a' w' q1 ?_
        have e : sendF b h l r = (b, [], (msplitF l).2) := by unfold sendF; rw [g]; rfl
        rw [e]
        exact q2
      · have hz1 := (Prod.mk.inj hz).1
        have hz2 := Option.some.inj (Prod.mk.inj hz).2
        subst hz1 hz2
        show Leaves Tryz.prog (fnOf Tryz.prog 25) a6.tmps Rp a6.defers (.panicking [{ v := noV 8, recovered := false }]) w6
        refine sd_die ((has_i64 _).2 ⟨by omega, by omega⟩) hS k7 fun s' a' w' q1 q2 => fin s' a' w' q1 ?_
        have e : sendF b h l r = (b, [], 8) := by unfold sendF; rw [g, g2]; rfl
        rw [e]
        exact q2
      · have hz1 := (Prod.mk.inj hz).1
        have hz2 := Option.some.inj (Prod.mk.inj hz).2
        subst hz1 hz2
        have g0 : (msplitF l).2 = 0 := by simpa using g
        have si := send_in hp hwl hwp g0 g2
        have e : sendF b h l r = ((b.1 + ((msplitF l).1.length : Int), b.2.1 ++ (sendGo h r.2.2.1 b.1 (msplitF l).1).1, b.2.2), (sendGo h r.2.2.1 b.1 (msplitF l).1).2, 0) := by unfold sendF; rw [g, g2]; rfl
        rw [e] at fin
        generalize (msplitF l).1 = pcs at k7 si fin
        show LTo Tryz.prog bb ([sdB 7] ++ [sdB 8, sdB 9, sdB 10]) _ a6 w6
        refine k7.ends (C := mkC tys [] []) tysOK ctrs_nil mixed (dsOK_nil rfl) (ts := sdTn) (bs := sdM1) (G := fun z => z = (.normal, some ((pcs, pcs, (pcs.length : Int), 0, ()), (b, h, r, b, 0, ())))) (by kernel_rfl) (by kernel_rfl) ?_ ?_ (fun z h => by cases h)
        · have k8 : endT (mkC tys [] []) sdTn sdM1 [sdB 7] (mkS sdT2 sdM1 ((pcs, ()), (b, h, r, b, 0, ()))) = _ := congrFun sd7_tree ((pcs, ()), (b, h, r, b, 0, ()))
          exact (congrArg (Tree.holds _) k8).mpr rfl
        intro z x a7 w7 hz k8
        have hz1 := (Prod.mk.inj hz).1
        have hz2 := Option.some.inj (Prod.mk.inj hz).2
        subst hz1 hz2
        show LTo Tryz.prog bb [sdB 8, sdB 9, sdB 10] _ a7 w7
        refine LTo.cons ?_
        rw [sd_8]
        refine CodeTo.block ?_
        refine sd_loop_ok si k8 fun a8 w8 v' k9 => ?_
        show LTo Tryz.prog bb ([sdB 9, sdB 10] ++ []) _ a8 w8
        generalize sendGo h r.2.2.1 b.1 pcs = go at k9 fin
        have k10 := k9.freeze (t := 89) (c := 89) (e := 9) (d := false) (fz := false) (g := .str) (xs := go.2) (by kernel_rfl) (by kernel_rfl)
        have h9 : a8.tmps.getD 9 undef = .pointer (some ⟨k, 0, none⟩) := k10.slots (9, .pointer (some ⟨k, 0, none⟩)) (by simp)
        have h89 : a8.tmps.getD 89 undef = v' := k10.slots (89, v') (by simp)
        have hat := Kv.at k10
        have k11 := k10.adopt (k := k) (bx := 9) (p := 9) (v := .pointer (some ⟨k, 0, none⟩)) (B := .var (.sl .str) go.2) (av := .ptr 9 (.sl .str) []) rfl rfl (by kernel_rfl) hS
          (fun M hM _ hr hno R' hR' => by
            have h7 := hr 89
            rw [h89] at h7
            have h8 : RelV M (.val (.sl .str) go.2) v' := h7
            simp only [RelV] at h8
            obtain ⟨c8, h9, h10⟩ := h8
            have h11 : c8 = [v'] := by
              obtain ⟨ad', cap', e1, _⟩ := h9
              rw [e1] at h10 ⊢
              rw [h10]; rfl
            rw [h11] at h9
            exact ⟨k, _, _, rfl, hat, hM ▸ h9, hno, hR'⟩)
          (fun M' g1 g2 => by simp only [RelV]; exact ⟨k, true, _, g1, ⟨rfl, by trivial⟩, by rw [g2]; rfl, h9⟩)
        have k12 := (k11.less (sl' := [(9, .pointer (some ⟨k, 0, none⟩)), (4, u4), (8, u8), (10, u10)]) (fun p hp => by simp at hp ⊢; simp [hp])).restr (L := { prom := [], keep := sdTf.map (·.1), boxes := sdMf.map (·.1), sum := fun _ => .stuck }) (s' := mkS sdTf sdMf ((), (b, h, r, (b.1 + pcs.length, b.2.1 ++ go.1, b.2.2), go.2, 0, ()))) (by kernel_rfl)
        refine k12.ends (C := mkC tys [] []) tysOK ctrs_nil mixed (dsOK_nil rfl) (ts := sdTf) (bs := sdMf) (G := fun z => z = (.ret, some ((), (b, h, r, (b.1 + pcs.length, b.2.1 ++ go.1, b.2.2), go.2, 0, ())))) (by kernel_rfl) (by kernel_rfl) ?_ ?_ (fun z h => by cases h)
        · have k8 : endT (mkC tys [] []) sdTf sdMf [sdB 9, sdB 10] (mkS sdTf sdMf ((), (b, h, r, (b.1 + pcs.length, b.2.1 ++ go.1, b.2.2), go.2, 0, ()))) = _ := congrFun sd9_tree ((), (b, h, r, (b.1 + pcs.length, b.2.1 ++ go.1, b.2.2), go.2, 0, ()))
          exact (congrArg (Tree.holds _) k8).mpr rfl
        intro z x a9 w9 hz k13
        have hz1 := (Prod.mk.inj hz).1
        have hz2 := Option.some.inj (Prod.mk.inj hz).2
        subst hz1 hz2
        show Leaves Tryz.prog (fnOf Tryz.prog 25) a9.tmps Rp a9.defers .returning w9
        rw [k13.defers]
        refine leaves_cons (by simp) (invoke_fn sc_f (by kernel_rfl) (by kernel_rfl) _) ?_
        refine (sc_idle w9).mono ?_
        rintro e' u' w'' ⟨⟨v, rfl⟩, rfl, rfl⟩
        refine fin _ a9 _ k13.old ?_
        have k3 := sd_fin0 (x := ((), (b, h, r, (b.1 + pcs.length, b.2.1 ++ go.1, b.2.2), go.2, 0, ())))
        exact (congrArg (Tree.holds _) k3).mpr rfl
    · rintro z (⟨_, h⟩ | ⟨_, _, h⟩ | ⟨_, _, h⟩) <;> cases h
end Go.Ev.Z
