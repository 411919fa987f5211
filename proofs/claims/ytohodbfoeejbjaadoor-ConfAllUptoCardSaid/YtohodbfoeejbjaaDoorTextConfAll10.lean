/- A configuration's line. -/
import Derived.Test.YtohodbfoeejbjaaDoorTextConfAll9

set_option linter.unusedVariables false
set_option linter.unusedSimpArgs false
namespace Go.Ev.D
open Go.Proofs
def mlineC : DCtr := { args := [gConf, .str], res := [gConf], pre := fun (x : DConf × List UInt8) => x.2.length ≤ 10000, die := fun (x : DConf × List UInt8) => lineBad x.1 (wordsF x.2), val := fun _ => noLineV, fn := fun (x : DConf × List UInt8) => lineN x.1 (wordsF x.2) }
def mlineG : List (Nat × Ctr) := [(167, ssplitC), (42, csetC), (168, DCtr.ctr mnodeC), (169, DCtr.ctr mnumC)]
def mlineK : List (Nat × DCtr) := [(168, mnodeC), (169, mnumC)]
theorem mline_tree : (fun x : DConf × List UInt8 => evFnD (mkC tys mlineG [] false mlineK) (fnOf Tryd.prog 149) (resL mlineC.args x) mlineC.res) =
  (fun x =>
    Tree.need (splitPre (x.2, [(32 : UInt8)]))
      (Tree.need ((0 : Int) ≤ (0 : Int) ∧ (0 : Int) < (↑(List.length (wordsF x.2)) : Int))
        (Tree.br (bif List.getD (wordsF x.2) (0 : Nat) [] == [(110 : UInt8), (111 : UInt8), (100 : UInt8), (101 : UInt8)] then (↑(List.length (wordsF x.2)) : Int) == (2 : Int) else false)
          (Tree.need ((0 : Int) ≤ (1 : Int) ∧ (1 : Int) < (↑(List.length (wordsF x.2)) : Int))
            (Tree.need True
              (Tree.br (nodeBad (List.getD (wordsF x.2) (1 : Nat) []))
                (Tree.leaf
                  (Sum.inl (Value.iface (9 : Nat) (Value.string { data := { toList := [(110 : UInt8), (111 : UInt8), (32 : UInt8), (108 : UInt8), (105 : UInt8), (110 : UInt8), (101 : UInt8)] } }))))
                (Tree.need (True ∧ nodeBad (List.getD (wordsF x.2) (1 : Nat) []) = false) (Tree.leaf (Sum.inr (nodeP (List.getD (wordsF x.2) (1 : Nat) []), x.1.2)))))))
          (Tree.need ((0 : Int) ≤ (0 : Int) ∧ (0 : Int) < (↑(List.length (wordsF x.2)) : Int))
            (Tree.br
              (bif List.getD (wordsF x.2) (0 : Nat) [] == [(114 : UInt8), (117 : UInt8), (108 : UInt8), (101 : UInt8), (115 : UInt8)] then (↑(List.length (wordsF x.2)) : Int) == (5 : Int) else false)
              (Tree.need ((0 : Int) ≤ (1 : Int) ∧ (1 : Int) < (↑(List.length (wordsF x.2)) : Int))
                (Tree.need True
                  (Tree.need ((0 : Int) ≤ (2 : Int) ∧ (2 : Int) < (↑(List.length (wordsF x.2)) : Int))
                    (Tree.need True
                      (Tree.need ((0 : Int) ≤ (3 : Int) ∧ (3 : Int) < (↑(List.length (wordsF x.2)) : Int))
                        (Tree.need True
                          (Tree.need ((0 : Int) ≤ (4 : Int) ∧ (4 : Int) < (↑(List.length (wordsF x.2)) : Int))
                            (Tree.need True
                              (Tree.br (negP (numP (List.getD (wordsF x.2) (1 : Nat) [])))
                                (Tree.need
                                  (negP (numP (List.getD (wordsF x.2) (2 : Nat) [])) = true →
                                    Value.iface (9 : Nat)
                                        (Value.string { data := { toList := [(110 : UInt8), (111 : UInt8), (32 : UInt8), (108 : UInt8), (105 : UInt8), (110 : UInt8), (101 : UInt8)] } }) =
                                      Value.iface (9 : Nat)
                                        (Value.string { data := { toList := [(110 : UInt8), (111 : UInt8), (32 : UInt8), (108 : UInt8), (105 : UInt8), (110 : UInt8), (101 : UInt8)] } }))
                                  (Tree.need
                                    (negP (numP (List.getD (wordsF x.2) (3 : Nat) [])) = true →
                                      Value.iface (9 : Nat)
                                          (Value.string { data := { toList := [(110 : UInt8), (111 : UInt8), (32 : UInt8), (108 : UInt8), (105 : UInt8), (110 : UInt8), (101 : UInt8)] } }) =
                                        Value.iface (9 : Nat)
                                          (Value.string { data := { toList := [(110 : UInt8), (111 : UInt8), (32 : UInt8), (108 : UInt8), (105 : UInt8), (110 : UInt8), (101 : UInt8)] } }))
                                    (Tree.need
                                      (negP (numP (List.getD (wordsF x.2) (4 : Nat) [])) = true →
                                        Value.iface (9 : Nat)
                                            (Value.string { data := { toList := [(110 : UInt8), (111 : UInt8), (32 : UInt8), (108 : UInt8), (105 : UInt8), (110 : UInt8), (101 : UInt8)] } }) =
                                          Value.iface (9 : Nat)
                                            (Value.string { data := { toList := [(110 : UInt8), (111 : UInt8), (32 : UInt8), (108 : UInt8), (105 : UInt8), (110 : UInt8), (101 : UInt8)] } }))
                                      (Tree.leaf
                                        (Sum.inl
                                          (Value.iface (9 : Nat)
                                            (Value.string { data := { toList := [(110 : UInt8), (111 : UInt8), (32 : UInt8), (108 : UInt8), (105 : UInt8), (110 : UInt8), (101 : UInt8)] } })))))))
                                (Tree.br (negP (numP (List.getD (wordsF x.2) (2 : Nat) [])))
                                  (Tree.need
                                    (negP (numP (List.getD (wordsF x.2) (3 : Nat) [])) = true →
                                      Value.iface (9 : Nat)
                                          (Value.string { data := { toList := [(110 : UInt8), (111 : UInt8), (32 : UInt8), (108 : UInt8), (105 : UInt8), (110 : UInt8), (101 : UInt8)] } }) =
                                        Value.iface (9 : Nat)
                                          (Value.string { data := { toList := [(110 : UInt8), (111 : UInt8), (32 : UInt8), (108 : UInt8), (105 : UInt8), (110 : UInt8), (101 : UInt8)] } }))
                                    (Tree.need
                                      (negP (numP (List.getD (wordsF x.2) (4 : Nat) [])) = true →
                                        Value.iface (9 : Nat)
                                            (Value.string { data := { toList := [(110 : UInt8), (111 : UInt8), (32 : UInt8), (108 : UInt8), (105 : UInt8), (110 : UInt8), (101 : UInt8)] } }) =
                                          Value.iface (9 : Nat)
                                            (Value.string { data := { toList := [(110 : UInt8), (111 : UInt8), (32 : UInt8), (108 : UInt8), (105 : UInt8), (110 : UInt8), (101 : UInt8)] } }))
                                      (Tree.leaf
                                        (Sum.inl
                                          (Value.iface (9 : Nat)
                                            (Value.string { data := { toList := [(110 : UInt8), (111 : UInt8), (32 : UInt8), (108 : UInt8), (105 : UInt8), (110 : UInt8), (101 : UInt8)] } }))))))
                                  (Tree.br (negP (numP (List.getD (wordsF x.2) (3 : Nat) [])))
                                    (Tree.need
                                      (negP (numP (List.getD (wordsF x.2) (4 : Nat) [])) = true →
                                        Value.iface (9 : Nat)
                                            (Value.string { data := { toList := [(110 : UInt8), (111 : UInt8), (32 : UInt8), (108 : UInt8), (105 : UInt8), (110 : UInt8), (101 : UInt8)] } }) =
                                          Value.iface (9 : Nat)
                                            (Value.string { data := { toList := [(110 : UInt8), (111 : UInt8), (32 : UInt8), (108 : UInt8), (105 : UInt8), (110 : UInt8), (101 : UInt8)] } }))
                                      (Tree.leaf
                                        (Sum.inl
                                          (Value.iface (9 : Nat)
                                            (Value.string { data := { toList := [(110 : UInt8), (111 : UInt8), (32 : UInt8), (108 : UInt8), (105 : UInt8), (110 : UInt8), (101 : UInt8)] } })))))
                                    (Tree.br (negP (numP (List.getD (wordsF x.2) (4 : Nat) [])))
                                      (Tree.leaf
                                        (Sum.inl
                                          (Value.iface (9 : Nat)
                                            (Value.string { data := { toList := [(110 : UInt8), (111 : UInt8), (32 : UInt8), (108 : UInt8), (105 : UInt8), (110 : UInt8), (101 : UInt8)] } }))))
                                      (Tree.leaf
                                        (Sum.inr
                                          (x.1.1,
                                            (numP (List.getD (wordsF x.2) (1 : Nat) []), numP (List.getD (wordsF x.2) (2 : Nat) []), numP (List.getD (wordsF x.2) (3 : Nat) []),
                                              numP (List.getD (wordsF x.2) (4 : Nat) [])),
                                            x.1.2.2)))))))))))))))
              (Tree.need ((0 : Int) ≤ (0 : Int) ∧ (0 : Int) < (↑(List.length (wordsF x.2)) : Int))
                (Tree.br (bif List.getD (wordsF x.2) (0 : Nat) [] == [(108 : UInt8), (105 : UInt8), (110 : UInt8), (107 : UInt8)] then (↑(List.length (wordsF x.2)) : Int) == (3 : Int) else false)
                  (Tree.need ((0 : Int) ≤ (1 : Int) ∧ (1 : Int) < (↑(List.length (wordsF x.2)) : Int))
                    (Tree.need True
                      (Tree.need ((0 : Int) ≤ (2 : Int) ∧ (2 : Int) < (↑(List.length (wordsF x.2)) : Int))
                        (Tree.need True
                          (Tree.br (nodeBad (List.getD (wordsF x.2) (1 : Nat) []))
                            (Tree.need
                              (negP (numP (List.getD (wordsF x.2) (2 : Nat) [])) = true →
                                Value.iface (9 : Nat) (Value.string { data := { toList := [(110 : UInt8), (111 : UInt8), (32 : UInt8), (108 : UInt8), (105 : UInt8), (110 : UInt8), (101 : UInt8)] } }) =
                                  Value.iface (9 : Nat) (Value.string { data := { toList := [(110 : UInt8), (111 : UInt8), (32 : UInt8), (108 : UInt8), (105 : UInt8), (110 : UInt8), (101 : UInt8)] } }))
                              (Tree.leaf
                                (Sum.inl
                                  (Value.iface (9 : Nat)
                                    (Value.string { data := { toList := [(110 : UInt8), (111 : UInt8), (32 : UInt8), (108 : UInt8), (105 : UInt8), (110 : UInt8), (101 : UInt8)] } })))))
                            (Tree.br (negP (numP (List.getD (wordsF x.2) (2 : Nat) [])))
                              (Tree.leaf
                                (Sum.inl
                                  (Value.iface (9 : Nat)
                                    (Value.string { data := { toList := [(110 : UInt8), (111 : UInt8), (32 : UInt8), (108 : UInt8), (105 : UInt8), (110 : UInt8), (101 : UInt8)] } }))))
                              (Tree.br (decide (numP (List.getD (wordsF x.2) (2 : Nat) []) > (65536 : Int)))
                                (Tree.leaf
                                  (Sum.inl
                                    (Value.iface (9 : Nat)
                                      (Value.string { data := { toList := [(110 : UInt8), (111 : UInt8), (32 : UInt8), (108 : UInt8), (105 : UInt8), (110 : UInt8), (101 : UInt8)] } }))))
                                (Tree.br ((csetF x.1.2.2 (nodeP (List.getD (wordsF x.2) (1 : Nat) [])) (IntKind.wrap IntKind.u32 (numP (List.getD (wordsF x.2) (2 : Nat) [])))).2 != (0 : Int))
                                  (Tree.leaf
                                    (Sum.inl
                                      (Value.iface (9 : Nat)
                                        (Value.string { data := { toList := [(110 : UInt8), (111 : UInt8), (32 : UInt8), (108 : UInt8), (105 : UInt8), (110 : UInt8), (101 : UInt8)] } }))))
                                  (Tree.leaf
                                    (Sum.inr
                                      (x.1.1, x.1.2.1, (csetF x.1.2.2 (nodeP (List.getD (wordsF x.2) (1 : Nat) [])) (IntKind.wrap IntKind.u32 (numP (List.getD (wordsF x.2) (2 : Nat) [])))).1)))))))))))
                  (Tree.leaf
                    (Sum.inl
                      (Value.iface (9 : Nat) (Value.string { data := { toList := [(110 : UInt8), (111 : UInt8), (32 : UInt8), (108 : UInt8), (105 : UInt8), (110 : UInt8), (101 : UInt8)] } }))))))))))) := by kernel_rfl
theorem mline_ok : DCtrOK Tryd.prog 149 mlineC :=
  funD_ok (G := mlineG) (Λ := []) (D := mlineK) tysOK (ctrs_cons ssplit_ok (ctrs_cons cset_ok (ctrs_cons mnode_ok.ctr (ctrs_cons mnum_ok.ctr ctrs_nil)))) (ds_cons mnode_ok (by kernel_rfl) (ds_cons mnum_ok (by kernel_rfl) ds_nil)) mixed (by kernel_rfl) (by kernel_rfl) (by kernel_rfl) (by kernel_rfl) lp_nil fun (x : DConf × List UInt8) hw hp => by
    have e1 : mlineC.die x = lineBad x.1 (wordsF x.2) := rfl
    have e2 : mlineC.val x = noLineV := rfl
    have e3 : mlineC.fn x = lineN x.1 (wordsF x.2) := rfl
    rw [e1, e2, e3]
    have k2 : evFnD (mkC tys mlineG [] false mlineK) (fnOf Tryd.prog 149) (resL mlineC.args x) mlineC.res = _ := congrFun mline_tree x
    rw [k2]
    have hlen : x.2.length ≤ 10000 := hp
    have hpos := words_pos x.2
    generalize wordsF x.2 = w at hpos ⊢
    simp only [Tree.holds]
    refine ⟨⟨hlen, rfl⟩, ⟨by omega, by omega⟩, fun hA => ?_, fun hA => ?_⟩
    · have hA' : isLine w wNode 2 = true := hA
      have hl := isLine_len hA'
      obtain ⟨b1, b2⟩ := lb_node (c := x.1) hA'
      rw [b1, b2]
      exact ⟨⟨by omega, by omega⟩, trivial, fun h => by rw [h]; rfl, fun h => ⟨⟨trivial, h⟩, by rw [h]; rfl⟩⟩
    · have hA' : isLine w wNode 2 = false := hA
      refine ⟨⟨by omega, by omega⟩, fun hB => ?_, fun hB => ?_⟩
      · have hB' : isLine w wRules 5 = true := hB
        have hl := isLine_len hB'
        obtain ⟨b1, b2⟩ := lb_rules (c := x.1) hA' hB'
        rw [b1, b2]
        refine ⟨⟨by omega, by omega⟩, trivial, ⟨by omega, by omega⟩, trivial, ⟨by omega, by omega⟩, trivial, ⟨by omega, by omega⟩, trivial, fun h1 => ⟨fun _ => trivial, fun _ => trivial, fun _ => trivial, ?_⟩, fun h1 => ⟨fun h2 => ⟨fun _ => trivial, fun _ => trivial, ?_⟩, fun h2 => ⟨fun h3 => ⟨fun _ => trivial, ?_⟩, fun h3 => ⟨fun h4 => ?_, fun h4 => ?_⟩⟩⟩⟩
        · rw [show negP (rulesP w).1 = true from h1]; rfl
        · rw [show negP (rulesP w).1 = false from h1, show negP (rulesP w).2.1 = true from h2]; rfl
        · rw [show negP (rulesP w).1 = false from h1, show negP (rulesP w).2.1 = false from h2, show negP (rulesP w).2.2.1 = true from h3]; rfl
        · rw [show negP (rulesP w).1 = false from h1, show negP (rulesP w).2.1 = false from h2, show negP (rulesP w).2.2.1 = false from h3, show negP (rulesP w).2.2.2 = true from h4]; rfl
        · rw [show negP (rulesP w).1 = false from h1, show negP (rulesP w).2.1 = false from h2, show negP (rulesP w).2.2.1 = false from h3, show negP (rulesP w).2.2.2 = false from h4]; rfl
      · have hB' : isLine w wRules 5 = false := hB
        refine ⟨⟨by omega, by omega⟩, fun hC => ?_, fun hC => ?_⟩
        · have hC' : isLine w wLink 3 = true := hC
          have hl := isLine_len hC'
          obtain ⟨b1, b2⟩ := lb_link (c := x.1) hA' hB' hC'
          rw [b1, b2]
          refine ⟨⟨by omega, by omega⟩, trivial, ⟨by omega, by omega⟩, trivial, fun h1 => ⟨fun _ => trivial, ?_⟩, fun h1 => ⟨fun h2 => ?_, fun h2 => ⟨fun h3 => ?_, fun h3 => ⟨fun h4 => ?_, fun h4 => ?_⟩⟩⟩⟩
          · rw [h1]; rfl
          · rw [h1, h2]; rfl
          · rw [h1, h2, h3]; rfl
          · rw [h1, h2, h3, show ((setP x.1 w).2 != (0 : Int)) = true from h4]; rfl
          · rw [h1, h2, h3, show ((setP x.1 w).2 != (0 : Int)) = false from h4]; rfl
        · rw [lb_none hA' hB' hC]; rfl
end Go.Ev.D
/- A line read: a closure recovers. -/
set_option linter.unusedVariables false
set_option linter.unusedSimpArgs false
namespace Go.Ev.D
open Go.Proofs Go.Conc
noncomputable def rlB (i : Nat) : Code := rNth (bodyOf (fnOf Tryd.prog 133)) i
noncomputable def rcB (i : Nat) : Code := rNth (bodyOf (fnOf Tryd.prog 148)) i
@[reducible] def rlT : List (Nat × Sh) := [(1, .val .str), (2, .ptr 2 gConf), (4, .ptr 4 gConf), (5, .ptr 5 .bool)]
@[reducible] def rlM : List (Nat × BSh) := [(2, .var gConf), (4, .var gConf), (5, .var .bool)]
abbrev RlS := (List UInt8 × Unit) × (DConf × DConf × Bool × Unit)
def mline1G : List (Nat × Ctr) := [(149, DCtr.ctr mlineC)]
def mline1K : List (Nat × DCtr) := [(149, mlineC)]
theorem rl0_tree : (fun x : DConf × List UInt8 => endT (mkC tys [] []) rlT rlM [rlB 0] { tmps := number 0 (resL [gConf, .str] x), boxes := [] }) =
  (fun x => Tree.leaf (Ex.normal, some ((x.2, ()), x.1, ((0 : Int), ((0 : Int), (0 : Int), (0 : Int), (0 : Int)), (0 : Int), List.replicate (16 : Nat) (0 : Int)), false, ()))) := by kernel_rfl
theorem rl2_tree : (fun x : RlS => endT (mkC tys mline1G [] false mline1K) rlT rlM [rlB 2, rlB 3] (mkS rlT rlM x)) =
  (fun x =>
    Tree.need (List.length x.1.1 ≤ (10000 : Nat))
      (Tree.br (lineBad x.2.1 (wordsF x.1.1))
        (Tree.leaf
          (Ex.die (Value.iface (9 : Nat) (Value.string { data := { toList := [(110 : UInt8), (111 : UInt8), (32 : UInt8), (108 : UInt8), (105 : UInt8), (110 : UInt8), (101 : UInt8)] } })),
            some ((x.1.1, ()), x.2.1, x.2.2.1, x.2.2.2.1, ())))
        (Tree.need (List.length x.1.1 ≤ (10000 : Nat) ∧ lineBad x.2.1 (wordsF x.1.1) = false) (Tree.leaf (Ex.ret, some ((x.1.1, ()), x.2.1, lineN x.2.1 (wordsF x.1.1), true, ())))))) := by kernel_rfl
theorem rc1_tree : (fun x : RlS => (runOpsC (mkC tys [] []) [rOp (rThen (rcB 1)) 0, rOp (rThen (rcB 1)) 1, rOp (rThen (rcB 1)) 2] { tmps := [(0, .ptr 4 gConf []), (1, .ptr 5 .bool [])], boxes := (mkS rlT rlM x).boxes }).bind fun s => Tree.leaf s.boxes) =
  (fun x =>
    Tree.leaf
      [((2 : Nat), false,
          Box.var
            (GTy.prod (GTy.int IntKind.i64)
              (GTy.prod (GTy.prod (GTy.int IntKind.i64) (GTy.prod (GTy.int IntKind.i64) (GTy.prod (GTy.int IntKind.i64) (GTy.int IntKind.i64))))
                (GTy.prod (GTy.int IntKind.i64) (GTy.arr (16 : Nat) (GTy.int IntKind.u32)))))
            x.2.1),
        ((4 : Nat), true,
          Box.var
            (GTy.prod (GTy.int IntKind.i64)
              (GTy.prod (GTy.prod (GTy.int IntKind.i64) (GTy.prod (GTy.int IntKind.i64) (GTy.prod (GTy.int IntKind.i64) (GTy.int IntKind.i64))))
                (GTy.prod (GTy.int IntKind.i64) (GTy.arr (16 : Nat) (GTy.int IntKind.u32)))))
            ((0 : Int), ((0 : Int), (0 : Int), (0 : Int), (0 : Int)), (0 : Int), List.replicate (16 : Nat) (0 : Int))),
        ((5 : Nat), true, Box.var GTy.bool false)]) := by kernel_rfl
theorem rl_all : seqs (bodyOf (fnOf Tryd.prog 133)) = [rlB 0, rlB 1, rlB 2, rlB 3] := by kernel_rfl
theorem rl_1 : rlB 1 = .region 1 (rOps (rlB 1)) false := by kernel_rfl
theorem rl_n : (fnOf Tryd.prog 133).ntmps = 10 := by kernel_rfl
theorem rc_body : (fnOf Tryd.prog 148).body = some (.seq (rcB 0) (rcB 1)) := by kernel_rfl
theorem rc_0 : rcB 0 = .region 0 (rOps (rcB 0)) false := by kernel_rfl
theorem rc_1 : rcB 1 = .cond (.tmp 3) (rThen (rcB 1)) .skip := by kernel_rfl
theorem rc_1r : rThen (rcB 1) = .region 1 (rOps (rThen (rcB 1))) false := by kernel_rfl
theorem rc_1l : (rOps (rThen (rcB 1))).toList = [rOp (rThen (rcB 1)) 0, rOp (rThen (rcB 1)) 1, rOp (rThen (rcB 1)) 2] := by kernel_rfl
theorem rc_n : (fnOf Tryd.prog 148).ntmps = 5 := by kernel_rfl
theorem rc_res : (fnOf Tryd.prog 148).results = #[] := by kernel_rfl
theorem rc_f : Tryd.prog.funcs[148]? = some (fnOf Tryd.prog 148) := fnOf_eq (by kernel_rfl)
theorem rc_any : Tryd.prog.underlying 20 = some (.interface #[]) := by kernel_rfl
attribute [local irreducible] fnOf bodyOf
def rcOut (x : RlS) : Bxs := [(2, false, .var gConf x.2.1), (4, true, .var gConf zeroConf), (5, true, .var .bool false)]
theorem rc_none (tmps : Array Value) (w : World) : (results (fnOf Tryd.prog 148) tmps).run Tryd.prog w = .ok (.tuple #[]) w := by
  simp [results, rc_res]
theorem rc_catch {R : Ref} {M : Mem} {x : RlS} {u4 u5 : Value} (I : InvM R M) (hb : M.bs = (mkS rlT rlM x).boxes) (h4 : RelV M (.ptr 4 gConf []) u4) (h5 : RelV M (.ptr 5 .bool []) u5) (ty : TypeId) (pv : Value) :
    CallsD Tryd.prog 148 #[u4, u5] (.panicking [{ v := .iface ty pv, recovered := false }]) M.w fun e u' w' => (∃ v, e = .returned v) ∧ u' = .panicking [{ v := .iface ty pv, recovered := true }] ∧ ∃ M', M'.w = w' ∧ InvM R M' ∧ Step M M' (fun _ => False) ∧ M'.bs = rcOut x := by
  refine callsD_of_wpS rc_f rc_body fun c₀ cs hu => ?_
  refine wpS_seq ?_
  rw [rc_0, rc_n]
  refine wpS_region ?_
  rw [show List.range (rOps (rcB 0)).size = [0, 1] by kernel_rfl]
  have hrec : recoverD (c₀ :: cs) = some (.iface ty pv, { c₀ with mode := .panicking [{ v := .iface ty pv, recovered := true }] } :: cs) := by simp [recoverD, hu]
  refine opsS_recover (o := rOp (rcB 0) 0) (by kernel_rfl) (by kernel_rfl) (by kernel_rfl) hrec ?_
  rw [show (rOp (rcB 0) 0).dst = some 2 by kernel_rfl]
  refine opsS_value (o := rOp (rcB 0) 1) (v := .bool true) (w' := M.w) (by kernel_rfl) (by kernel_rfl) (run_neq_some (t := 20) (ty' := 20) (ty := ty) (u := pv) (x := .tmp 2) rc_any (by kernel_rfl) (by simp [Act.put, Act.eval]) rfl) ?_
  rw [show (rOp (rcB 0) 1).dst = some 3 by kernel_rfl]
  show (rcB 1).wpS _ _ _ _ _
  rw [rc_1]
  refine wpS_cond (t := true) (by simp [Act.put, Act.eval]) ?_
  rw [if_pos rfl]
  refine wpS_of_wp ?_
  rw [rc_1r]
  refine wp_region ?_
  rw [List.range_eq_range', show (rOps (rThen (rcB 1))).size = [rOp (rThen (rcB 1)) 0, rOp (rThen (rcB 1)) 1, rOp (rThen (rcB 1)) 2].length by kernel_rfl]
  have key : ((runOpsC (mkC tys [] []) [rOp (rThen (rcB 1)) 0, rOp (rThen (rcB 1)) 1, rOp (rThen (rcB 1)) 2] { tmps := [(0, .ptr 4 gConf []), (1, .ptr 5 .bool [])], boxes := (mkS rlT rlM x).boxes }).bind fun s => Tree.leaf s.boxes).holds (fun y => y = rcOut x) := by
    have k2 : ((runOpsC (mkC tys [] []) [rOp (rThen (rcB 1)) 0, rOp (rThen (rcB 1)) 1, rOp (rThen (rcB 1)) 2] { tmps := [(0, .ptr 4 gConf []), (1, .ptr 5 .bool [])], boxes := (mkS rlT rlM x).boxes }).bind fun s => Tree.leaf s.boxes) = _ := congrFun rc1_tree x
    rw [k2]
    rfl
  refine runOpsC_wp (C := mkC tys [] []) tysOK ctrs_nil (M0 := M) (R := R) [rOp (rThen (rcB 1)) 0, rOp (rThen (rcB 1)) 1, rOp (rThen (rcB 1)) 2] 0 { tmps := [(0, .ptr 4 gConf []), (1, .ptr 5 .bool [])], boxes := (mkS rlT rlM x).boxes } _ M _ (fun i o hi => ?_) (fun o ho => ?_) hb I (fun t => ?_) (Step.refl M _) (holds_bind.1 key) ?_
  · rw [Nat.zero_add, ← Array.getElem?_toList, rc_1l]; exact hi
  · have := farO_all (n := 5) (ds := []) (l := [rOp (rThen (rcB 1)) 0, rOp (rThen (rcB 1)) 1, rOp (rThen (rcB 1)) 2]) (by kernel_rfl) o ho
    exact ⟨this.1, fun d hd => by have := this.2 d hd; simpa [Act.put] using this⟩
  · match t with
    | 0 => simpa [St.look, lk, Act.put] using h4
    | 1 => simpa [St.look, lk, Act.put] using h5
    | t + 2 =>
      show RelV M .undef _
      simp [RelV]
  · intro s' a' M' hF hb' I' hr' hst hdef
    refine ⟨by rw [hdef]; simp [Act.put], _, rfl, .tuple #[], rc_none _ _, ⟨_, rfl⟩, rfl, M', rfl, I', hst, hb'.trans hF⟩
theorem rc_idle {u4 u5 : Value} (w : World) :
    CallsD Tryd.prog 148 #[u4, u5] .returning w fun e u' w' => (∃ v, e = .returned v) ∧ u' = .returning ∧ w' = w := by
  refine callsD_of_wpS rc_f rc_body fun c₀ cs hu => ?_
  refine wpS_seq ?_
  rw [rc_0, rc_n]
  refine wpS_region ?_
  rw [show List.range (rOps (rcB 0)).size = [0, 1] by kernel_rfl]
  have hrec : recoverD (c₀ :: cs) = none := by simp [recoverD, hu]
  refine opsS_idle (o := rOp (rcB 0) 0) (by kernel_rfl) (by kernel_rfl) (by kernel_rfl) hrec ?_
  rw [show (rOp (rcB 0) 0).dst = some 2 by kernel_rfl]
  refine opsS_value (o := rOp (rcB 0) 1) (v := .bool false) (w' := w) (by kernel_rfl) (by kernel_rfl) (run_neq_none (t := 20) (ty' := 20) (x := .tmp 2) rc_any (by kernel_rfl) (by simp [Act.put, Act.eval]) rfl) ?_
  rw [show (rOp (rcB 0) 1).dst = some 3 by kernel_rfl]
  show (rcB 1).wpS _ _ _ _ _
  rw [rc_1]
  refine wpS_cond (t := false) (by simp [Act.put, Act.eval]) ?_
  rw [if_neg (by simp)]
  refine wpS_of_wp (wp_skip ?_)
  refine ⟨by simp [Act.put], .returning, by rw [← hu], .tuple #[], rc_none _ _, ⟨_, rfl⟩, rfl, rfl⟩
theorem rl_look6 {x : RlS} : ((mkS rlT rlM x).after (rOp (rlB 1) 0) ⟨.clo 148 [.ptr 4 gConf [], .ptr 5 .bool []], [], none⟩).look 6 = .clo 148 [.ptr 4 gConf [], .ptr 5 .bool []] := by kernel_rfl
theorem rl_look4 {x : RlS} : ((mkS rlT rlM x).after (rOp (rlB 1) 0) ⟨.clo 148 [.ptr 4 gConf [], .ptr 5 .bool []], [], none⟩).look 4 = .ptr 4 gConf [] := by kernel_rfl
theorem rl_look5 {x : RlS} : ((mkS rlT rlM x).after (rOp (rlB 1) 0) ⟨.clo 148 [.ptr 4 gConf [], .ptr 5 .bool []], [], none⟩).look 5 = .ptr 5 .bool [] := by kernel_rfl
theorem rl_restr {x : RlS} : restrict { prom := [], keep := rlT.map (·.1), boxes := rlM.map (·.1), sum := fun _ => .stuck } ((mkS rlT rlM x).after (rOp (rlB 1) 0) ⟨.clo 148 [.ptr 4 gConf [], .ptr 5 .bool []], [], none⟩) = some (mkS rlT rlM x) := by kernel_rfl
theorem rl_fin {x : RlS} {c : DConf} {ok : Bool} {f f' : Bool} : (evRes (mkC tys [] []) (fnOf Tryd.prog 133) [gConf, .bool] (.normal, { tmps := (mkS rlT rlM x).tmps, boxes := [(2, false, .var gConf x.2.1), (4, f, .var gConf c), (5, f', .var .bool ok)] })) = .leaf (c, ok) := by kernel_rfl
def linePre (x : DConf × List UInt8) : Prop := x.2.length ≤ 10000
def rlineC : Ctr := { args := [gConf, .str], res := [gConf, .bool], pre := some linePre, fn := fun (x : DConf × List UInt8) => lineF x.1 x.2 }
theorem rline_ok : CtrOK Tryd.prog 133 rlineC :=
  ctr_of_toD (C := mkC tys [] []) tysOK (by kernel_rfl) (by kernel_rfl) (by kernel_rfl) (fun x => by rw [rl_n]; show 2 ≤ 10; omega) fun R0 b (x : DConf × List UInt8) a0 Rp fin hw hp h0 hsz0 hd0 => by
    rw [rl_n] at hsz0
    have hlen : x.2.length ≤ 10000 := hp linePre rfl
    rw [rl_all]
    show LTo Tryd.prog b ([rlB 0] ++ [rlB 1, rlB 2, rlB 3]) _ a0 R0.w0
    refine end_to (C := mkC tys [] []) tysOK ctrs_nil mixed (dsOK_nil rfl) (ts := rlT) (bs := rlM) (G := fun z => z = (.normal, some ((x.2, ()), x.1, zeroConf, false, ()))) (calmL_lam (n := 10) (d := 99) (by kernel_rfl)) (fun c hc t ht => by rw [hsz0]; exact (calmL_wr (n := 10) (d := 99) (cs := [rlB 0]) (by kernel_rfl) c hc t ht).1) h0 ?_ ?_ (fun z h => by cases h)
    · have k2 : endT (mkC tys [] []) rlT rlM [rlB 0] { tmps := number 0 (resL [gConf, .str] x), boxes := [] } = _ := congrFun rl0_tree x
      exact (congrArg (Tree.holds _) k2).mpr rfl
    intro z y a1 w1 hz h1 hs1 hd1 _
    simp only [Prod.mk.injEq, Option.some.injEq] at hz
    obtain ⟨rfl, rfl⟩ := hz
    show LTo Tryd.prog b [rlB 1, rlB 2, rlB 3] _ a1 w1
    refine LTo.cons ?_
    rw [rl_1]
    refine CodeTo.of_wp (wp_region ?_)
    rw [show List.range (rOps (rlB 1)).size = [0, 1] by kernel_rfl]
    simp only [wpOps, show (rOps (rlB 1))[0]? = some (rOp (rlB 1) 0) by kernel_rfl, show (rOps (rlB 1))[1]? = some (rOp (rlB 1) 1) by kernel_rfl]
    rw [if_pos (by simp [Region.wanted, show (rOp (rlB 1) 0).guard = none by kernel_rfl])]
    have hdst : (rOp (rlB 1) 0).dst = some 6 := by kernel_rfl
    refine .inl (op_wp (C := mkC tys [] []) tysOK ctrs_nil h1 (e := ⟨.clo 148 [.ptr 4 gConf [], .ptr 5 .bool []], [], none⟩) (by kernel_rfl) (fun p hp => by cases hp) (fun k hk => by rw [hdst] at hk; cases hk; rw [hs1, hsz0]; exact (by omega : (6 : Nat) < 10)) (fun a2 w2 h2 hap => ?_))
    rw [if_pos (by simp [Region.wanted, show (rOp (rlB 1) 1).guard = none by kernel_rfl])]
    refine .inl (defer_wp (x := .tmp 6) (f := 148) (caps := #[a2.tmps.getD 4 undef, a2.tmps.getD 5 undef]) (by kernel_rfl) ?_ ?_)
    · obtain ⟨M, _, _, _, hr⟩ := h2
      have r6 := hr 6
      have r4 := hr 4
      have r5 := hr 5
      rw [rl_look6] at r6
      rw [rl_look4] at r4
      rw [rl_look5] at r5
      rw [RelV] at r6
      obtain ⟨vs, h6, hl⟩ := r6
      show a2.tmps.getD 6 undef = _
      rw [h6]
      match hv : vs.toList, hl with
      | [u4, u5], hl =>
        simp only [RelL, and_true] at hl
        have e4 := ptr_same hl.1 r4
        have e5 := ptr_same hl.2 r5
        have : vs = #[u4, u5] := by apply Array.toList_inj.1; simpa using hv
        rw [this, e4, e5]
      | [], hl => simp [RelL] at hl
      | [_], hl => simp [RelL] at hl
      | _ :: _ :: _ :: _, hl => simp [RelL] at hl
    rw [show (rOp (rlB 1) 1).dst = none by kernel_rfl]
    have h3 := h2.restr (restrict_spec rl_restr)
    generalize hd4 : a2.tmps.getD 4 undef = u4
    generalize hd5 : a2.tmps.getD 5 undef = u5
    have hd2 : a2.defers = [] := hap.defers.trans (hd1.trans hd0)
    have hs2 : a2.tmps.size = 10 := hap.size.trans (hs1.trans hsz0)
    let a3 : Act := { a2 with defers := { target := .fn (.func 148) #[u4, u5], args := #[] } :: a2.defers }
    have h4 : IsSt R0 (mkS rlT rlM ((x.2, ()), x.1, zeroConf, false, ())) a3 w2 := h3
    show LTo Tryd.prog b ([rlB 2, rlB 3] ++ []) _ a3 w2
    refine end_to (C := mkC tys mline1G [] false mline1K) tysOK (ctrs_cons mline_ok.ctr ctrs_nil) mixed (ds_cons mline_ok (by kernel_rfl) ds_nil) (ts := rlT) (bs := rlM)
      (G := fun z => (lineBad x.1 (wordsF x.2) = true ∧ z = (.die noLineV, some ((x.2, ()), x.1, zeroConf, false, ()))) ∨ (lineBad x.1 (wordsF x.2) = false ∧ z = (.ret, some ((x.2, ()), x.1, lineN x.1 (wordsF x.2), true, ()))))
      (calmL_lam (n := 10) (d := 99) (by kernel_rfl)) (fun c hc t ht => by rw [show a3.tmps.size = 10 from hs2]; exact (calmL_wr (n := 10) (d := 99) (cs := [rlB 2, rlB 3]) (by kernel_rfl) c hc t ht).1) h4 ?_ ?_ (fun z h => by rcases h with ⟨_, h⟩ | ⟨_, h⟩ <;> cases h)
    · have k2 : endT (mkC tys mline1G [] false mline1K) rlT rlM [rlB 2, rlB 3] (mkS rlT rlM ((x.2, ()), x.1, zeroConf, false, ())) = _ := congrFun rl2_tree ((x.2, ()), x.1, zeroConf, false, ())
      refine (congrArg (Tree.holds _) k2).mpr ?_
      simp only [Tree.holds]
      exact ⟨hlen, fun h => .inl (by first | exact ⟨h, rfl⟩ | exact ⟨h, trivial⟩), fun h => ⟨⟨hlen, h⟩, .inr (by first | exact ⟨h, rfl⟩ | exact ⟨h, trivial⟩)⟩⟩
    intro z y a4 w4 hz h5 hs4 hd4' htm
    have hdef : a4.defers = [{ target := .fn (.func 148) #[u4, u5], args := #[] }] := by
      rw [hd4']
      show _ :: a2.defers = _
      rw [hd2]
    have t4 : a4.tmps.getD 4 undef = u4 := (htm 4 (farL_out (ts := [4, 5]) (cs := [rlB 2, rlB 3]) (by kernel_rfl) (by simp))).trans hd4
    have t5 : a4.tmps.getD 5 undef = u5 := (htm 5 (farL_out (ts := [4, 5]) (cs := [rlB 2, rlB 3]) (by kernel_rfl) (by simp))).trans hd5
    obtain ⟨M, rfl, hb, I, hr⟩ := h5
    have hinv : ∀ w, (invoke (.fn (.func 148) #[u4, u5]) #[]).run Tryd.prog w = .ok (.enter 148 #[u4, u5]) w := invoke_fn rc_f (by kernel_rfl) (by kernel_rfl)
    rcases hz with ⟨hbad, hz⟩ | ⟨hgood, hz⟩
    · simp only [Prod.mk.injEq, Option.some.injEq] at hz
      obtain ⟨rfl, rfl⟩ := hz
      show Leaves Tryd.prog _ a4.tmps Rp a4.defers (.panicking [{ v := noLineV, recovered := false }]) M.w
      rw [hdef]
      refine leaves_cons (by simp) (hinv _) ?_
      have q4 := hr 4
      have q5 := hr 5
      rw [show (mkS rlT rlM ((x.2, ()), x.1, zeroConf, false, ())).look 4 = .ptr 4 gConf [] by kernel_rfl, t4] at q4
      rw [show (mkS rlT rlM ((x.2, ()), x.1, zeroConf, false, ())).look 5 = .ptr 5 .bool [] by kernel_rfl, t5] at q5
      refine (rc_catch I hb q4 q5 9 (.string ⟨⟨[110, 111, 32, 108, 105, 110, 101]⟩⟩)).mono ?_
      rintro e u' w'' ⟨⟨v, rfl⟩, rfl, M', rfl, I', hst, hb'⟩
      refine fin { tmps := (mkS rlT rlM ((x.2, ()), x.1, zeroConf, false, ())).tmps, boxes := rcOut ((x.2, ()), x.1, zeroConf, false, ()) } a4 M'.w ⟨M', rfl, hb', I', fun t => (hr t).step hst (fun b hb => hb.elim)⟩ ?_
      have k3 := rl_fin (x := ((x.2, ()), x.1, zeroConf, false, ())) (c := zeroConf) (ok := false) (f := true) (f' := true)
      refine (congrArg (Tree.holds _) k3).mpr ?_
      show (zeroConf, false) = lineF x.1 x.2
      unfold lineF
      rw [hbad]; rfl
    · simp only [Prod.mk.injEq, Option.some.injEq] at hz
      obtain ⟨rfl, rfl⟩ := hz
      show Leaves Tryd.prog _ a4.tmps Rp a4.defers .returning M.w
      rw [hdef]
      refine leaves_cons (by simp) (hinv _) ?_
      refine (rc_idle M.w).mono ?_
      rintro e u' w'' ⟨⟨v, rfl⟩, rfl, rfl⟩
      refine fin { tmps := (mkS rlT rlM ((x.2, ()), x.1, lineN x.1 (wordsF x.2), true, ())).tmps, boxes := [(2, false, .var gConf x.1), (4, false, .var gConf (lineN x.1 (wordsF x.2))), (5, false, .var .bool true)] } a4 M.w ⟨M, rfl, hb, I, hr⟩ ?_
      have k3 := rl_fin (x := ((x.2, ()), x.1, zeroConf, false, ())) (c := lineN x.1 (wordsF x.2)) (ok := true) (f := false) (f' := false)
      refine (congrArg (Tree.holds _) k3).mpr ?_
      show (lineN x.1 (wordsF x.2), true) = lineF x.1 x.2
      unfold lineF
      rw [hgood]; rfl
end Go.Ev.D
/- A configuration parsed. -/
set_option linter.unusedVariables false
set_option linter.unusedSimpArgs false
namespace Go.Ev.D
open Go.Proofs
def cpfG : List (Nat × Ctr) := [(132, scutC), (133, rlineC), (63, printC)]
theorem cpfG_ok : CtrsOK Tryd.prog (fun f => lk f cpfG) := (ctrs_cons scut_ok (ctrs_cons rline_ok (ctrs_cons print_ok ctrs_nil)))
def cpfD : LoopD where
  prom := []
  ts := [(2, .ptr 2 gConf), (3, .val (.int .i64)), (4, .val (.int .i64)), (5, .ptr 5 gConf), (6, .val .str), (7, .val (.int .i64))]
  bs := [(2, .var gConf), (5, .var gConf)]
  pre := fun (x : CpfS) => cpfPre x
  out := fun (x : CpfS) => out2 0 (runF cpfStp (cpfMu x + 1) x)
theorem cpf_round : (fun x : CpfS => roundOf (mkC tys cpfG [(0, cpfD.spec)]) cpfD (loopB 0 (bodyOf (fnOf Tryd.prog 75))) x) =
  (fun x =>
    Tree.br (!x.1.2.2.1 == [])
      (Tree.need (List.length x.1.2.2.1 ≤ (10000 : Nat))
        (Tree.br (!(Lib.cut x.1.2.2.1 [(10 : UInt8)]).2.2)
          (Tree.leaf
            (Ex.ret, some ((x.1.2.2.2.1, (2 : Int), x.1.2.2.1, x.1.2.2.2.1, ()), ((0 : Int), ((0 : Int), (0 : Int), (0 : Int), (0 : Int)), (0 : Int), List.replicate (16 : Nat) (0 : Int)), x.2.2.1, ())))
          (Tree.need (List.length (Lib.cut x.1.2.2.1 [(10 : UInt8)]).1 ≤ (10000 : Nat))
            (Tree.br (!(lineF x.2.2.1 (Lib.cut x.1.2.2.1 [(10 : UInt8)]).1).2)
              (Tree.leaf
                (Ex.ret,
                  some ((x.1.2.2.2.1, (3 : Int), x.1.2.2.1, x.1.2.2.2.1, ()), ((0 : Int), ((0 : Int), (0 : Int), (0 : Int), (0 : Int)), (0 : Int), List.replicate (16 : Nat) (0 : Int)), x.2.2.1, ())))
              (Tree.leaf
                (Ex.normal,
                  some
                    ((x.1.1, x.1.2.1, (Lib.cut x.1.2.2.1 [(10 : UInt8)]).2.1, IntKind.wrap IntKind.i64 (x.1.2.2.2.1 + (1 : Int)), ()), x.2.1, (lineF x.2.2.1 (Lib.cut x.1.2.2.1 [(10 : UInt8)]).1).1,
                      ())))))))
      (Tree.leaf (Ex.exit (0 : Nat), some ((x.1.1, x.1.2.1, x.1.2.2.1, x.1.2.2.2.1, ()), x.2.1, x.2.2.1, ())))) := by kernel_rfl
def cpfC : Ctr := { args := [.str], res := [gConf, .int .i64, .int .i64], pre := none, fn := fun (x : List UInt8) => parseF x }
theorem cpf_tree : (fun x : List UInt8 => evFn (mkC tys cpfG [(0, cpfD.spec)]) (fnOf Tryd.prog 75) (resL [.str] x) [gConf, .int .i64, .int .i64]) =
  (fun x =>
    Tree.br (decide ((↑(List.length x) : Int) > (2000 : Int)))
      (Tree.leaf (((0 : Int), ((0 : Int), (0 : Int), (0 : Int), (0 : Int)), (0 : Int), List.replicate (16 : Nat) (0 : Int)), (0 : Int), (4 : Int)))
      (Tree.need
        (cpfPre
          (((0 : Int), (0 : Int), x, (1 : Int), PUnit.unit), ((0 : Int), ((0 : Int), (0 : Int), (0 : Int), (0 : Int)), (0 : Int), List.replicate (16 : Nat) (0 : Int)),
            ((0 : Int), ((0 : Int), (0 : Int), (0 : Int), (0 : Int)), (0 : Int), List.replicate (16 : Nat) (0 : Int)), PUnit.unit))
        (Tree.br
          (isRet
            (runF cpfStp
                (cpfMu
                    (((0 : Int), (0 : Int), x, (1 : Int), PUnit.unit), ((0 : Int), ((0 : Int), (0 : Int), (0 : Int), (0 : Int)), (0 : Int), List.replicate (16 : Nat) (0 : Int)),
                      ((0 : Int), ((0 : Int), (0 : Int), (0 : Int), (0 : Int)), (0 : Int), List.replicate (16 : Nat) (0 : Int)), PUnit.unit) +
                  (1 : Nat))
                (((0 : Int), (0 : Int), x, (1 : Int), PUnit.unit), ((0 : Int), ((0 : Int), (0 : Int), (0 : Int), (0 : Int)), (0 : Int), List.replicate (16 : Nat) (0 : Int)),
                  ((0 : Int), ((0 : Int), (0 : Int), (0 : Int), (0 : Int)), (0 : Int), List.replicate (16 : Nat) (0 : Int)), PUnit.unit)).1)
          (Tree.leaf
            ((runF cpfStp
                      (cpfMu
                          (((0 : Int), (0 : Int), x, (1 : Int), PUnit.unit), ((0 : Int), ((0 : Int), (0 : Int), (0 : Int), (0 : Int)), (0 : Int), List.replicate (16 : Nat) (0 : Int)),
                            ((0 : Int), ((0 : Int), (0 : Int), (0 : Int), (0 : Int)), (0 : Int), List.replicate (16 : Nat) (0 : Int)), PUnit.unit) +
                        (1 : Nat))
                      (((0 : Int), (0 : Int), x, (1 : Int), PUnit.unit), ((0 : Int), ((0 : Int), (0 : Int), (0 : Int), (0 : Int)), (0 : Int), List.replicate (16 : Nat) (0 : Int)),
                        ((0 : Int), ((0 : Int), (0 : Int), (0 : Int), (0 : Int)), (0 : Int), List.replicate (16 : Nat) (0 : Int)), PUnit.unit)).2.2.1,
              (runF cpfStp
                      (cpfMu
                          (((0 : Int), (0 : Int), x, (1 : Int), PUnit.unit), ((0 : Int), ((0 : Int), (0 : Int), (0 : Int), (0 : Int)), (0 : Int), List.replicate (16 : Nat) (0 : Int)),
                            ((0 : Int), ((0 : Int), (0 : Int), (0 : Int), (0 : Int)), (0 : Int), List.replicate (16 : Nat) (0 : Int)), PUnit.unit) +
                        (1 : Nat))
                      (((0 : Int), (0 : Int), x, (1 : Int), PUnit.unit), ((0 : Int), ((0 : Int), (0 : Int), (0 : Int), (0 : Int)), (0 : Int), List.replicate (16 : Nat) (0 : Int)),
                        ((0 : Int), ((0 : Int), (0 : Int), (0 : Int), (0 : Int)), (0 : Int), List.replicate (16 : Nat) (0 : Int)), PUnit.unit)).2.1.1,
              (runF cpfStp
                        (cpfMu
                            (((0 : Int), (0 : Int), x, (1 : Int), PUnit.unit), ((0 : Int), ((0 : Int), (0 : Int), (0 : Int), (0 : Int)), (0 : Int), List.replicate (16 : Nat) (0 : Int)),
                              ((0 : Int), ((0 : Int), (0 : Int), (0 : Int), (0 : Int)), (0 : Int), List.replicate (16 : Nat) (0 : Int)), PUnit.unit) +
                          (1 : Nat))
                        (((0 : Int), (0 : Int), x, (1 : Int), PUnit.unit), ((0 : Int), ((0 : Int), (0 : Int), (0 : Int), (0 : Int)), (0 : Int), List.replicate (16 : Nat) (0 : Int)),
                          ((0 : Int), ((0 : Int), (0 : Int), (0 : Int), (0 : Int)), (0 : Int), List.replicate (16 : Nat) (0 : Int)), PUnit.unit)).2.1.2.1))
          (Tree.br
            (bif
                (printF
                      (runF cpfStp
                                (cpfMu
                                    (((0 : Int), (0 : Int), x, (1 : Int), PUnit.unit), ((0 : Int), ((0 : Int), (0 : Int), (0 : Int), (0 : Int)), (0 : Int), List.replicate (16 : Nat) (0 : Int)),
                                      ((0 : Int), ((0 : Int), (0 : Int), (0 : Int), (0 : Int)), (0 : Int), List.replicate (16 : Nat) (0 : Int)), PUnit.unit) +
                                  (1 : Nat))
                                (((0 : Int), (0 : Int), x, (1 : Int), PUnit.unit), ((0 : Int), ((0 : Int), (0 : Int), (0 : Int), (0 : Int)), (0 : Int), List.replicate (16 : Nat) (0 : Int)),
                                  ((0 : Int), ((0 : Int), (0 : Int), (0 : Int), (0 : Int)), (0 : Int), List.replicate (16 : Nat) (0 : Int)), PUnit.unit)).2.2.2.1).2 !=
                  (0 : Int) then
              true
            else
              !(printF
                      (runF cpfStp
                                (cpfMu
                                    (((0 : Int), (0 : Int), x, (1 : Int), PUnit.unit), ((0 : Int), ((0 : Int), (0 : Int), (0 : Int), (0 : Int)), (0 : Int), List.replicate (16 : Nat) (0 : Int)),
                                      ((0 : Int), ((0 : Int), (0 : Int), (0 : Int), (0 : Int)), (0 : Int), List.replicate (16 : Nat) (0 : Int)), PUnit.unit) +
                                  (1 : Nat))
                                (((0 : Int), (0 : Int), x, (1 : Int), PUnit.unit), ((0 : Int), ((0 : Int), (0 : Int), (0 : Int), (0 : Int)), (0 : Int), List.replicate (16 : Nat) (0 : Int)),
                                  ((0 : Int), ((0 : Int), (0 : Int), (0 : Int), (0 : Int)), (0 : Int), List.replicate (16 : Nat) (0 : Int)), PUnit.unit)).2.2.2.1).1 ==
                  x)
            (Tree.leaf (((0 : Int), ((0 : Int), (0 : Int), (0 : Int), (0 : Int)), (0 : Int), List.replicate (16 : Nat) (0 : Int)), (0 : Int), (3 : Int)))
            (Tree.leaf
              ((runF cpfStp
                          (cpfMu
                              (((0 : Int), (0 : Int), x, (1 : Int), PUnit.unit), ((0 : Int), ((0 : Int), (0 : Int), (0 : Int), (0 : Int)), (0 : Int), List.replicate (16 : Nat) (0 : Int)),
                                ((0 : Int), ((0 : Int), (0 : Int), (0 : Int), (0 : Int)), (0 : Int), List.replicate (16 : Nat) (0 : Int)), PUnit.unit) +
                            (1 : Nat))
                          (((0 : Int), (0 : Int), x, (1 : Int), PUnit.unit), ((0 : Int), ((0 : Int), (0 : Int), (0 : Int), (0 : Int)), (0 : Int), List.replicate (16 : Nat) (0 : Int)),
                            ((0 : Int), ((0 : Int), (0 : Int), (0 : Int), (0 : Int)), (0 : Int), List.replicate (16 : Nat) (0 : Int)), PUnit.unit)).2.2.2.1,
                (0 : Int), (0 : Int))))))) := by kernel_rfl
theorem cpf_loop : LoopOK (mkC tys cpfG [(0, cpfD.spec)]) cpfD.spec (loopB 0 (bodyOf (fnOf Tryd.prog 75))) :=
  loopF2_ok (id := 0) (D := cpfD) (fun x => congrFun cpf_round x) cpfStp cpfMu (fun _ => rfl) cpfStp_ends fun (x : CpfS) hp => by
    refine ⟨?_, fun hn => cpf_go hp hn⟩
    obtain ⟨⟨e, e2, r, n, ⟨⟩⟩, c2, c, ⟨⟩⟩ := x
    obtain ⟨h1, h2, h3⟩ := hp
    simp only at h1 h2 h3
    have hl := (cut_len r [10]).1
    simp only [Tree.holds, cpfStp]
    refine ⟨fun h => ⟨by omega, fun g => by rw [h, g]; rfl, fun g => ⟨by omega, fun k => by rw [h, g, k]; rfl, fun k => ?_⟩⟩, fun h => by rw [h]; rfl⟩
    rw [h, g, k, i64_id (n := n + 1) (by omega) (by omega)]
    rfl
theorem cpf_ok : CtrOK Tryd.prog 75 cpfC :=
  fun_ok (G := cpfG) (Λ := [(0, cpfD.spec)]) tysOK cpfG_ok mixed (by kernel_rfl) (by kernel_rfl) (by kernel_rfl) (by kernel_rfl) (lp_cons cpf_loop lp_nil) fun (x : List UInt8) hw hp => by
    show (evFn (mkC tys cpfG [(0, cpfD.spec)]) (fnOf Tryd.prog 75) (resL [.str] x) [gConf, .int .i64, .int .i64]).holds (fun y => y = parseF x)
    rw [congrFun cpf_tree x]
    unfold parseF
    by_cases hx : (x.length : Int) > 2000
    · rw [decide_eq_true hx]
      exact ⟨fun _ => rfl, fun h => by cases h⟩
    rw [decide_eq_false hx]
    obtain ⟨hp2, key⟩ := cpf_all (s := x) (by omega)
    refine ⟨fun h => (by cases h), fun _ => ⟨hp2, ?_⟩⟩
    simp only [cond_false]
    unfold cpfSt at key
    generalize parGo x [] 1 zeroConf = r at key ⊢
    generalize runF cpfStp _ _ = q at key ⊢
    simp only [Tree.holds]
    rcases key with ⟨k1, rfl, k3, k4⟩ | ⟨k1, rfl⟩
    · refine ⟨fun _ => ?_, fun h => ?_⟩
      · unfold parEnd
        simp only
        rw [k4, k3]; rfl
      · rw [k1] at h; cases h
    · refine ⟨fun h => ?_, fun _ => ⟨fun h => ?_, fun h => ?_⟩⟩
      · rw [k1] at h; cases h
      · unfold parEnd
        simp only
        rw [show ((0 : Int) != 0) = false by decide, h]; rfl
      · unfold parEnd
        simp only
        rw [show ((0 : Int) != 0) = false by decide, h]; rfl
end Go.Ev.D
/- The document's configurations as texts. -/
set_option linter.unusedVariables false
set_option linter.unusedSimpArgs false
namespace Go.Ev.D
open Go.Proofs
def pcdC (k : Nat) : Ctr := { args := [.int .i64], res := [.str], pre := some (fun (x : Int) => x < 10 ^ k), fn := fun (x : Int) => natT x.toNat }
theorem pcd_tree : (fun x : Nat × Int => evFn (mkC tys [(131, pcdC x.1)] []) (fnOf Tryd.prog 131) (resL [.int .i64] x.2) [.str]) =
  (fun x =>
    Tree.br (decide (x.2 < (10 : Int))) (Tree.leaf (bytesToStr [IntKind.wrap IntKind.u8 (IntKind.wrap IntKind.i64 ((48 : Int) + if (0 : Int) < x.2 then x.2 else (0 : Int)))]))
      (Tree.need (IntKind.wrap IntKind.i64 (Int.tdiv x.2 (10 : Int)) < (10 : Int) ^ x.1)
        (Tree.need
          (List.length (natT (Int.toNat (IntKind.wrap IntKind.i64 (Int.tdiv x.2 (10 : Int))))) +
              List.length (bytesToStr [IntKind.wrap IntKind.u8 (IntKind.wrap IntKind.i64 ((48 : Int) + Int.tmod x.2 (10 : Int)))]) ≤
            (4611686018427387904 : Nat))
          (Tree.leaf (natT (Int.toNat (IntKind.wrap IntKind.i64 (Int.tdiv x.2 (10 : Int)))) ++ bytesToStr [IntKind.wrap IntKind.u8 (IntKind.wrap IntKind.i64 ((48 : Int) + Int.tmod x.2 (10 : Int)))]))))) := by kernel_rfl
theorem pcd0_tree : (fun x : Int => evFn (mkC tys [] []) (fnOf Tryd.prog 131) (resL [.int .i64] x) [.str]) =
  (fun x => Tree.br (decide (x < (10 : Int))) (Tree.leaf (bytesToStr [IntKind.wrap IntKind.u8 (IntKind.wrap IntKind.i64 ((48 : Int) + if (0 : Int) < x then x else (0 : Int)))])) Tree.stuck) := by kernel_rfl
theorem pcd_ok : ∀ k, CtrOK Tryd.prog 131 (pcdC k)
  | 0 => fun_ok (G := []) (Λ := []) tysOK ctrs_nil mixed (by kernel_rfl) (by kernel_rfl) (by kernel_rfl) (by kernel_rfl) lp_nil fun (x : Int) hw hp => by
    have h : x < 10 ^ 0 := hp _ rfl
    show (evFn (mkC tys [] []) (fnOf Tryd.prog 131) (resL [.int .i64] x) [.str]).holds (fun y => y = natT x.toNat)
    rw [congrFun pcd0_tree x]
    simp only [Tree.holds]
    refine ⟨fun h1 => digs_low (by omega), fun h1 => ?_⟩
    have : ¬ x < 10 := of_decide_eq_false h1
    omega
  | k + 1 => fun_ok (G := [(131, pcdC k)]) (Λ := []) tysOK (ctrs_cons (pcd_ok k) ctrs_nil) mixed (by kernel_rfl) (by kernel_rfl) (by kernel_rfl) (by kernel_rfl) lp_nil fun (x : Int) hw hp => by
    have h : x < 10 ^ (k + 1) := hp _ rfl
    have hx : x ≤ 9223372036854775807 := by
      have : IntKind.i64.has x := hw
      exact ((has_i64 x).1 this).2
    show (evFn (mkC tys [(131, pcdC (k, x).1)] []) (fnOf Tryd.prog 131) (resL [.int .i64] (k, x).2) [.str]).holds (fun y => y = natT x.toNat)
    rw [congrFun pcd_tree (k, x)]
    simp only [Tree.holds]
    refine ⟨fun h1 => digs_low (of_decide_eq_true h1), fun h1 => ?_⟩
    have h10 : ¬ x < 10 := of_decide_eq_false h1
    have e := digs_quo h10 hx
    refine ⟨?_, ?_, digs_more h10 hx⟩
    · rw [e]
      rw [Int.pow_succ] at h
      omega
    · have h2 := digN_len 20 (Int.toNat (IntKind.wrap IntKind.i64 (Int.tdiv x (10 : Int))))
      have h3 : (bytesToStr [IntKind.wrap IntKind.u8 (IntKind.wrap IntKind.i64 ((48 : Int) + Int.tmod x (10 : Int)))]).length = 1 := rfl
      unfold natT
      omega
def pletterC : Ctr := { args := [.int .i64], res := [.str], pre := none, fn := fun (x : Int) => textN (withF 0 x) }
def pletterG : List (Nat × Ctr) := [(101, rwithC), (106, rtextC)]
theorem pletter_tree : (fun x : Int => evFn (mkC tys pletterG []) (fnOf Tryd.prog 130) (resL pletterC.args x) pletterC.res) =
  (fun x => Tree.leaf (textN (withF (0 : Int) x))) := by kernel_rfl
theorem pletter_ok : CtrOK Tryd.prog 130 pletterC :=
  fun_ok (G := pletterG) (Λ := []) tysOK (ctrs_cons rwith_ok (ctrs_cons rtext_ok ctrs_nil)) mixed (by kernel_rfl) (by kernel_rfl) (by kernel_rfl) (by kernel_rfl) lp_nil fun (x : Int) hw _ => by
    rw [congrFun pletter_tree x]
    exact holds_val (d := pletterC.fn x) (by kernel_rfl) (by simp [Tree.safe])
def wprintG : List (Nat × Ctr) := [(99, rrightC), (51, rsoundC), (130, pletterC), (131, pcdC 19), (45, rupC), (49, rofC)]
abbrev WpS := (List UInt8 × List Int × Int × Int × Unit) × (DConf × Unit)
def wprintD : LoopD where
  prom := []
  ts := [(1, .ptr 1 gConf), (7, .val .str), (68, .val (.sl (.int .i64))), (69, .val (.int .i64)), (70, .val (.int .i64))]
  bs := [(1, .var gConf)]
  pre := fun (x : WpS) => 0 ≤ x.1.2.2.2.1 ∧ x.1.2.2.2.1 ≤ x.1.2.2.1 ∧ x.1.2.2.1 = x.1.2.1.length ∧ x.1.2.2.1 ≤ 16 ∧ (x.1.1.length : Int) ≤ 1000 + 60 * x.1.2.2.2.1 ∧ (∀ j ∈ x.1.2.1, 0 ≤ j ∧ j < 16 ∧ hasF x.2.1.2.2.1 j = true) ∧ cOK x.2.1.2.2
  out := fun (x : WpS) => .leaf (.exit 2, ((x.1.1 ++ linesB x.2.1.2.2 (x.1.2.1.drop x.1.2.2.2.1.toNat), x.1.2.1, x.1.2.2.1, x.1.2.2.1, ()), (x.2.1, ())))
noncomputable def wprintL : List (Nat × LoopSpec) := [(0, rounds (mkC tys wprintG []) (loopB 0 (bodyOf (fnOf Tryd.prog 74))) [] [2, 3, 30, 31] [] 5), (2, wprintD.spec)]
theorem wprint_round : (fun x : WpS => roundOf (mkC tys wprintG wprintL) wprintD (loopB 2 (bodyOf (fnOf Tryd.prog 74))) x) =
  (fun x =>
    Tree.br (decide (x.1.2.2.2.1 < x.1.2.2.1))
      (Tree.need ((0 : Int) ≤ x.1.2.2.2.1 ∧ x.1.2.2.2.1 < (↑(List.length x.1.2.1) : Int))
        (Tree.need ((5 : Nat) + List.length (textN (withF (0 : Int) (List.getD x.1.2.1 (Int.toNat x.1.2.2.2.1) (0 : Int)))) ≤ (4611686018427387904 : Nat))
          (Tree.need
            (List.length ([(108 : UInt8), (105 : UInt8), (110 : UInt8), (107 : UInt8), (32 : UInt8)] ++ textN (withF (0 : Int) (List.getD x.1.2.1 (Int.toNat x.1.2.2.2.1) (0 : Int)))) + (1 : Nat) ≤
              (4611686018427387904 : Nat))
            (Tree.need (IntKind.wrap IntKind.i64 (ofF x.2.1.2.2 (List.getD x.1.2.1 (Int.toNat x.1.2.2.2.1) (0 : Int))) < (10000000000000000000 : Int))
              (Tree.need
                (List.length
                      ([(108 : UInt8), (105 : UInt8), (110 : UInt8), (107 : UInt8), (32 : UInt8)] ++ textN (withF (0 : Int) (List.getD x.1.2.1 (Int.toNat x.1.2.2.2.1) (0 : Int))) ++ [(32 : UInt8)]) +
                    List.length (natT (Int.toNat (IntKind.wrap IntKind.i64 (ofF x.2.1.2.2 (List.getD x.1.2.1 (Int.toNat x.1.2.2.2.1) (0 : Int)))))) ≤
                  (4611686018427387904 : Nat))
                (Tree.need
                  (List.length
                        ([(108 : UInt8), (105 : UInt8), (110 : UInt8), (107 : UInt8), (32 : UInt8)] ++ textN (withF (0 : Int) (List.getD x.1.2.1 (Int.toNat x.1.2.2.2.1) (0 : Int))) ++ [(32 : UInt8)] ++
                          natT (Int.toNat (IntKind.wrap IntKind.i64 (ofF x.2.1.2.2 (List.getD x.1.2.1 (Int.toNat x.1.2.2.2.1) (0 : Int)))))) +
                      (1 : Nat) ≤
                    (4611686018427387904 : Nat))
                  (Tree.need
                    (List.length x.1.1 +
                        List.length
                          ([(108 : UInt8), (105 : UInt8), (110 : UInt8), (107 : UInt8), (32 : UInt8)] ++ textN (withF (0 : Int) (List.getD x.1.2.1 (Int.toNat x.1.2.2.2.1) (0 : Int))) ++
                                [(32 : UInt8)] ++
                              natT (Int.toNat (IntKind.wrap IntKind.i64 (ofF x.2.1.2.2 (List.getD x.1.2.1 (Int.toNat x.1.2.2.2.1) (0 : Int))))) ++
                            [(10 : UInt8)]) ≤
                      (4611686018427387904 : Nat))
                    (Tree.leaf
                      (Ex.normal,
                        some
                          ((x.1.1 ++
                                ([(108 : UInt8), (105 : UInt8), (110 : UInt8), (107 : UInt8), (32 : UInt8)] ++ textN (withF (0 : Int) (List.getD x.1.2.1 (Int.toNat x.1.2.2.2.1) (0 : Int))) ++
                                      [(32 : UInt8)] ++
                                    natT (Int.toNat (IntKind.wrap IntKind.i64 (ofF x.2.1.2.2 (List.getD x.1.2.1 (Int.toNat x.1.2.2.2.1) (0 : Int))))) ++
                                  [(10 : UInt8)]),
                              x.1.2.1, x.1.2.2.1, IntKind.wrap IntKind.i64 (x.1.2.2.2.1 + (1 : Int)), ()),
                            x.2.1, ()))))))))))
      (Tree.leaf (Ex.exit (2 : Nat), some ((x.1.1, x.1.2.1, x.1.2.2.1, x.1.2.2.2.1, ()), x.2.1, ())))) := by kernel_rfl
theorem wprint_tree : (fun x : DConf => evFn (mkC tys wprintG wprintL) (fnOf Tryd.prog 74) (resL printC.args x) printC.res) =
  (fun x =>
    Tree.br (bif !rightF x.1 then true else !soundF x.2.2) (Tree.leaf ([], (1 : Int)))
      (Tree.br true
        (Tree.need ((0 : Int) ≤ (0 : Int) ∧ (0 : Int) < (4 : Int))
          (Tree.br (bif decide (x.2.1.1 < (0 : Int)) then true else decide (x.2.1.1 > (1073741824 : Int))) (Tree.leaf ([], (1 : Int)))
            (Tree.br true
              (Tree.need ((0 : Int) ≤ (1 : Int) ∧ (1 : Int) < (4 : Int))
                (Tree.br (bif decide (x.2.1.2.1 < (0 : Int)) then true else decide (x.2.1.2.1 > (1073741824 : Int))) (Tree.leaf ([], (1 : Int)))
                  (Tree.br true
                    (Tree.need ((0 : Int) ≤ (2 : Int) ∧ (2 : Int) < (4 : Int))
                      (Tree.br (bif decide (x.2.1.2.2.1 < (0 : Int)) then true else decide (x.2.1.2.2.1 > (1073741824 : Int))) (Tree.leaf ([], (1 : Int)))
                        (Tree.br true
                          (Tree.need ((0 : Int) ≤ (3 : Int) ∧ (3 : Int) < (4 : Int))
                            (Tree.br (bif decide (x.2.1.2.2.2 < (0 : Int)) then true else decide (x.2.1.2.2.2 > (1073741824 : Int))) (Tree.leaf ([], (1 : Int)))
                              (Tree.br false
                                (Tree.need ((0 : Int) ≤ (4 : Int) ∧ (4 : Int) < (4 : Int))
                                  (Tree.br
                                    (bif decide (List.getD [x.2.1.1, x.2.1.2.1, x.2.1.2.2.1, x.2.1.2.2.2] (4 : Nat) (0 : Int) < (0 : Int)) then true
                                    else decide (List.getD [x.2.1.1, x.2.1.2.1, x.2.1.2.2.1, x.2.1.2.2.2] (4 : Nat) (0 : Int) > (1073741824 : Int)))
                                    (Tree.leaf ([], (1 : Int))) Tree.stuck))
                                (Tree.need ((5 : Nat) + List.length (textN (withF (0 : Int) x.1)) ≤ (4611686018427387904 : Nat))
                                  (Tree.need
                                    (List.length ([(110 : UInt8), (111 : UInt8), (100 : UInt8), (101 : UInt8), (32 : UInt8)] ++ textN (withF (0 : Int) x.1)) + (7 : Nat) ≤ (4611686018427387904 : Nat))
                                    (Tree.need (x.2.1.1 < (10000000000000000000 : Int))
                                      (Tree.need
                                        (List.length
                                              ([(110 : UInt8), (111 : UInt8), (100 : UInt8), (101 : UInt8), (32 : UInt8)] ++ textN (withF (0 : Int) x.1) ++
                                                [(10 : UInt8), (114 : UInt8), (117 : UInt8), (108 : UInt8), (101 : UInt8), (115 : UInt8), (32 : UInt8)]) +
                                            List.length (natT (Int.toNat x.2.1.1)) ≤
                                          (4611686018427387904 : Nat))
                                        (Tree.need
                                          (List.length
                                                ([(110 : UInt8), (111 : UInt8), (100 : UInt8), (101 : UInt8), (32 : UInt8)] ++ textN (withF (0 : Int) x.1) ++
                                                    [(10 : UInt8), (114 : UInt8), (117 : UInt8), (108 : UInt8), (101 : UInt8), (115 : UInt8), (32 : UInt8)] ++
                                                  natT (Int.toNat x.2.1.1)) +
                                              (1 : Nat) ≤
                                            (4611686018427387904 : Nat))
                                          (Tree.need (x.2.1.2.1 < (10000000000000000000 : Int))
                                            (Tree.need
                                              (List.length
                                                    ([(110 : UInt8), (111 : UInt8), (100 : UInt8), (101 : UInt8), (32 : UInt8)] ++ textN (withF (0 : Int) x.1) ++
                                                          [(10 : UInt8), (114 : UInt8), (117 : UInt8), (108 : UInt8), (101 : UInt8), (115 : UInt8), (32 : UInt8)] ++
                                                        natT (Int.toNat x.2.1.1) ++
                                                      [(32 : UInt8)]) +
                                                  List.length (natT (Int.toNat x.2.1.2.1)) ≤
                                                (4611686018427387904 : Nat))
                                              (Tree.need
                                                (List.length
                                                      ([(110 : UInt8), (111 : UInt8), (100 : UInt8), (101 : UInt8), (32 : UInt8)] ++ textN (withF (0 : Int) x.1) ++
                                                              [(10 : UInt8), (114 : UInt8), (117 : UInt8), (108 : UInt8), (101 : UInt8), (115 : UInt8), (32 : UInt8)] ++
                                                            natT (Int.toNat x.2.1.1) ++
                                                          [(32 : UInt8)] ++
                                                        natT (Int.toNat x.2.1.2.1)) +
                                                    (1 : Nat) ≤
                                                  (4611686018427387904 : Nat))
                                                (Tree.need (x.2.1.2.2.1 < (10000000000000000000 : Int))
                                                  (Tree.need
                                                    (List.length
                                                          ([(110 : UInt8), (111 : UInt8), (100 : UInt8), (101 : UInt8), (32 : UInt8)] ++ textN (withF (0 : Int) x.1) ++
                                                                    [(10 : UInt8), (114 : UInt8), (117 : UInt8), (108 : UInt8), (101 : UInt8), (115 : UInt8), (32 : UInt8)] ++
                                                                  natT (Int.toNat x.2.1.1) ++
                                                                [(32 : UInt8)] ++
                                                              natT (Int.toNat x.2.1.2.1) ++
                                                            [(32 : UInt8)]) +
                                                        List.length (natT (Int.toNat x.2.1.2.2.1)) ≤
                                                      (4611686018427387904 : Nat))
                                                    (Tree.need
                                                      (List.length
                                                            ([(110 : UInt8), (111 : UInt8), (100 : UInt8), (101 : UInt8), (32 : UInt8)] ++ textN (withF (0 : Int) x.1) ++
                                                                        [(10 : UInt8), (114 : UInt8), (117 : UInt8), (108 : UInt8), (101 : UInt8), (115 : UInt8), (32 : UInt8)] ++
                                                                      natT (Int.toNat x.2.1.1) ++
                                                                    [(32 : UInt8)] ++
                                                                  natT (Int.toNat x.2.1.2.1) ++
                                                                [(32 : UInt8)] ++
                                                              natT (Int.toNat x.2.1.2.2.1)) +
                                                          (1 : Nat) ≤
                                                        (4611686018427387904 : Nat))
                                                      (Tree.need (x.2.1.2.2.2 < (10000000000000000000 : Int))
                                                        (Tree.need
                                                          (List.length
                                                                ([(110 : UInt8), (111 : UInt8), (100 : UInt8), (101 : UInt8), (32 : UInt8)] ++ textN (withF (0 : Int) x.1) ++
                                                                              [(10 : UInt8), (114 : UInt8), (117 : UInt8), (108 : UInt8), (101 : UInt8), (115 : UInt8), (32 : UInt8)] ++
                                                                            natT (Int.toNat x.2.1.1) ++
                                                                          [(32 : UInt8)] ++
                                                                        natT (Int.toNat x.2.1.2.1) ++
                                                                      [(32 : UInt8)] ++
                                                                    natT (Int.toNat x.2.1.2.2.1) ++
                                                                  [(32 : UInt8)]) +
                                                              List.length (natT (Int.toNat x.2.1.2.2.2)) ≤
                                                            (4611686018427387904 : Nat))
                                                          (Tree.need
                                                            (List.length
                                                                  ([(110 : UInt8), (111 : UInt8), (100 : UInt8), (101 : UInt8), (32 : UInt8)] ++ textN (withF (0 : Int) x.1) ++
                                                                                  [(10 : UInt8), (114 : UInt8), (117 : UInt8), (108 : UInt8), (101 : UInt8), (115 : UInt8), (32 : UInt8)] ++
                                                                                natT (Int.toNat x.2.1.1) ++
                                                                              [(32 : UInt8)] ++
                                                                            natT (Int.toNat x.2.1.2.1) ++
                                                                          [(32 : UInt8)] ++
                                                                        natT (Int.toNat x.2.1.2.2.1) ++
                                                                      [(32 : UInt8)] ++
                                                                    natT (Int.toNat x.2.1.2.2.2)) +
                                                                (1 : Nat) ≤
                                                              (4611686018427387904 : Nat))
                                                            (Tree.need
                                                              ((0 : Int) ≤ (0 : Int) ∧
                                                                (0 : Int) ≤ (↑(List.length (elemsF x.2.2.1 (16 : Nat))) : Int) ∧
                                                                  (↑(List.length (elemsF x.2.2.1 (16 : Nat))) : Int) = (↑(List.length (elemsF x.2.2.1 (16 : Nat))) : Int) ∧
                                                                    (↑(List.length (elemsF x.2.2.1 (16 : Nat))) : Int) ≤ (16 : Int) ∧
                                                                      (↑(List.length
                                                                                ([(110 : UInt8), (111 : UInt8), (100 : UInt8), (101 : UInt8), (32 : UInt8)] ++ textN (withF (0 : Int) x.1) ++
                                                                                                  [(10 : UInt8), (114 : UInt8), (117 : UInt8), (108 : UInt8), (101 : UInt8), (115 : UInt8),
                                                                                                    (32 : UInt8)] ++
                                                                                                natT (Int.toNat x.2.1.1) ++
                                                                                              [(32 : UInt8)] ++
                                                                                            natT (Int.toNat x.2.1.2.1) ++
                                                                                          [(32 : UInt8)] ++
                                                                                        natT (Int.toNat x.2.1.2.2.1) ++
                                                                                      [(32 : UInt8)] ++
                                                                                    natT (Int.toNat x.2.1.2.2.2) ++
                                                                                  [(10 : UInt8)])) :
                                                                            Int) ≤
                                                                          (1000 : Int) + (60 : Int) * (0 : Int) ∧
                                                                        (∀ (j : Int), j ∈ elemsF x.2.2.1 (16 : Nat) → (0 : Int) ≤ j ∧ j < (16 : Int) ∧ hasF x.2.2.1 j = true) ∧ cOK x.2.2)
                                                              (Tree.leaf
                                                                ([(110 : UInt8), (111 : UInt8), (100 : UInt8), (101 : UInt8), (32 : UInt8)] ++ textN (withF (0 : Int) x.1) ++
                                                                                      [(10 : UInt8), (114 : UInt8), (117 : UInt8), (108 : UInt8), (101 : UInt8), (115 : UInt8), (32 : UInt8)] ++
                                                                                    natT (Int.toNat x.2.1.1) ++
                                                                                  [(32 : UInt8)] ++
                                                                                natT (Int.toNat x.2.1.2.1) ++
                                                                              [(32 : UInt8)] ++
                                                                            natT (Int.toNat x.2.1.2.2.1) ++
                                                                          [(32 : UInt8)] ++
                                                                        natT (Int.toNat x.2.1.2.2.2) ++
                                                                      [(10 : UInt8)] ++
                                                                    linesB x.2.2 (List.drop (Int.toNat (0 : Int)) (elemsF x.2.2.1 (16 : Nat))),
                                                                  (0 : Int)))))))))))))))))))))
                          (Tree.need ((5 : Nat) + List.length (textN (withF (0 : Int) x.1)) ≤ (4611686018427387904 : Nat))
                            (Tree.need (List.length ([(110 : UInt8), (111 : UInt8), (100 : UInt8), (101 : UInt8), (32 : UInt8)] ++ textN (withF (0 : Int) x.1)) + (7 : Nat) ≤ (4611686018427387904 : Nat))
                              (Tree.need (x.2.1.1 < (10000000000000000000 : Int))
                                (Tree.need
                                  (List.length
                                        ([(110 : UInt8), (111 : UInt8), (100 : UInt8), (101 : UInt8), (32 : UInt8)] ++ textN (withF (0 : Int) x.1) ++
                                          [(10 : UInt8), (114 : UInt8), (117 : UInt8), (108 : UInt8), (101 : UInt8), (115 : UInt8), (32 : UInt8)]) +
                                      List.length (natT (Int.toNat x.2.1.1)) ≤
                                    (4611686018427387904 : Nat))
                                  (Tree.need
                                    (List.length
                                          ([(110 : UInt8), (111 : UInt8), (100 : UInt8), (101 : UInt8), (32 : UInt8)] ++ textN (withF (0 : Int) x.1) ++
                                              [(10 : UInt8), (114 : UInt8), (117 : UInt8), (108 : UInt8), (101 : UInt8), (115 : UInt8), (32 : UInt8)] ++
                                            natT (Int.toNat x.2.1.1)) +
                                        (1 : Nat) ≤
                                      (4611686018427387904 : Nat))
                                    (Tree.need (x.2.1.2.1 < (10000000000000000000 : Int))
                                      (Tree.need
                                        (List.length
                                              ([(110 : UInt8), (111 : UInt8), (100 : UInt8), (101 : UInt8), (32 : UInt8)] ++ textN (withF (0 : Int) x.1) ++
                                                    [(10 : UInt8), (114 : UInt8), (117 : UInt8), (108 : UInt8), (101 : UInt8), (115 : UInt8), (32 : UInt8)] ++
                                                  natT (Int.toNat x.2.1.1) ++
                                                [(32 : UInt8)]) +
                                            List.length (natT (Int.toNat x.2.1.2.1)) ≤
                                          (4611686018427387904 : Nat))
                                        (Tree.need
                                          (List.length
                                                ([(110 : UInt8), (111 : UInt8), (100 : UInt8), (101 : UInt8), (32 : UInt8)] ++ textN (withF (0 : Int) x.1) ++
                                                        [(10 : UInt8), (114 : UInt8), (117 : UInt8), (108 : UInt8), (101 : UInt8), (115 : UInt8), (32 : UInt8)] ++
                                                      natT (Int.toNat x.2.1.1) ++
                                                    [(32 : UInt8)] ++
                                                  natT (Int.toNat x.2.1.2.1)) +
                                              (1 : Nat) ≤
                                            (4611686018427387904 : Nat))
                                          (Tree.need (x.2.1.2.2.1 < (10000000000000000000 : Int))
                                            (Tree.need
                                              (List.length
                                                    ([(110 : UInt8), (111 : UInt8), (100 : UInt8), (101 : UInt8), (32 : UInt8)] ++ textN (withF (0 : Int) x.1) ++
                                                              [(10 : UInt8), (114 : UInt8), (117 : UInt8), (108 : UInt8), (101 : UInt8), (115 : UInt8), (32 : UInt8)] ++
                                                            natT (Int.toNat x.2.1.1) ++
                                                          [(32 : UInt8)] ++
                                                        natT (Int.toNat x.2.1.2.1) ++
                                                      [(32 : UInt8)]) +
                                                  List.length (natT (Int.toNat x.2.1.2.2.1)) ≤
                                                (4611686018427387904 : Nat))
                                              (Tree.need
                                                (List.length
                                                      ([(110 : UInt8), (111 : UInt8), (100 : UInt8), (101 : UInt8), (32 : UInt8)] ++ textN (withF (0 : Int) x.1) ++
                                                                  [(10 : UInt8), (114 : UInt8), (117 : UInt8), (108 : UInt8), (101 : UInt8), (115 : UInt8), (32 : UInt8)] ++
                                                                natT (Int.toNat x.2.1.1) ++
                                                              [(32 : UInt8)] ++
                                                            natT (Int.toNat x.2.1.2.1) ++
                                                          [(32 : UInt8)] ++
                                                        natT (Int.toNat x.2.1.2.2.1)) +
                                                    (1 : Nat) ≤
                                                  (4611686018427387904 : Nat))
                                                (Tree.need (x.2.1.2.2.2 < (10000000000000000000 : Int))
                                                  (Tree.need
                                                    (List.length
                                                          ([(110 : UInt8), (111 : UInt8), (100 : UInt8), (101 : UInt8), (32 : UInt8)] ++ textN (withF (0 : Int) x.1) ++
                                                                        [(10 : UInt8), (114 : UInt8), (117 : UInt8), (108 : UInt8), (101 : UInt8), (115 : UInt8), (32 : UInt8)] ++
                                                                      natT (Int.toNat x.2.1.1) ++
                                                                    [(32 : UInt8)] ++
                                                                  natT (Int.toNat x.2.1.2.1) ++
                                                                [(32 : UInt8)] ++
                                                              natT (Int.toNat x.2.1.2.2.1) ++
                                                            [(32 : UInt8)]) +
                                                        List.length (natT (Int.toNat x.2.1.2.2.2)) ≤
                                                      (4611686018427387904 : Nat))
                                                    (Tree.need
                                                      (List.length
                                                            ([(110 : UInt8), (111 : UInt8), (100 : UInt8), (101 : UInt8), (32 : UInt8)] ++ textN (withF (0 : Int) x.1) ++
                                                                            [(10 : UInt8), (114 : UInt8), (117 : UInt8), (108 : UInt8), (101 : UInt8), (115 : UInt8), (32 : UInt8)] ++
                                                                          natT (Int.toNat x.2.1.1) ++
                                                                        [(32 : UInt8)] ++
                                                                      natT (Int.toNat x.2.1.2.1) ++
                                                                    [(32 : UInt8)] ++
                                                                  natT (Int.toNat x.2.1.2.2.1) ++
                                                                [(32 : UInt8)] ++
                                                              natT (Int.toNat x.2.1.2.2.2)) +
                                                          (1 : Nat) ≤
                                                        (4611686018427387904 : Nat))
                                                      (Tree.need
                                                        ((0 : Int) ≤ (0 : Int) ∧
                                                          (0 : Int) ≤ (↑(List.length (elemsF x.2.2.1 (16 : Nat))) : Int) ∧
                                                            (↑(List.length (elemsF x.2.2.1 (16 : Nat))) : Int) = (↑(List.length (elemsF x.2.2.1 (16 : Nat))) : Int) ∧
                                                              (↑(List.length (elemsF x.2.2.1 (16 : Nat))) : Int) ≤ (16 : Int) ∧
                                                                (↑(List.length
                                                                          ([(110 : UInt8), (111 : UInt8), (100 : UInt8), (101 : UInt8), (32 : UInt8)] ++ textN (withF (0 : Int) x.1) ++
                                                                                            [(10 : UInt8), (114 : UInt8), (117 : UInt8), (108 : UInt8), (101 : UInt8), (115 : UInt8), (32 : UInt8)] ++
                                                                                          natT (Int.toNat x.2.1.1) ++
                                                                                        [(32 : UInt8)] ++
                                                                                      natT (Int.toNat x.2.1.2.1) ++
                                                                                    [(32 : UInt8)] ++
                                                                                  natT (Int.toNat x.2.1.2.2.1) ++
                                                                                [(32 : UInt8)] ++
                                                                              natT (Int.toNat x.2.1.2.2.2) ++
                                                                            [(10 : UInt8)])) :
                                                                      Int) ≤
                                                                    (1000 : Int) + (60 : Int) * (0 : Int) ∧
                                                                  (∀ (j : Int), j ∈ elemsF x.2.2.1 (16 : Nat) → (0 : Int) ≤ j ∧ j < (16 : Int) ∧ hasF x.2.2.1 j = true) ∧ cOK x.2.2)
                                                        (Tree.leaf
                                                          ([(110 : UInt8), (111 : UInt8), (100 : UInt8), (101 : UInt8), (32 : UInt8)] ++ textN (withF (0 : Int) x.1) ++
                                                                                [(10 : UInt8), (114 : UInt8), (117 : UInt8), (108 : UInt8), (101 : UInt8), (115 : UInt8), (32 : UInt8)] ++
                                                                              natT (Int.toNat x.2.1.1) ++
                                                                            [(32 : UInt8)] ++
                                                                          natT (Int.toNat x.2.1.2.1) ++
                                                                        [(32 : UInt8)] ++
                                                                      natT (Int.toNat x.2.1.2.2.1) ++
                                                                    [(32 : UInt8)] ++
                                                                  natT (Int.toNat x.2.1.2.2.2) ++
                                                                [(10 : UInt8)] ++
                                                              linesB x.2.2 (List.drop (Int.toNat (0 : Int)) (elemsF x.2.2.1 (16 : Nat))),
                                                            (0 : Int)))))))))))))))))))))
                    (Tree.need ((5 : Nat) + List.length (textN (withF (0 : Int) x.1)) ≤ (4611686018427387904 : Nat))
                      (Tree.need (List.length ([(110 : UInt8), (111 : UInt8), (100 : UInt8), (101 : UInt8), (32 : UInt8)] ++ textN (withF (0 : Int) x.1)) + (7 : Nat) ≤ (4611686018427387904 : Nat))
                        (Tree.need (x.2.1.1 < (10000000000000000000 : Int))
                          (Tree.need
                            (List.length
                                  ([(110 : UInt8), (111 : UInt8), (100 : UInt8), (101 : UInt8), (32 : UInt8)] ++ textN (withF (0 : Int) x.1) ++
                                    [(10 : UInt8), (114 : UInt8), (117 : UInt8), (108 : UInt8), (101 : UInt8), (115 : UInt8), (32 : UInt8)]) +
                                List.length (natT (Int.toNat x.2.1.1)) ≤
                              (4611686018427387904 : Nat))
                            (Tree.need
                              (List.length
                                    ([(110 : UInt8), (111 : UInt8), (100 : UInt8), (101 : UInt8), (32 : UInt8)] ++ textN (withF (0 : Int) x.1) ++
                                        [(10 : UInt8), (114 : UInt8), (117 : UInt8), (108 : UInt8), (101 : UInt8), (115 : UInt8), (32 : UInt8)] ++
                                      natT (Int.toNat x.2.1.1)) +
                                  (1 : Nat) ≤
                                (4611686018427387904 : Nat))
                              (Tree.need (x.2.1.2.1 < (10000000000000000000 : Int))
                                (Tree.need
                                  (List.length
                                        ([(110 : UInt8), (111 : UInt8), (100 : UInt8), (101 : UInt8), (32 : UInt8)] ++ textN (withF (0 : Int) x.1) ++
                                              [(10 : UInt8), (114 : UInt8), (117 : UInt8), (108 : UInt8), (101 : UInt8), (115 : UInt8), (32 : UInt8)] ++
                                            natT (Int.toNat x.2.1.1) ++
                                          [(32 : UInt8)]) +
                                      List.length (natT (Int.toNat x.2.1.2.1)) ≤
                                    (4611686018427387904 : Nat))
                                  (Tree.need
                                    (List.length
                                          ([(110 : UInt8), (111 : UInt8), (100 : UInt8), (101 : UInt8), (32 : UInt8)] ++ textN (withF (0 : Int) x.1) ++
                                                  [(10 : UInt8), (114 : UInt8), (117 : UInt8), (108 : UInt8), (101 : UInt8), (115 : UInt8), (32 : UInt8)] ++
                                                natT (Int.toNat x.2.1.1) ++
                                              [(32 : UInt8)] ++
                                            natT (Int.toNat x.2.1.2.1)) +
                                        (1 : Nat) ≤
                                      (4611686018427387904 : Nat))
                                    (Tree.need (x.2.1.2.2.1 < (10000000000000000000 : Int))
                                      (Tree.need
                                        (List.length
                                              ([(110 : UInt8), (111 : UInt8), (100 : UInt8), (101 : UInt8), (32 : UInt8)] ++ textN (withF (0 : Int) x.1) ++
                                                        [(10 : UInt8), (114 : UInt8), (117 : UInt8), (108 : UInt8), (101 : UInt8), (115 : UInt8), (32 : UInt8)] ++
                                                      natT (Int.toNat x.2.1.1) ++
                                                    [(32 : UInt8)] ++
                                                  natT (Int.toNat x.2.1.2.1) ++
                                                [(32 : UInt8)]) +
                                            List.length (natT (Int.toNat x.2.1.2.2.1)) ≤
                                          (4611686018427387904 : Nat))
                                        (Tree.need
                                          (List.length
                                                ([(110 : UInt8), (111 : UInt8), (100 : UInt8), (101 : UInt8), (32 : UInt8)] ++ textN (withF (0 : Int) x.1) ++
                                                            [(10 : UInt8), (114 : UInt8), (117 : UInt8), (108 : UInt8), (101 : UInt8), (115 : UInt8), (32 : UInt8)] ++
                                                          natT (Int.toNat x.2.1.1) ++
                                                        [(32 : UInt8)] ++
                                                      natT (Int.toNat x.2.1.2.1) ++
                                                    [(32 : UInt8)] ++
                                                  natT (Int.toNat x.2.1.2.2.1)) +
                                              (1 : Nat) ≤
                                            (4611686018427387904 : Nat))
                                          (Tree.need (x.2.1.2.2.2 < (10000000000000000000 : Int))
                                            (Tree.need
                                              (List.length
                                                    ([(110 : UInt8), (111 : UInt8), (100 : UInt8), (101 : UInt8), (32 : UInt8)] ++ textN (withF (0 : Int) x.1) ++
                                                                  [(10 : UInt8), (114 : UInt8), (117 : UInt8), (108 : UInt8), (101 : UInt8), (115 : UInt8), (32 : UInt8)] ++
                                                                natT (Int.toNat x.2.1.1) ++
                                                              [(32 : UInt8)] ++
                                                            natT (Int.toNat x.2.1.2.1) ++
                                                          [(32 : UInt8)] ++
                                                        natT (Int.toNat x.2.1.2.2.1) ++
                                                      [(32 : UInt8)]) +
                                                  List.length (natT (Int.toNat x.2.1.2.2.2)) ≤
                                                (4611686018427387904 : Nat))
                                              (Tree.need
                                                (List.length
                                                      ([(110 : UInt8), (111 : UInt8), (100 : UInt8), (101 : UInt8), (32 : UInt8)] ++ textN (withF (0 : Int) x.1) ++
                                                                      [(10 : UInt8), (114 : UInt8), (117 : UInt8), (108 : UInt8), (101 : UInt8), (115 : UInt8), (32 : UInt8)] ++
                                                                    natT (Int.toNat x.2.1.1) ++
                                                                  [(32 : UInt8)] ++
                                                                natT (Int.toNat x.2.1.2.1) ++
                                                              [(32 : UInt8)] ++
                                                            natT (Int.toNat x.2.1.2.2.1) ++
                                                          [(32 : UInt8)] ++
                                                        natT (Int.toNat x.2.1.2.2.2)) +
                                                    (1 : Nat) ≤
                                                  (4611686018427387904 : Nat))
                                                (Tree.need
                                                  ((0 : Int) ≤ (0 : Int) ∧
                                                    (0 : Int) ≤ (↑(List.length (elemsF x.2.2.1 (16 : Nat))) : Int) ∧
                                                      (↑(List.length (elemsF x.2.2.1 (16 : Nat))) : Int) = (↑(List.length (elemsF x.2.2.1 (16 : Nat))) : Int) ∧
                                                        (↑(List.length (elemsF x.2.2.1 (16 : Nat))) : Int) ≤ (16 : Int) ∧
                                                          (↑(List.length
                                                                    ([(110 : UInt8), (111 : UInt8), (100 : UInt8), (101 : UInt8), (32 : UInt8)] ++ textN (withF (0 : Int) x.1) ++
                                                                                      [(10 : UInt8), (114 : UInt8), (117 : UInt8), (108 : UInt8), (101 : UInt8), (115 : UInt8), (32 : UInt8)] ++
                                                                                    natT (Int.toNat x.2.1.1) ++
                                                                                  [(32 : UInt8)] ++
                                                                                natT (Int.toNat x.2.1.2.1) ++
                                                                              [(32 : UInt8)] ++
                                                                            natT (Int.toNat x.2.1.2.2.1) ++
                                                                          [(32 : UInt8)] ++
                                                                        natT (Int.toNat x.2.1.2.2.2) ++
                                                                      [(10 : UInt8)])) :
                                                                Int) ≤
                                                              (1000 : Int) + (60 : Int) * (0 : Int) ∧
                                                            (∀ (j : Int), j ∈ elemsF x.2.2.1 (16 : Nat) → (0 : Int) ≤ j ∧ j < (16 : Int) ∧ hasF x.2.2.1 j = true) ∧ cOK x.2.2)
                                                  (Tree.leaf
                                                    ([(110 : UInt8), (111 : UInt8), (100 : UInt8), (101 : UInt8), (32 : UInt8)] ++ textN (withF (0 : Int) x.1) ++
                                                                          [(10 : UInt8), (114 : UInt8), (117 : UInt8), (108 : UInt8), (101 : UInt8), (115 : UInt8), (32 : UInt8)] ++
                                                                        natT (Int.toNat x.2.1.1) ++
                                                                      [(32 : UInt8)] ++
                                                                    natT (Int.toNat x.2.1.2.1) ++
                                                                  [(32 : UInt8)] ++
                                                                natT (Int.toNat x.2.1.2.2.1) ++
                                                              [(32 : UInt8)] ++
                                                            natT (Int.toNat x.2.1.2.2.2) ++
                                                          [(10 : UInt8)] ++
                                                        linesB x.2.2 (List.drop (Int.toNat (0 : Int)) (elemsF x.2.2.1 (16 : Nat))),
                                                      (0 : Int)))))))))))))))))))))
              (Tree.need ((5 : Nat) + List.length (textN (withF (0 : Int) x.1)) ≤ (4611686018427387904 : Nat))
                (Tree.need (List.length ([(110 : UInt8), (111 : UInt8), (100 : UInt8), (101 : UInt8), (32 : UInt8)] ++ textN (withF (0 : Int) x.1)) + (7 : Nat) ≤ (4611686018427387904 : Nat))
                  (Tree.need (x.2.1.1 < (10000000000000000000 : Int))
                    (Tree.need
                      (List.length
                            ([(110 : UInt8), (111 : UInt8), (100 : UInt8), (101 : UInt8), (32 : UInt8)] ++ textN (withF (0 : Int) x.1) ++
                              [(10 : UInt8), (114 : UInt8), (117 : UInt8), (108 : UInt8), (101 : UInt8), (115 : UInt8), (32 : UInt8)]) +
                          List.length (natT (Int.toNat x.2.1.1)) ≤
                        (4611686018427387904 : Nat))
                      (Tree.need
                        (List.length
                              ([(110 : UInt8), (111 : UInt8), (100 : UInt8), (101 : UInt8), (32 : UInt8)] ++ textN (withF (0 : Int) x.1) ++
                                  [(10 : UInt8), (114 : UInt8), (117 : UInt8), (108 : UInt8), (101 : UInt8), (115 : UInt8), (32 : UInt8)] ++
                                natT (Int.toNat x.2.1.1)) +
                            (1 : Nat) ≤
                          (4611686018427387904 : Nat))
                        (Tree.need (x.2.1.2.1 < (10000000000000000000 : Int))
                          (Tree.need
                            (List.length
                                  ([(110 : UInt8), (111 : UInt8), (100 : UInt8), (101 : UInt8), (32 : UInt8)] ++ textN (withF (0 : Int) x.1) ++
                                        [(10 : UInt8), (114 : UInt8), (117 : UInt8), (108 : UInt8), (101 : UInt8), (115 : UInt8), (32 : UInt8)] ++
                                      natT (Int.toNat x.2.1.1) ++
                                    [(32 : UInt8)]) +
                                List.length (natT (Int.toNat x.2.1.2.1)) ≤
                              (4611686018427387904 : Nat))
                            (Tree.need
                              (List.length
                                    ([(110 : UInt8), (111 : UInt8), (100 : UInt8), (101 : UInt8), (32 : UInt8)] ++ textN (withF (0 : Int) x.1) ++
                                            [(10 : UInt8), (114 : UInt8), (117 : UInt8), (108 : UInt8), (101 : UInt8), (115 : UInt8), (32 : UInt8)] ++
                                          natT (Int.toNat x.2.1.1) ++
                                        [(32 : UInt8)] ++
                                      natT (Int.toNat x.2.1.2.1)) +
                                  (1 : Nat) ≤
                                (4611686018427387904 : Nat))
                              (Tree.need (x.2.1.2.2.1 < (10000000000000000000 : Int))
                                (Tree.need
                                  (List.length
                                        ([(110 : UInt8), (111 : UInt8), (100 : UInt8), (101 : UInt8), (32 : UInt8)] ++ textN (withF (0 : Int) x.1) ++
                                                  [(10 : UInt8), (114 : UInt8), (117 : UInt8), (108 : UInt8), (101 : UInt8), (115 : UInt8), (32 : UInt8)] ++
                                                natT (Int.toNat x.2.1.1) ++
                                              [(32 : UInt8)] ++
                                            natT (Int.toNat x.2.1.2.1) ++
                                          [(32 : UInt8)]) +
                                      List.length (natT (Int.toNat x.2.1.2.2.1)) ≤
                                    (4611686018427387904 : Nat))
                                  (Tree.need
                                    (List.length
                                          ([(110 : UInt8), (111 : UInt8), (100 : UInt8), (101 : UInt8), (32 : UInt8)] ++ textN (withF (0 : Int) x.1) ++
                                                      [(10 : UInt8), (114 : UInt8), (117 : UInt8), (108 : UInt8), (101 : UInt8), (115 : UInt8), (32 : UInt8)] ++
                                                    natT (Int.toNat x.2.1.1) ++
                                                  [(32 : UInt8)] ++
                                                natT (Int.toNat x.2.1.2.1) ++
                                              [(32 : UInt8)] ++
                                            natT (Int.toNat x.2.1.2.2.1)) +
                                        (1 : Nat) ≤
                                      (4611686018427387904 : Nat))
                                    (Tree.need (x.2.1.2.2.2 < (10000000000000000000 : Int))
                                      (Tree.need
                                        (List.length
                                              ([(110 : UInt8), (111 : UInt8), (100 : UInt8), (101 : UInt8), (32 : UInt8)] ++ textN (withF (0 : Int) x.1) ++
                                                            [(10 : UInt8), (114 : UInt8), (117 : UInt8), (108 : UInt8), (101 : UInt8), (115 : UInt8), (32 : UInt8)] ++
                                                          natT (Int.toNat x.2.1.1) ++
                                                        [(32 : UInt8)] ++
                                                      natT (Int.toNat x.2.1.2.1) ++
                                                    [(32 : UInt8)] ++
                                                  natT (Int.toNat x.2.1.2.2.1) ++
                                                [(32 : UInt8)]) +
                                            List.length (natT (Int.toNat x.2.1.2.2.2)) ≤
                                          (4611686018427387904 : Nat))
                                        (Tree.need
                                          (List.length
                                                ([(110 : UInt8), (111 : UInt8), (100 : UInt8), (101 : UInt8), (32 : UInt8)] ++ textN (withF (0 : Int) x.1) ++
                                                                [(10 : UInt8), (114 : UInt8), (117 : UInt8), (108 : UInt8), (101 : UInt8), (115 : UInt8), (32 : UInt8)] ++
                                                              natT (Int.toNat x.2.1.1) ++
                                                            [(32 : UInt8)] ++
                                                          natT (Int.toNat x.2.1.2.1) ++
                                                        [(32 : UInt8)] ++
                                                      natT (Int.toNat x.2.1.2.2.1) ++
                                                    [(32 : UInt8)] ++
                                                  natT (Int.toNat x.2.1.2.2.2)) +
                                              (1 : Nat) ≤
                                            (4611686018427387904 : Nat))
                                          (Tree.need
                                            ((0 : Int) ≤ (0 : Int) ∧
                                              (0 : Int) ≤ (↑(List.length (elemsF x.2.2.1 (16 : Nat))) : Int) ∧
                                                (↑(List.length (elemsF x.2.2.1 (16 : Nat))) : Int) = (↑(List.length (elemsF x.2.2.1 (16 : Nat))) : Int) ∧
                                                  (↑(List.length (elemsF x.2.2.1 (16 : Nat))) : Int) ≤ (16 : Int) ∧
                                                    (↑(List.length
                                                              ([(110 : UInt8), (111 : UInt8), (100 : UInt8), (101 : UInt8), (32 : UInt8)] ++ textN (withF (0 : Int) x.1) ++
                                                                                [(10 : UInt8), (114 : UInt8), (117 : UInt8), (108 : UInt8), (101 : UInt8), (115 : UInt8), (32 : UInt8)] ++
                                                                              natT (Int.toNat x.2.1.1) ++
                                                                            [(32 : UInt8)] ++
                                                                          natT (Int.toNat x.2.1.2.1) ++
                                                                        [(32 : UInt8)] ++
                                                                      natT (Int.toNat x.2.1.2.2.1) ++
                                                                    [(32 : UInt8)] ++
                                                                  natT (Int.toNat x.2.1.2.2.2) ++
                                                                [(10 : UInt8)])) :
                                                          Int) ≤
                                                        (1000 : Int) + (60 : Int) * (0 : Int) ∧
                                                      (∀ (j : Int), j ∈ elemsF x.2.2.1 (16 : Nat) → (0 : Int) ≤ j ∧ j < (16 : Int) ∧ hasF x.2.2.1 j = true) ∧ cOK x.2.2)
                                            (Tree.leaf
                                              ([(110 : UInt8), (111 : UInt8), (100 : UInt8), (101 : UInt8), (32 : UInt8)] ++ textN (withF (0 : Int) x.1) ++
                                                                    [(10 : UInt8), (114 : UInt8), (117 : UInt8), (108 : UInt8), (101 : UInt8), (115 : UInt8), (32 : UInt8)] ++
                                                                  natT (Int.toNat x.2.1.1) ++
                                                                [(32 : UInt8)] ++
                                                              natT (Int.toNat x.2.1.2.1) ++
                                                            [(32 : UInt8)] ++
                                                          natT (Int.toNat x.2.1.2.2.1) ++
                                                        [(32 : UInt8)] ++
                                                      natT (Int.toNat x.2.1.2.2.2) ++
                                                    [(10 : UInt8)] ++
                                                  linesB x.2.2 (List.drop (Int.toNat (0 : Int)) (elemsF x.2.2.1 (16 : Nat))),
                                                (0 : Int)))))))))))))))))))))
        (Tree.need ((5 : Nat) + List.length (textN (withF (0 : Int) x.1)) ≤ (4611686018427387904 : Nat))
          (Tree.need (List.length ([(110 : UInt8), (111 : UInt8), (100 : UInt8), (101 : UInt8), (32 : UInt8)] ++ textN (withF (0 : Int) x.1)) + (7 : Nat) ≤ (4611686018427387904 : Nat))
            (Tree.need (x.2.1.1 < (10000000000000000000 : Int))
              (Tree.need
                (List.length
                      ([(110 : UInt8), (111 : UInt8), (100 : UInt8), (101 : UInt8), (32 : UInt8)] ++ textN (withF (0 : Int) x.1) ++
                        [(10 : UInt8), (114 : UInt8), (117 : UInt8), (108 : UInt8), (101 : UInt8), (115 : UInt8), (32 : UInt8)]) +
                    List.length (natT (Int.toNat x.2.1.1)) ≤
                  (4611686018427387904 : Nat))
                (Tree.need
                  (List.length
                        ([(110 : UInt8), (111 : UInt8), (100 : UInt8), (101 : UInt8), (32 : UInt8)] ++ textN (withF (0 : Int) x.1) ++
                            [(10 : UInt8), (114 : UInt8), (117 : UInt8), (108 : UInt8), (101 : UInt8), (115 : UInt8), (32 : UInt8)] ++
                          natT (Int.toNat x.2.1.1)) +
                      (1 : Nat) ≤
                    (4611686018427387904 : Nat))
                  (Tree.need (x.2.1.2.1 < (10000000000000000000 : Int))
                    (Tree.need
                      (List.length
                            ([(110 : UInt8), (111 : UInt8), (100 : UInt8), (101 : UInt8), (32 : UInt8)] ++ textN (withF (0 : Int) x.1) ++
                                  [(10 : UInt8), (114 : UInt8), (117 : UInt8), (108 : UInt8), (101 : UInt8), (115 : UInt8), (32 : UInt8)] ++
                                natT (Int.toNat x.2.1.1) ++
                              [(32 : UInt8)]) +
                          List.length (natT (Int.toNat x.2.1.2.1)) ≤
                        (4611686018427387904 : Nat))
                      (Tree.need
                        (List.length
                              ([(110 : UInt8), (111 : UInt8), (100 : UInt8), (101 : UInt8), (32 : UInt8)] ++ textN (withF (0 : Int) x.1) ++
                                      [(10 : UInt8), (114 : UInt8), (117 : UInt8), (108 : UInt8), (101 : UInt8), (115 : UInt8), (32 : UInt8)] ++
                                    natT (Int.toNat x.2.1.1) ++
                                  [(32 : UInt8)] ++
                                natT (Int.toNat x.2.1.2.1)) +
                            (1 : Nat) ≤
                          (4611686018427387904 : Nat))
                        (Tree.need (x.2.1.2.2.1 < (10000000000000000000 : Int))
                          (Tree.need
                            (List.length
                                  ([(110 : UInt8), (111 : UInt8), (100 : UInt8), (101 : UInt8), (32 : UInt8)] ++ textN (withF (0 : Int) x.1) ++
                                            [(10 : UInt8), (114 : UInt8), (117 : UInt8), (108 : UInt8), (101 : UInt8), (115 : UInt8), (32 : UInt8)] ++
                                          natT (Int.toNat x.2.1.1) ++
                                        [(32 : UInt8)] ++
                                      natT (Int.toNat x.2.1.2.1) ++
                                    [(32 : UInt8)]) +
                                List.length (natT (Int.toNat x.2.1.2.2.1)) ≤
                              (4611686018427387904 : Nat))
                            (Tree.need
                              (List.length
                                    ([(110 : UInt8), (111 : UInt8), (100 : UInt8), (101 : UInt8), (32 : UInt8)] ++ textN (withF (0 : Int) x.1) ++
                                                [(10 : UInt8), (114 : UInt8), (117 : UInt8), (108 : UInt8), (101 : UInt8), (115 : UInt8), (32 : UInt8)] ++
                                              natT (Int.toNat x.2.1.1) ++
                                            [(32 : UInt8)] ++
                                          natT (Int.toNat x.2.1.2.1) ++
                                        [(32 : UInt8)] ++
                                      natT (Int.toNat x.2.1.2.2.1)) +
                                  (1 : Nat) ≤
                                (4611686018427387904 : Nat))
                              (Tree.need (x.2.1.2.2.2 < (10000000000000000000 : Int))
                                (Tree.need
                                  (List.length
                                        ([(110 : UInt8), (111 : UInt8), (100 : UInt8), (101 : UInt8), (32 : UInt8)] ++ textN (withF (0 : Int) x.1) ++
                                                      [(10 : UInt8), (114 : UInt8), (117 : UInt8), (108 : UInt8), (101 : UInt8), (115 : UInt8), (32 : UInt8)] ++
                                                    natT (Int.toNat x.2.1.1) ++
                                                  [(32 : UInt8)] ++
                                                natT (Int.toNat x.2.1.2.1) ++
                                              [(32 : UInt8)] ++
                                            natT (Int.toNat x.2.1.2.2.1) ++
                                          [(32 : UInt8)]) +
                                      List.length (natT (Int.toNat x.2.1.2.2.2)) ≤
                                    (4611686018427387904 : Nat))
                                  (Tree.need
                                    (List.length
                                          ([(110 : UInt8), (111 : UInt8), (100 : UInt8), (101 : UInt8), (32 : UInt8)] ++ textN (withF (0 : Int) x.1) ++
                                                          [(10 : UInt8), (114 : UInt8), (117 : UInt8), (108 : UInt8), (101 : UInt8), (115 : UInt8), (32 : UInt8)] ++
                                                        natT (Int.toNat x.2.1.1) ++
                                                      [(32 : UInt8)] ++
                                                    natT (Int.toNat x.2.1.2.1) ++
                                                  [(32 : UInt8)] ++
                                                natT (Int.toNat x.2.1.2.2.1) ++
                                              [(32 : UInt8)] ++
                                            natT (Int.toNat x.2.1.2.2.2)) +
                                        (1 : Nat) ≤
                                      (4611686018427387904 : Nat))
                                    (Tree.need
                                      ((0 : Int) ≤ (0 : Int) ∧
                                        (0 : Int) ≤ (↑(List.length (elemsF x.2.2.1 (16 : Nat))) : Int) ∧
                                          (↑(List.length (elemsF x.2.2.1 (16 : Nat))) : Int) = (↑(List.length (elemsF x.2.2.1 (16 : Nat))) : Int) ∧
                                            (↑(List.length (elemsF x.2.2.1 (16 : Nat))) : Int) ≤ (16 : Int) ∧
                                              (↑(List.length
                                                        ([(110 : UInt8), (111 : UInt8), (100 : UInt8), (101 : UInt8), (32 : UInt8)] ++ textN (withF (0 : Int) x.1) ++
                                                                          [(10 : UInt8), (114 : UInt8), (117 : UInt8), (108 : UInt8), (101 : UInt8), (115 : UInt8), (32 : UInt8)] ++
                                                                        natT (Int.toNat x.2.1.1) ++
                                                                      [(32 : UInt8)] ++
                                                                    natT (Int.toNat x.2.1.2.1) ++
                                                                  [(32 : UInt8)] ++
                                                                natT (Int.toNat x.2.1.2.2.1) ++
                                                              [(32 : UInt8)] ++
                                                            natT (Int.toNat x.2.1.2.2.2) ++
                                                          [(10 : UInt8)])) :
                                                    Int) ≤
                                                  (1000 : Int) + (60 : Int) * (0 : Int) ∧
                                                (∀ (j : Int), j ∈ elemsF x.2.2.1 (16 : Nat) → (0 : Int) ≤ j ∧ j < (16 : Int) ∧ hasF x.2.2.1 j = true) ∧ cOK x.2.2)
                                      (Tree.leaf
                                        ([(110 : UInt8), (111 : UInt8), (100 : UInt8), (101 : UInt8), (32 : UInt8)] ++ textN (withF (0 : Int) x.1) ++
                                                              [(10 : UInt8), (114 : UInt8), (117 : UInt8), (108 : UInt8), (101 : UInt8), (115 : UInt8), (32 : UInt8)] ++
                                                            natT (Int.toNat x.2.1.1) ++
                                                          [(32 : UInt8)] ++
                                                        natT (Int.toNat x.2.1.2.1) ++
                                                      [(32 : UInt8)] ++
                                                    natT (Int.toNat x.2.1.2.2.1) ++
                                                  [(32 : UInt8)] ++
                                                natT (Int.toNat x.2.1.2.2.2) ++
                                              [(10 : UInt8)] ++
                                            linesB x.2.2 (List.drop (Int.toNat (0 : Int)) (elemsF x.2.2.1 (16 : Nat))),
                                          (0 : Int)))))))))))))))))))) := by kernel_rfl
theorem wprint_loop : LoopOK (mkC tys wprintG wprintL) wprintD.spec (loopB 2 (bodyOf (fnOf Tryd.prog 74))) :=
  loopD_ok1 (fun _ => rfl) (fun x => congrFun wprint_round x) (fun (x : WpS) => (x.1.2.2.1 - x.1.2.2.2.1).toNat) fun (x : WpS) hp => by
    obtain ⟨⟨o, l, n, i, ⟨⟩⟩, f, ⟨⟩⟩ := x
    obtain ⟨h1, h2, h3, h4, h5, h6, h7⟩ := hp
    simp only at h1 h2 h3 h4 h5 h6 h7
    simp only [Tree.holds]
    refine ⟨fun h => ?_, fun h => ?_⟩
    · have h' : i < n := by simpa using h
      have e : IntKind.i64.wrap (i + 1) = i + 1 := i64_id (by omega) (by omega)
      have hm := h6 _ (getD_mem (l := l) h1 (by omega))
      have hd := drop_int (l := l) h1 (by omega)
      generalize l.getD i.toNat 0 = v at hm hd ⊢
      have hr := h7.2 v.toNat
      have hel := lineB_len f.2.2 v
      have hof : ofF f.2.2 v = f.2.2.2.getD v.toNat 0 := by unfold ofF; rw [hm.2.2]; rfl
      rw [hof, i64_id (n := f.2.2.2.getD v.toNat 0) (by omega) (by omega)]
      unfold lineB at hel
      have hk : ∀ o2, o2 = o ++ lineB f.2.2 v → (0 ≤ IntKind.i64.wrap (i + 1) ∧ IntKind.i64.wrap (i + 1) ≤ n ∧ n = l.length ∧ n ≤ 16 ∧ (o2.length : Int) ≤ 1000 + 60 * IntKind.i64.wrap (i + 1) ∧ (∀ j ∈ l, 0 ≤ j ∧ j < 16 ∧ hasF f.2.2.1 j = true) ∧ cOK f.2.2) ∧ (n - IntKind.i64.wrap (i + 1)).toNat < (n - i).toNat ∧
          (Ex.exit 2, ((o2 ++ linesB f.2.2 (l.drop (IntKind.i64.wrap (i + 1)).toNat), l, n, n, ()), (f, ()))) = (Ex.exit 2, ((o ++ linesB f.2.2 (l.drop i.toNat), l, n, n, ()), (f, ()))) := by
        rintro o2 rfl
        have := lineB_len f.2.2 v
        rw [e, hd, lines_cons]
        refine ⟨⟨by omega, by omega, h3, h4, ?_, h6, h7⟩, by omega, ?_⟩
        · rw [List.length_append]; omega
        · rw [List.append_assoc]
      unfold lineB at hk
      generalize f.2.2.2.getD v.toNat 0 = u at hr hel hk ⊢
      generalize textN (withF 0 v) = a1 at hel hk ⊢
      generalize natT u.toNat = a2 at hel hk ⊢
      simp only [List.length_append, List.length_cons, List.length_nil] at hel
      refine ⟨⟨h1, by omega⟩, ?_, ?_, ?_, ?_, ?_, ?_, _, rfl, hk _ rfl⟩
      all_goals first | omega | (simp only [List.length_append, List.length_cons, List.length_nil]; omega)
    · have h' : ¬ i < n := by simpa using h
      have hi : i = n := by omega
      subst hi
      refine ⟨_, rfl, ?_⟩
      show (Ex.exit 2, ((o ++ linesB f.2.2 (l.drop i.toNat), l, i, i, ()), (f, ()))) = _
      rw [List.drop_eq_nil_of_le (by omega), show linesB f.2.2 [] = [] from rfl, List.append_nil]
      rfl
theorem wprint_ok : CtrOK Tryd.prog 74 printC :=
  fun_ok (G := wprintG) (Λ := wprintL) tysOK (ctrs_cons rright_ok (ctrs_cons rsound_ok (ctrs_cons pletter_ok (ctrs_cons (pcd_ok 19) (ctrs_cons rup_ok (ctrs_cons rof_ok ctrs_nil)))))) mixed (by kernel_rfl) (by kernel_rfl) (by kernel_rfl) (by kernel_rfl) (lp_cons (rounds_ok0 rfl rfl rfl (by kernel_rfl)) (lp_cons wprint_loop lp_nil)) fun (x : DConf) hw _ => by
    rw [congrFun wprint_tree x]
    have e : printC.fn x = printF x := rfl
    have hl := elems_len x.2.2.1 16
    rw [e]
    have b0 := textN_len (withF 0 x.1)
    have b1 := digN_len 20 x.2.1.1.toNat
    have b2 := digN_len 20 x.2.1.2.1.toNat
    have b3 := digN_len 20 x.2.1.2.2.1.toNat
    have b4 := digN_len 20 x.2.1.2.2.2.toNat
    have hpre : (∀ j ∈ elemsF x.2.2.1 16, 0 ≤ j ∧ j < 16 ∧ hasF x.2.2.1 j = true) ∧ cOK x.2.2 := ⟨fun j hj => elem_in (Nat.le_refl 16) hj, cOK_wt hw.2.2⟩
    simp only [Tree.holds]
    refine ⟨fun h => print_bad h, fun h => ⟨fun _ => ⟨⟨by omega, by omega⟩, fun g1 => print_num h (rb1 g1), fun g1 => ⟨fun _ => ⟨⟨by omega, by omega⟩, fun g2 => print_num h (rb2 g1 g2), fun g2 => ⟨fun _ => ⟨⟨by omega, by omega⟩, fun g3 => print_num h (rb3 g1 g2 g3), fun g3 => ⟨fun _ => ⟨⟨by omega, by omega⟩, fun g4 => print_num h (rb4 g1 g2 g3 g4), fun g4 => ⟨nofun, fun _ => ?_⟩⟩, nofun⟩⟩, nofun⟩⟩, nofun⟩⟩, nofun⟩⟩
    have q1 := numBad_no g1
    have q2 := numBad_no g2
    have q3 := numBad_no g3
    have q4 := numBad_no g4
    have ht := head_text (c := x) g1 g2 g3 g4
    unfold natT at ht ⊢
    refine ⟨?_, ?_, ?_, ?_, ?_, ?_, ?_, ?_, ?_, ?_, ?_, ?_, ?_, ?_, ⟨?_, ?_, ?_, ?_, ?_, hpre.1, hpre.2⟩, ?_⟩
    rotate_right
    · rw [ht]
      exact print_good h (rb4 g1 g2 g3 g4)
    all_goals first | trivial | omega | (simp only [List.length_append, List.length_cons, List.length_nil]; omega)
end Go.Ev.D
